/- Frames by their slots; a loop whose rounds leave marks. No program in sight. -/
import Derived.Test.YtkogchmnpffiaaaMarks
namespace Go.Proofs.Ytkogchmnpffiaaa
set_option linter.unusedVariables false
open Go.RowKit
/-- a frame of n slots -/
def litN (n : Nat) (f : Nat → Value) : Array Value := ((List.range n).map f).toArray
theorem litN_size (n : Nat) (f : Nat → Value) : (litN n f).size = n := by simp [litN]
theorem tmps_lit {T : Array Value} {n : Nat} (h : T.size = n) : T = litN n (fun k => T.getD k undef) := by
  apply Array.ext
  · rw [litN_size, h]
  · intro i h1 h2
    simp [litN, Array.getD, h1]
theorem act_lit {a : Act} {n : Nat} (h : a.tmps.size = n) : a = { tmps := litN n (fun k => a.tmps.getD k undef), defers := a.defers } := by
  obtain ⟨T, d⟩ := a
  rw [← tmps_lit h]
/-- a loop whose rounds leave marks: what holds of the slots, the world and the marks -/
theorem wp_loop_marks {P : Program} {c : Code} {Q : Exit → Act → World → Prop} {a : Act} {w : World} (n : Nat) (R : (Nat → Value) → World → List Nat → Prop) (μ : (Nat → Value) → Nat)
    (h0 : a.tmps.size = n ∧ ∃ Ds, a.defers = mks Ds ∧ R (fun k => a.tmps.getD k undef) w Ds)
    (round : ∀ (f : Nat → Value) (w : World) (Ds : List Nat), R f w Ds → c.wp P (Exit.then (fun a' w' => (a'.tmps.size = n ∧ ∃ Ds', a'.defers = mks Ds' ∧ R (fun k => a'.tmps.getD k undef) w' Ds') ∧ μ (fun k => a'.tmps.getD k undef) < μ f) Q) { tmps := litN n f, defers := mks Ds } w) :
    (Code.loop c).wp P Q a w := by
  refine wp_loop (I := fun a w => a.tmps.size = n ∧ ∃ Ds, a.defers = mks Ds ∧ R (fun k => a.tmps.getD k undef) w Ds) (μ := fun a _ => μ (fun k => a.tmps.getD k undef)) h0 ?_
  rintro a w ⟨hs, Ds, hd, hR⟩
  have h1 := round _ w Ds hR
  rw [act_lit hs, hd]
  exact wp_mono h1 (fun e a' w' hq => by
    cases e with
    | normal =>
      have hg : ∀ k, (litN n (fun k => a.tmps.getD k undef)).getD k undef = a.tmps.getD k undef := fun k => by rw [← tmps_lit hs]
      simp only [Exit.then] at hq ⊢
      refine ⟨hq.1, ?_⟩
      simp only [hg]
      exact hq.2
    | _ => exact hq)
end Go.Proofs.Ytkogchmnpffiaaa
