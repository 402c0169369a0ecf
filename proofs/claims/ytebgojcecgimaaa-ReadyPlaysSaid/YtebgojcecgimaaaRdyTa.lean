/- ReadyTakes: the law's helpers: a name by its number; who is ahead. -/
import Derived.Test.YtebgojcecgimaaaRdyG
import Derived.Test.YtebgojcecgimaaaNm2
namespace Go.Proofs.Ytebgojcecgimaaa
set_option linter.unusedVariables false
set_option linter.unusedSimpArgs false
open Go.RowKit Go.Shelf
namespace Rd
set_option maxHeartbeats 400000 in
theorem name_any (i : Nat) (hi : i < 100) (w : World) :
    Calls Try.prog 8 #[.int .i64 (i : Int)] w fun e w' => e = .returned (.string (nm2 i)) ∧ Step [] w w' := by
  have hcv := run_convert_bytes_arg (P := Try.prog) (w.alloc (.cells #[.int .u8 (97 + (i : Int) / 10), .int .u8 (97 + (i : Int) % 10)] 5)) 26 5 Try.underlying26 Try.underlying5 w.heap.size 0 2 2 [97 + (i : Int) / 10, 97 + (i : Int) % 10] rfl
      (fun j hj => by rcases (by omega : j = 0 ∨ j = 1) with rfl | rfl <;> simp) 9 Try.underlying9
  rw [nm2_val i hi] at hcv
  have hb1 : 0 ≤ (i : Int) / 10 ∧ (i : Int) / 10 < 10 := by omega
  have hb2 : 0 ≤ (i : Int) % 10 ∧ (i : Int) % 10 < 10 := by omega
  go_enter Try.func8, Try.ntmps8
  go_wp2_with fail
  go_ret
  exact ⟨rfl, (Step.refl [] w).alloc _⟩
/-- is one ahead of another? -/
def Ahd (p : Int) (x : It) (p' : Int) (x' : It) : Prop := p < p' ∨ p = p' ∧ HpE.lt x x' = true
theorem lt_cases {x y : It} (h : HpE.lt x y = true) : x.2 < y.2 ∨ x.2 = y.2 ∧ ltStr x.1 y.1 = true := by
  simp only [HpE.lt, Hp.ltI, Bool.or_eq_true, decide_eq_true_eq, Bool.and_eq_true] at h
  exact h
set_option maxRecDepth 20000 in
set_option maxHeartbeats 1000000 in
theorem ahead_any (p : Int) (x : It) (p' : Int) (x' : It) (w : World) (h : Ahd p x p' x') :
    Calls Try.prog 11 #[.agg #[.string x.1, .int .i64 p, .int .u64 x.2], .agg #[.string x'.1, .int .i64 p', .int .u64 x'.2]] w fun e w' => e = .returned (.bool true) ∧ Step [] w w' := by
  obtain ⟨k, o⟩ := x
  obtain ⟨k', o'⟩ := x'
  dsimp only
  have hS := fun (w : World) => ((Step.refl [] w).alloc (.cells #[.string k, .int .i64 p, .int .u64 o] 33)).alloc (.cells #[.string k', .int .i64 p', .int .u64 o'] 33)
  have HS := Lib.hid (hS w)
  clear hS
  rcases h with h | ⟨rfl, h⟩
  · go_enter Try.func11, Try.ntmps11
    go_wp2_with fail
    go_ret
    exact ⟨rfl, HS.out⟩
  · rcases lt_cases h with h1 | ⟨h1, h2⟩
    · clear h
      dsimp only at h1
      go_enter Try.func11, Try.ntmps11
      go_wp2_with fail
      go_ret
      exact ⟨rfl, HS.out⟩
    · clear h
      dsimp only at h1 h2
      subst h1
      unfold ltStr at h2
      go_enter Try.func11, Try.ntmps11
      go_wp2_with fail
      go_ret
      exact ⟨rfl, HS.out⟩
end Rd
end Go.Proofs.Ytebgojcecgimaaa
