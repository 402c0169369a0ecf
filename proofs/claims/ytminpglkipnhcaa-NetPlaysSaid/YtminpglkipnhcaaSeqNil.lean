/- A range over a function that hands over nothing, but makes memory. No program in sight. -/
import Derived.Test.YtminpglkipnhcaaRangeSep
import Derived.Test.YtminpglkipnhcaaSeqNone
namespace Go.Proofs.Ytminpglkipnhcaa
set_option linter.unusedVariables false
open Go.RowKit

theorem wp_range_nil {P : Program} {g : Operand} {ps : Array Tmp} {assign body : Code} {Q : Exit → Act → World → Prop} {a : Act} {w : World} {gf : Nat} {lb : Array Value}
    (hg : a.eval g = .func (.func gf) #[] lb) (eg : ∀ args w, (callFunc gf args).run P w = .ok (.enter gf args) w)
    (hit : ∀ (l : Nat) (W : World), Step [] w W → Calls P gf (#[.func (.yield l) #[] #[]] ++ lb) W fun e W' => (∃ v, e = .returned v) ∧ Step [] W W')
    (hdone : ∀ (D : Nat) (W : World), w.heap.size ≤ D → Step [] w W → W.heap[D]? = some (.deferred (some [])) → Q .normal { a with defers := { target := .collected D, args := #[] } :: a.defers } W) :
    (Code.rangeFunc g ps assign body).wp P Q a w := by
  refine (wpIn_wide (n := 3)).1 ?_
  have hlive : ∀ A, Step [] w A → Live A (List.range w.heap.size) := fun A hA k hk => Nat.lt_of_lt_of_le (List.mem_range.1 hk) hA.size
  refine wpIn_range_sep (α := Empty) (encs := fun x => x.elim) (R := []) (V := fun _ => True) (S := fun _ => True) (Sp := fun _ => False) (Pre := Step [] w) rfl (by omega) hg trivial eg
    (fun l J Jx W hW hJ hJx hY h0 => (callsIn_wide.2 (hit l W hW)).mono fun e W' h => ⟨h.1, .inl ⟨[], [], trivial, hJ [] W W' [] [] h0 h.2 (fun k hk => by cases hk) (fun k hk => by cases hk)⟩⟩)
    (fun W h => h) (fun x => x.elim) (fun k hk => by cases hk)
    (fun _ A C => C = List.range w.heap.size ∧ Step [] w A) (fun _ _ _ _ => False)
    (fun s A B C H h hs hd => ⟨h.1, h.2.then hs (fun k hk => .inr (by
      rcases Nat.lt_or_ge k w.heap.size with hlt | hge
      · exact absurd hk (hd k (by rw [h.1]; exact List.mem_range.2 hlt))
      · exact hge))⟩)
    (fun s A C h => by rw [h.1]; exact hlive A h.2) (fun s A C h k hk => by cases hk)
    (fun _ _ _ _ _ _ h => h.elim) (fun _ _ _ _ h => h.elim) (List.range w.heap.size) ⟨rfl, Step.refl _ _⟩ (fun _ _ _ => True) (fun _ _ _ _ _ _ _ _ _ => trivial)
    (fun _ _ x => x.elim) (fun _ _ x => x.elim) ?_ ?_
  · intro D xs B C hD hDC hS hI hK
    exact hdone D B hD hI.2 hK
  · intro D c pre B C hD hDC hSp h
    exact h.elim
end Go.Proofs.Ytminpglkipnhcaa
