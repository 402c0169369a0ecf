/- A range over a function that hands over nothing; a function that leaves with that loop's mark. No program in sight. -/
import Derived.Test.YtmfplcmncipojaaSep
import Derived.RangeFuncFrom
import Derived.RangeFuncLeaves
namespace Go.Proofs.Ytmfplcmncipojaa
set_option linter.unusedVariables false
open Go.RowKit

theorem ownFrom_step (w : World) (n : Nat) (hn : w.heap.size ≤ n) : OwnFrom n (fun (_ : List Empty) (W : World) => Step [] w W) := by
  intro s W W' row hs hg hr
  exact hs.grown hg (fun k hk => .inr (by have := (hr k hk).1; omega))

/-- an iterator that ends without a word -/
theorem wp_range_none {P : Program} {g : Operand} {ps : Array Tmp} {assign body : Code} {Q : Exit → Act → World → Prop} {a : Act} {w : World} {gf : Nat} {lb : Array Value}
    (hg : a.eval g = .func (.func gf) #[] lb) (eg : ∀ args w, (callFunc gf args).run P w = .ok (.enter gf args) w)
    (hit : ∀ (l : Nat) (W : World), Step [] w W → Calls P gf (#[.func (.yield l) #[] #[]] ++ lb) W fun e W' => (∃ v, e = .returned v) ∧ W = W')
    (hdone : ∀ (D : Nat) (W : World), w.heap.size ≤ D → Step [] w W → W.heap[D]? = some (.deferred (some [])) → Q .normal { a with defers := { target := .collected D, args := #[] } :: a.defers } W) :
    (Code.rangeFunc g ps assign body).wp P Q a w := by
  refine (wpIn_wide (n := 3)).1 ?_
  refine wpIn_rangeFunc_ownF (α := Empty) (encs := fun x => x.elim) (Kp := Below w.heap.size) (S := fun _ => True) (Sp := fun _ => False) (N := 0) (w0 := w) rfl (by omega) hg trivial eg ?_ belowK_t (belowK_b (Nat.le_refl _)) (Below.refl _ _) (fun x => x.elim)
    (fun _ W => Step [] w W) (fun _ _ _ => False) (ownFrom_step w _ (Nat.le_refl _)) (fun _ _ _ _ _ hs _ _ => hs) (Step.refl _ _) (fun x => x.elim) (fun _ x => x.elim) (fun _ _ x => x.elim) ?_ ?_
  · intro l J Jx W hW hJ hJx hY h0
    refine (callsIn_wide.2 (hit l W (Step.of_below hW []))).mono ?_
    rintro e W' ⟨hv, rfl⟩
    exact ⟨hv, .inl ⟨[], trivial, h0⟩⟩
  · intro D xs W hD _ hs hK
    exact hdone D W hD hs hK
  · intro D c pre W hD h
    exact h.elim

theorem calls_of_wp_marks {P : Program} {f : FuncId} {fn : Func} {c : Code} {args : Array Value} {w : World} {R : Ending → World → Prop}
    (hf : P.funcs[f]? = some fn) (hb : fn.body = some c)
    (h : c.wp P (bodyPostM Fence.wide 3 P fn R) { tmps := args ++ Array.replicate (fn.ntmps - args.size) undef, defers := [] } w) : Calls P f args w R :=
  callsIn_wide.1 (callsIn_of_wp_marks hf hb trivial (wpIn_wide.2 h))
end Go.Proofs.Ytmfplcmncipojaa
