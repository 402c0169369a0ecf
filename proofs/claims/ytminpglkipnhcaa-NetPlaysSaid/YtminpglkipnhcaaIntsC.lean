/- Slices of ints: slices.Clone. -/
import Derived.Test.YtminpglkipnhcaaIntsB
namespace Go.Proofs.Ytminpglkipnhcaa
set_option linter.unusedVariables false
open Go.RowKit
/-- a new slice of the callee's own, with these ints -/
def NewInts (l : List Int) (w : World) (e : Ending) (w' : World) : Prop :=
  ∃ v, e = .returned v ∧ w'.ownsRow w.heap.size 3 1 v l.length (l.map iVal) ∧ Step [] w w'

set_option maxHeartbeats 1000000 in
theorem clone_ints (a : Option Addr) (cap : Nat) (l : List Int) (w : World) (hn : a = none → l.length = 0 ∧ cap = 0) (hB : Ints w a l) (hlen : l.length ≤ 4398046511104) :
    Calls Try.prog 36 #[.slice a l.length cap] w (NewInts l w) := by
  cases a with
  | none =>
    obtain ⟨h0, rfl⟩ := hn rfl
    have : l = [] := List.eq_nil_of_length_eq_zero h0
    subst this
    have he := fun w => Lib.run_eql_slice_nil (P := Try.prog) w 28 3 none 0 0 0 0 Try.underlying28
    go_enter Try.func36, Try.ntmps36
    go_wp2
    go_ret
    exact ⟨_, rfl, World.ownsRow_nil _ _ _ _, Step.refl _ _⟩
  | some x =>
    obtain ⟨i0, hi, hz0, hz1, hz2⟩ := info_parts Try.infoI
    have he := fun w => Lib.run_eql_slice_nil (P := Try.prog) w 28 3 (some x) l.length cap 0 0 Try.underlying28
    simp at he
    have HB := Lib.hid hB
    clear hB hn
    go_enter Try.func36, Try.ntmps36
    go_wp2_with (at_builtin; refine wpList_append_own_any rfl (.tmp 5) (.tmp 6) 28 rfl w.heap.size 3 i0 (.int .i64 0) 1 8 Try.underlying28 hi hz0 hz1 hz2 rfl (by decide) _ 0 [] rfl (World.ownsRow_made _ _ 0 (Nat.le_refl _) (Nat.zero_le _) rfl) (some x) l.length cap (l.map iVal) rfl (by intro h; cases h) (by simp) ((HB.out.step ((Step.refl [] w).alloc _) (by simp)).news) (iVals_cell _) (by unfold maxLen; omega) (by omega) (by simp) ?_)
    intro v2 w2 hown2 hg2
    have hs2 : Step [] w w2 := ((Step.refl _ _).alloc _).grown hg2 (fun k hk => by cases hk; exact .inr (Nat.le_refl _))
    have HO := Lib.hid hown2
    clear hown2 hg2
    go_wp2
    go_ret
    exact ⟨v2, rfl, by simpa using HO.out, hs2⟩
end Go.Proofs.Ytminpglkipnhcaa
