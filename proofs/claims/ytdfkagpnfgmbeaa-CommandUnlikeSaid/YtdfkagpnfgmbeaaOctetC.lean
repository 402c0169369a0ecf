/- slices.Clone of bytes. -/
import Derived.Test.YtdfkagpnfgmbeaaSep
namespace Go.Proofs.Ytdfkagpnfgmbeaa
set_option linter.unusedVariables false
open Go.RowKit

/-- a new slice of the callee's own, with these bytes; nothing that was there has turned -/
def NewBytes (l : List UInt8) (w : World) (e : Ending) (w' : World) : Prop :=
  ∃ v, e = .returned v ∧ w'.ownsRow w.heap.size 5 1 v l.length (l.map byteVal) ∧ Step [] w w'

set_option maxHeartbeats 1000000 in
theorem clone_bytes (a : Option Addr) (cap : Nat) (l : List UInt8) (w : World) (hn : a = none → l.length = 0 ∧ cap = 0) (hB : Bytes w a l) (hlen : l.length ≤ 70368744177664) :
    Calls Try.prog 36 #[.slice a l.length cap] w (NewBytes l w) := by
  cases a with
  | none =>
    obtain ⟨h0, rfl⟩ := hn rfl
    have : l = [] := List.eq_nil_of_length_eq_zero h0
    subst this
    have he := fun w => Lib.run_eql_slice_nil (P := Try.prog) w 23 5 none 0 0 0 0 Try.underlying23
    go_enter Try.func36, Try.ntmps36
    go_wp2
    go_ret
    exact ⟨_, rfl, World.ownsRow_nil _ _ _ _, Step.refl _ _⟩
  | some x =>
    obtain ⟨i0, hi, hz0, hz1, hz2⟩ := info_parts Try.infoB
    have he := fun w => Lib.run_eql_slice_nil (P := Try.prog) w 23 5 (some x) l.length cap 0 0 Try.underlying23
    simp at he
    have HB := Lib.hid hB
    clear hB hn
    go_enter Try.func36, Try.ntmps36
    go_wp2_with (at_builtin; refine wpList_append_own_any rfl (.tmp 5) (.tmp 6) 23 rfl w.heap.size 5 i0 (.int .u8 0) 1 1 Try.underlying23 hi hz0 hz1 hz2 rfl (by decide) _ 0 [] rfl (World.ownsRow_made _ _ 0 (Nat.le_refl _) (Nat.zero_le _) rfl) (some x) l.length cap (l.map byteVal) rfl (by intro h; cases h) (by simp) ((HB.out.below ((Below.refl _ _).alloc (Nat.le_refl _) _)).news) (byteVals_cell _) (by unfold maxLen; omega) (by omega) (by simp) ?_)
    intro v2 w2 hown2 hg2
    have hs2 : Step [] w w2 := ((Step.refl _ _).alloc _).grown hg2 (fun k hk => by cases hk; exact .inr (Nat.le_refl _))
    have HO := Lib.hid hown2
    clear hown2 hg2
    go_wp2
    go_ret
    exact ⟨v2, rfl, by simpa using HO.out, hs2⟩
end Go.Proofs.Ytdfkagpnfgmbeaa
