/- octet: Read. -/
import Derived.Test.YtdfkagpnfgmbeaaOctetE
namespace Go.Proofs.Ytdfkagpnfgmbeaa
set_option linter.unusedVariables false
open Go.RowKit

set_option maxHeartbeats 1000000 in
theorem rread_any (a : Option Addr) (cap : Nat) (l : List UInt8) (w : World) (hS : SlB w a l cap) (hlen : l.length ≤ 70368744177664) :
    Calls Try.prog 17 #[.slice a l.length cap] w fun en w' => ∃ rb db, en = .returned (.pointer (some ⟨rb, 0, none⟩)) ∧ Rd w' rb db l 0 ∧ Step [] w w' ∧ w.heap.size ≤ rb ∧ w.heap.size ≤ db := by
  have HC := Lib.hid (clone_bytes a cap l w hS.nil hS.bytes hlen)
  clear hS
  go_enter Try.func17, Try.ntmps17
  go_wp2_with fail
  refine HC.out.mono ?_
  rintro e w1 ⟨v, rfl, hown, hst⟩
  obtain ⟨a', cap', rfl, -, hsl, hft, hbk⟩ := owns_slb hown
  have HS := Lib.hid hsl
  have HB := Lib.hid hbk
  have HT := Lib.hid hst
  clear hsl hft hbk hst hown
  go_wp2_with fail
  go_ret
  have hsz := HT.out.size
  refine ⟨w1.heap.size, (blkOf a').getD (w1.heap.size + 1), rfl, ⟨a', cap', Blk.new _ _ _, HS.out.step ((Step.refl [] _).alloc _) (by simp), fun b hb => by rw [hb]; rfl, ?_⟩, HT.out.alloc _, hsz, ?_⟩
  · cases hb : blkOf a' with
    | none => simp
    | some b => have := HB.out b hb; simp; omega
  · cases hb : blkOf a' with
    | none => simp; omega
    | some b => have := HB.out b hb; simp; omega
end Go.Proofs.Ytdfkagpnfgmbeaa
