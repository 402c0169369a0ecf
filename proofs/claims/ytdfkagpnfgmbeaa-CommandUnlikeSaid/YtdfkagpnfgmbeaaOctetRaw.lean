/- octet.Writer: Raw. -/
import Derived.Test.YtdfkagpnfgmbeaaOctetP
namespace Go.Proofs.Ytdfkagpnfgmbeaa
set_option linter.unusedVariables false
open Go.RowKit

set_option maxHeartbeats 1000000 in
theorem raw_any (base pb : Nat) (v : Value) (bs : List UInt8) (a : Option Addr) (cap : Nat) (l : List UInt8) (w : World) (hW : Wr w base pb v bs) (hn : a = none → l.length = 0 ∧ cap = 0) (hB : Bytes w a l) (hlen : bs.length + l.length ≤ 35184372088832) :
    Calls Try.prog 56 #[.pointer (some ⟨pb, 0, none⟩), .slice a l.length cap] w (Wrote base pb v (bs ++ l) w) := by
  obtain ⟨i0, hi, hz0, hz1, hz2⟩ := info_parts Try.infoB
  have hc0 := hW.blk.cell 0
  have hf0 := hW.blk.free 0
  simp at hc0
  have HR := Lib.hid hW
  have HB := Lib.hid hB
  have HN := Lib.hid hn
  clear hW hB hn
  go_enter Try.func56, Try.ntmps56
  go_wp2_with (at_builtin; refine wpList_append_sep rfl (.tmp 10) (.tmp 11) 23 rfl base 5 i0 (.int .u8 0) 1 1 Try.underlying23 hi hz0 hz1 hz2 rfl (by decide) _ bs.length (bs.map byteVal) rfl HR.out.own a l.length cap (l.map byteVal) rfl HN.out (by simp) HB.out.news (byteVals_cell _) (by unfold maxLen; omega) (by omega) (by have h1 := HR.out.low; have h2 := HR.out.blk.lt; omega) ?_)
  intro v2 w2 hown2 hg2 hf2
  have hs2 : Step (foot v) w w2 := (Step.refl _ _).grown hg2 (fun k hk => .inl (mem_foot.2 hk))
  have hc2 : w2.cell? ⟨pb, 0, none⟩ = some v := by rw [hs2.cell HR.out.blk.lt HR.out.apart]; exact hc0
  have hf2' : w2.frozen? ⟨pb, 0, none⟩ = false := by rw [hs2.frozen HR.out.blk.lt HR.out.apart]; exact hf0
  have HP := Lib.hid (HR.out.put hs2 hown2 (Nat.le_refl _) hf2)
  have hfm : ∃ g n cg, v2 = .slice g n cg := by
    rcases hown2.2 with ⟨h, _⟩ | ⟨g, cg, cur, h, _⟩
    · exact ⟨_, _, _, h⟩
    · exact ⟨_, _, _, h⟩
  obtain ⟨g, n, cg, rfl⟩ := hfm
  clear hown2 hg2 hf2 hs2 hc0 hf0
  go_wp2_with fail
  go_end0
  have hp := HP.out
  exact ⟨rfl, _, hp.1, hp.2.1, hp.2.2⟩
end Go.Proofs.Ytdfkagpnfgmbeaa
