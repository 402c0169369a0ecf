/- octet.Reader: Left. -/
import Derived.Test.YtdfkagpnfgmbeaaOctetE
namespace Go.Proofs.Ytdfkagpnfgmbeaa
set_option linter.unusedVariables false
open Go.RowKit

set_option maxHeartbeats 1000000 in
theorem rleft_any (rb db : Nat) (l : List UInt8) (e : Int) (w : World) (h : Rd w rb db l e) :
    Calls Try.prog 40 #[.pointer (some ⟨rb, 0, none⟩)] w fun en w' => en = .returned (.int .i64 (if e = 0 then (l.length : Int) else 0)) ∧ w = w' := by
  have HE := Lib.hid (rerr_any rb db l e w h)
  obtain ⟨a, cap, hb, hsl, hd, hne⟩ := h
  have hc0 := hb.cell 0
  simp at hc0
  clear hb hsl hd hne
  by_cases h0 : e = 0
  · subst h0
    go_enter Try.func40, Try.ntmps40
    go_wp2_with fail
    refine HE.out.mono ?_
    rintro e w1 ⟨rfl, rfl⟩
    go_wp2_with fail
    go_ret
    exact ⟨rfl, rfl⟩
  · have h0' : (e == 0) = false := by simpa using h0
    rw [if_neg h0]
    go_enter Try.func40, Try.ntmps40
    go_wp2_with fail
    refine HE.out.mono ?_
    rintro e w1 ⟨rfl, rfl⟩
    go_wp2_with fail
    go_ret
    exact ⟨rfl, rfl⟩
end Go.Proofs.Ytdfkagpnfgmbeaa
