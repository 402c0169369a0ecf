/- octet.Reader: End. -/
import Derived.Test.YtdfkagpnfgmbeaaOctetLeft
namespace Go.Proofs.Ytdfkagpnfgmbeaa
set_option linter.unusedVariables false
open Go.RowKit

/-- what End says -/
def endR (l : List UInt8) (e : Int) : Int := if e = 0 ∧ 0 < l.length then 15 else e

set_option maxHeartbeats 1000000 in
theorem rend_any (rb db : Nat) (l : List UInt8) (e : Int) (w : World) (h : Rd w rb db l e) :
    Calls Try.prog 21 #[.pointer (some ⟨rb, 0, none⟩)] w fun en w' => en = .returned (.int .i64 (endR l e)) ∧ w = w' := by
  have HE := Lib.hid (rerr_any rb db l e w h)
  have HL := Lib.hid (rleft_any rb db l e w h)
  clear h
  unfold endR
  generalize l.length = n at *
  by_cases h0 : e = 0
  · subst h0
    by_cases hn : 0 < n
    · have hh : (if (0 : Int) = 0 then (n : Int) else 0) = (n : Int) := by simp
      rw [hh] at HL
      rw [if_pos ⟨rfl, hn⟩]
      clear hh
      go_enter Try.func21, Try.ntmps21
      go_wp2_with fail
      refine HL.out.mono ?_
      rintro e w1 ⟨rfl, rfl⟩
      go_wp2_with fail
      go_ret
      exact ⟨rfl, rfl⟩
    · have : n = 0 := by omega
      subst this
      rw [if_neg (by simp)]
      go_enter Try.func21, Try.ntmps21
      go_wp2_with fail
      refine HL.out.mono ?_
      rintro e w1 ⟨rfl, rfl⟩
      go_wp2_with fail
      refine HE.out.mono ?_
      rintro e w1 ⟨rfl, rfl⟩
      go_wp2_with fail
      go_ret
      exact ⟨rfl, rfl⟩
  · have hh : (if e = 0 then (n : Int) else 0) = 0 := if_neg h0
    rw [hh] at HL
    rw [if_neg (fun h => h0 h.1)]
    clear hh
    go_enter Try.func21, Try.ntmps21
    go_wp2_with fail
    refine HL.out.mono ?_
    rintro e w1 ⟨rfl, rfl⟩
    go_wp2_with fail
    refine HE.out.mono ?_
    rintro e w1 ⟨rfl, rfl⟩
    go_wp2_with fail
    go_ret
    exact ⟨rfl, rfl⟩
end Go.Proofs.Ytdfkagpnfgmbeaa
