/- complineref01: Int, Text. -/
import Derived.Test.YtdfkagpnfgmbeaaRefN
import Derived.Test.YtdfkagpnfgmbeaaNumQ
namespace Go.Proofs.Ytdfkagpnfgmbeaa
set_option linter.unusedVariables false
open Go.RowKit

set_option maxHeartbeats 400000 in
theorem refInt_any (x : Int) (w : World) (hx : I64 x) :
    Calls Try.prog 47 #[.int .i64 x] w fun e w' => e = .returned (.string (bstr (numB (foldN x)))) ∧ Step [] w w' := by
  have H := Lib.hid (refNum_any (foldN x) w (foldN_lt x hx))
  have hb := hx
  unfold I64 at hb
  have hf : foldN x = if 0 ≤ x then 2 * x.toNat else (-(2 * x) - 1).toNat := rfl
  generalize foldN x = n at *
  by_cases h0 : x < 0
  · rw [if_neg (by omega)] at hf
    have e1 : 2 * -(x + 1) + 1 = ((n : Nat) : Int) := by omega
    rw [← e1] at H
    clear e1 hf
    go_enter Try.func47, Try.ntmps47
    go_wp2_with fail
    refine H.out.mono ?_
    rintro e w1 ⟨rfl, hs⟩
    go_wp2_with fail
    go_ret
    exact ⟨rfl, hs⟩
  · rw [if_pos (by omega)] at hf
    have e1 : 2 * x = ((n : Nat) : Int) := by omega
    rw [← e1] at H
    clear e1 hf
    go_enter Try.func47, Try.ntmps47
    go_wp2_with fail
    refine H.out.mono ?_
    rintro e w1 ⟨rfl, hs⟩
    go_wp2_with fail
    go_ret
    exact ⟨rfl, hs⟩

set_option maxHeartbeats 400000 in
theorem refText_any (s : List UInt8) (w : World) (hs : s.length ≤ 35184372088832) :
    Calls Try.prog 46 #[.string (bstr s)] w fun e w' => e = .returned (.string (bstr (numB s.length ++ s))) ∧ Step [] w w' := by
  have H := Lib.hid (refNum_any s.length w (by unfold M64; omega))
  have hz := bstr_size s
  have hln := numB_len s.length
  have hsz : (bstr (numB s.length)).size + (bstr s).size ≤ 9223372036854775807 := by
    rw [bstr_size, bstr_size]
    omega
  go_enter Try.func46, Try.ntmps46
  go_wp2_with fail
  refine H.out.mono ?_
  rintro e w1 ⟨rfl, hs⟩
  go_wp2_with fail
  go_ret
  exact ⟨congrArg (fun s => Ending.returned (.string s)) (bstr_app _ _), hs⟩
end Go.Proofs.Ytdfkagpnfgmbeaa
