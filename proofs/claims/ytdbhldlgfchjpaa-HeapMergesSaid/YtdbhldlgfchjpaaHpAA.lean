/- heap A (uint16, uint16): how two are held against one another. -/
import Derived.Test.YtdbhldlgfchjpaaHpO
namespace Go.Proofs.Ytdbhldlgfchjpaa
set_option linter.unusedVariables false
open Go.RowKit
namespace HpA
abbrev It := Int × Int
theorem nanK (a : Int) (w : World) : Calls Try.prog 70 #[.int .u16 (a)] w fun e w' => e = .returned (.bool false) ∧ w = w' := by
  go_enter Try.func70, Try.ntmps70
  go_wp2_with fail
  go_ret
  exact ⟨rfl, rfl⟩
theorem nanR (a : Int) (w : World) : Calls Try.prog 70 #[.int .u16 (a)] w fun e w' => e = .returned (.bool false) ∧ w = w' := by
  go_enter Try.func70, Try.ntmps70
  go_wp2_with fail
  go_ret
  exact ⟨rfl, rfl⟩
theorem cmpK (a b : Int) (w : World) : Calls Try.prog 66 #[.int .u16 (a), .int .u16 (b)] w fun e w' => e = .returned (.int .i64 (Hp.cmpL ltInt a b)) ∧ w = w' := by
  go_enter Try.func66, Try.ntmps66
  go_wp2_with (go_at_call 70; refine (nanK _ _).mono ?_; rintro e w' ⟨rfl, rfl⟩)
  all_goals
    go_ret
    refine ⟨ret_int ?_, rfl⟩
    unfold Hp.cmpL ltInt
    simp_all <;> omega
theorem cmpR (a b : Int) (w : World) : Calls Try.prog 66 #[.int .u16 (a), .int .u16 (b)] w fun e w' => e = .returned (.int .i64 (Hp.cmpL ltInt a b)) ∧ w = w' := by
  go_enter Try.func66, Try.ntmps66
  go_wp2_with (go_at_call 70; refine (nanR _ _).mono ?_; rintro e w' ⟨rfl, rfl⟩)
  all_goals
    go_ret
    refine ⟨ret_int ?_, rfl⟩
    unfold Hp.cmpL ltInt
    simp_all <;> omega
end HpA
end Go.Proofs.Ytdbhldlgfchjpaa
