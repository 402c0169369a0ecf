/- heap B (uint8, int): how two are held against one another. -/
import Derived.Test.YtdbhldlgfchjpaaHpO
namespace Go.Proofs.Ytdbhldlgfchjpaa
set_option linter.unusedVariables false
open Go.RowKit
namespace HpB
abbrev It := Int × Int
theorem nanK (a : Int) (w : World) : Calls Try.prog 72 #[.int .u8 (a)] w fun e w' => e = .returned (.bool false) ∧ w = w' := by
  go_enter Try.func72, Try.ntmps72
  go_wp2_with fail
  go_ret
  exact ⟨rfl, rfl⟩
theorem nanR (a : Int) (w : World) : Calls Try.prog 71 #[.int .i64 (a)] w fun e w' => e = .returned (.bool false) ∧ w = w' := by
  go_enter Try.func71, Try.ntmps71
  go_wp2_with fail
  go_ret
  exact ⟨rfl, rfl⟩
theorem cmpK (a b : Int) (w : World) : Calls Try.prog 68 #[.int .u8 (a), .int .u8 (b)] w fun e w' => e = .returned (.int .i64 (Hp.cmpL ltInt a b)) ∧ w = w' := by
  go_enter Try.func68, Try.ntmps68
  go_wp2_with (go_at_call 72; refine (nanK _ _).mono ?_; rintro e w' ⟨rfl, rfl⟩)
  all_goals
    go_ret
    refine ⟨ret_int ?_, rfl⟩
    unfold Hp.cmpL ltInt
    simp_all <;> omega
theorem cmpR (a b : Int) (w : World) : Calls Try.prog 67 #[.int .i64 (a), .int .i64 (b)] w fun e w' => e = .returned (.int .i64 (Hp.cmpL ltInt a b)) ∧ w = w' := by
  go_enter Try.func67, Try.ntmps67
  go_wp2_with (go_at_call 71; refine (nanR _ _).mono ?_; rintro e w' ⟨rfl, rfl⟩)
  all_goals
    go_ret
    refine ⟨ret_int ?_, rfl⟩
    unfold Hp.cmpL ltInt
    simp_all <;> omega
end HpB
end Go.Proofs.Ytdbhldlgfchjpaa
