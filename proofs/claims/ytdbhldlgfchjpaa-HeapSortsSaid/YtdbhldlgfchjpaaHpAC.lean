/- heap C (string, uint8): how two are held against one another. -/
import Derived.Test.YtdbhldlgfchjpaaHpO
namespace Go.Proofs.Ytdbhldlgfchjpaa
set_option linter.unusedVariables false
open Go.RowKit
namespace HpC
abbrev It := ByteArray × Int
theorem nanK (a : ByteArray) (w : World) : Calls Try.prog 73 #[.string (a)] w fun e w' => e = .returned (.bool false) ∧ w = w' := by
  go_enter Try.func73, Try.ntmps73
  go_wp2_with fail
  go_ret
  exact ⟨rfl, rfl⟩
theorem nanR (a : Int) (w : World) : Calls Try.prog 72 #[.int .u8 (a)] w fun e w' => e = .returned (.bool false) ∧ w = w' := by
  go_enter Try.func72, Try.ntmps72
  go_wp2_with fail
  go_ret
  exact ⟨rfl, rfl⟩
theorem cmpK (a b : ByteArray) (w : World) : Calls Try.prog 69 #[.string (a), .string (b)] w fun e w' => e = .returned (.int .i64 (Hp.cmpL ltStr a b)) ∧ w = w' := by
  go_enter Try.func69, Try.ntmps69
  go_wp2_with (go_at_call 73; refine (nanK _ _).mono ?_; rintro e w' ⟨rfl, rfl⟩)
  all_goals
    go_ret
    refine ⟨ret_int ?_, rfl⟩
    first
      | exact (Hp.cmpS1 ‹Op.bytesLess a.toList b.toList = true›).symm
      | exact (Hp.cmpS2 ‹Op.bytesLess a.toList b.toList = false› ‹(!a.toList == b.toList) = true›).symm
      | exact (Hp.cmpS3 ‹Op.bytesLess a.toList b.toList = false› ‹(!a.toList == b.toList) = false›).symm
theorem cmpR (a b : Int) (w : World) : Calls Try.prog 68 #[.int .u8 (a), .int .u8 (b)] w fun e w' => e = .returned (.int .i64 (Hp.cmpL ltInt a b)) ∧ w = w' := by
  go_enter Try.func68, Try.ntmps68
  go_wp2_with (go_at_call 72; refine (nanR _ _).mono ?_; rintro e w' ⟨rfl, rfl⟩)
  all_goals
    go_ret
    refine ⟨ret_int ?_, rfl⟩
    unfold Hp.cmpL ltInt
    simp_all <;> omega
end HpC
end Go.Proofs.Ytdbhldlgfchjpaa
