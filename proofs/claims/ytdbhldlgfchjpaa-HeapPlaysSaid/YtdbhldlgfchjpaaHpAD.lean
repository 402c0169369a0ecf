/- heap D (string, int): how two are held against one another. -/
import Derived.Test.YtdbhldlgfchjpaaHpO
namespace Go.Proofs.Ytdbhldlgfchjpaa
set_option linter.unusedVariables false
open Go.RowKit
namespace HpD
abbrev It := ByteArray × Int
theorem nanK (a : ByteArray) (w : World) : Calls Try.prog 73 #[.string (a)] w fun e w' => e = .returned (.bool false) ∧ w = w' := by
  go_enter Try.func73, Try.ntmps73
  go_wp2_with fail
  go_ret
  exact ⟨rfl, rfl⟩
theorem nanR (a : Int) (w : World) : Calls Try.prog 71 #[.int .i64 (a)] w fun e w' => e = .returned (.bool false) ∧ w = w' := by
  go_enter Try.func71, Try.ntmps71
  go_wp2_with fail
  go_ret
  exact ⟨rfl, rfl⟩
theorem cmpK (a b : ByteArray) (w : World) : Calls Try.prog 69 #[.string (a), .string (b)] w fun e w' => e = .returned (.int .i64 (Hp.cmpL ltStr a b)) ∧ w = w' := by
  go_enter Try.func69, Try.ntmps69
  go_wp2_with (go_at_call 73; refine (nanK _ _).mono ?_; rintro e w' ⟨rfl, rfl⟩)
  all_goals
    go_ret
    refine ⟨ret_int ?_, rfl⟩
    first
      | exact (Hp.cmpS1 ‹Op.bytesLess a.toList b.toList = true›).symm
      | exact (Hp.cmpS2 ‹Op.bytesLess a.toList b.toList = false› ‹(!a.toList == b.toList) = true›).symm
      | exact (Hp.cmpS3 ‹Op.bytesLess a.toList b.toList = false› ‹(!a.toList == b.toList) = false›).symm
theorem cmpR (a b : Int) (w : World) : Calls Try.prog 67 #[.int .i64 (a), .int .i64 (b)] w fun e w' => e = .returned (.int .i64 (Hp.cmpL ltInt a b)) ∧ w = w' := by
  go_enter Try.func67, Try.ntmps67
  go_wp2_with (go_at_call 71; refine (nanR _ _).mono ?_; rintro e w' ⟨rfl, rfl⟩)
  all_goals
    go_ret
    refine ⟨ret_int ?_, rfl⟩
    unfold Hp.cmpL ltInt
    simp_all <;> omega
end HpD
end Go.Proofs.Ytdbhldlgfchjpaa
