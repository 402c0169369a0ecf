/- heap E (string, uint64): how two are held against one another. -/
import Derived.Test.YtebgojcecgimaaaHpO
namespace Go.Proofs.Ytebgojcecgimaaa
set_option linter.unusedVariables false
open Go.RowKit
namespace HpE
abbrev It := ByteArray × Int
theorem nanK (a : ByteArray) (w : World) : Calls Try.prog 43 #[.string (a)] w fun e w' => e = .returned (.bool false) ∧ w = w' := by
  go_enter Try.func43, Try.ntmps43
  go_wp2_with fail
  go_ret
  exact ⟨rfl, rfl⟩
theorem nanR (a : Int) (w : World) : Calls Try.prog 42 #[.int .u64 (a)] w fun e w' => e = .returned (.bool false) ∧ w = w' := by
  go_enter Try.func42, Try.ntmps42
  go_wp2_with fail
  go_ret
  exact ⟨rfl, rfl⟩
theorem cmpK (a b : ByteArray) (w : World) : Calls Try.prog 41 #[.string (a), .string (b)] w fun e w' => e = .returned (.int .i64 (Hp.cmpL ltStr a b)) ∧ w = w' := by
  go_enter Try.func41, Try.ntmps41
  go_wp2_with (go_at_call 43; refine (nanK _ _).mono ?_; rintro e w' ⟨rfl, rfl⟩)
  all_goals
    go_ret
    refine ⟨ret_int ?_, rfl⟩
    first
      | exact (Hp.cmpS1 ‹Op.bytesLess a.toList b.toList = true›).symm
      | exact (Hp.cmpS2 ‹Op.bytesLess a.toList b.toList = false› ‹(!a.toList == b.toList) = true›).symm
      | exact (Hp.cmpS3 ‹Op.bytesLess a.toList b.toList = false› ‹(!a.toList == b.toList) = false›).symm
theorem cmpR (a b : Int) (w : World) : Calls Try.prog 40 #[.int .u64 (a), .int .u64 (b)] w fun e w' => e = .returned (.int .i64 (Hp.cmpL ltInt a b)) ∧ w = w' := by
  go_enter Try.func40, Try.ntmps40
  go_wp2_with (go_at_call 42; refine (nanR _ _).mono ?_; rintro e w' ⟨rfl, rfl⟩)
  all_goals
    go_ret
    refine ⟨ret_int ?_, rfl⟩
    unfold Hp.cmpL ltInt
    simp_all <;> omega
end HpE
end Go.Proofs.Ytebgojcecgimaaa
