/- entry.Log: a log that isn't there. -/
import Derived.Test.YtjepglbolkbldaaEntB
import Derived.Laws.ResultCell
import Derived.Laws.Rows
namespace Go.Proofs.Ytjepglbolkbldaa
set_option linter.unusedVariables false
open Go.RowKit

theorem base_nil (w : World) : Calls Try.prog 14 #[.pointer none] w fun e w' => e = .returned (.tuple #[.int .u64 0, .int .u64 0]) ∧ w = w' := by
  go_enter Try.func14, Try.ntmps14
  go_wp2_with fail
  go_ret2
  exact ⟨rfl, rfl⟩

theorem last_nil (w : World) : Calls Try.prog 9 #[.pointer none] w fun e w' => e = .returned (.tuple #[.int .u64 0, .int .u64 0]) ∧ w = w' := by
  go_enter Try.func9, Try.ntmps9
  go_wp2_with (first
    | (go_at_call 14; refine (base_nil _).mono ?_; rintro e w7 ⟨rfl, rfl⟩))
  go_ret2
  exact ⟨rfl, rfl⟩

theorem term_nil (i : Int) (w : World) : Calls Try.prog 15 #[.pointer none, .int .u64 i] w fun e w' => e = .returned (.tuple #[.int .u64 0, .int .i64 1]) ∧ w = w' := by
  go_enter Try.func15, Try.ntmps15
  go_wp2_with (first
    | (go_at_call 9; refine (last_nil _).mono ?_; rintro e w7 ⟨rfl, rfl⟩))
  go_ret2
  exact ⟨rfl, rfl⟩

theorem at_nil (i : Int) (w : World) : Calls Try.prog 16 #[.pointer none, .int .u64 i] w fun e w' => e = .returned (.tuple #[.agg #[.int .u64 0, .int .u64 0, .bool false, .slice none 0 0], .int .i64 1]) ∧ Step [] w w' := by
  go_enter Try.func16, Try.ntmps16
  go_wp2_with (first
    | (go_at_call 15; refine (term_nil _ _).mono ?_; rintro e w7 ⟨rfl, rfl⟩))
  refine bodyPost_ret (v := .tuple #[.agg #[.int .u64 0, .int .u64 0, .bool false, .slice none 0 0], .int .i64 1]) ?_ rfl ⟨rfl, (Step.refl _ _).alloc _⟩
  rw [results_cell_tmp rfl]
  have hl := run_loadVar_row (P := Try.prog) (w.alloc (.cells #[.int .u64 0, .int .u64 0, .bool false, .slice none 0 0] 42)) w.heap.size 42 42 #[.int .u64 0, .int .u64 0, .bool false, .slice none 0 0] (0, 0) _ (Go.heap_alloc_new w _) Try.underlying42 rfl (by kernel_rfl)
  simp [asAddr, hl]

theorem from_nil (i : Int) (w : World) : Calls Try.prog 17 #[.pointer none, .int .u64 i, .int .i64 9] w fun e w' => e = .returned (.tuple #[.slice none 0 0, .int .i64 1]) ∧ w = w' := by
  go_enter Try.func17, Try.ntmps17
  go_wp2_with (first
    | (go_at_call 9; refine (last_nil _).mono ?_; rintro e w7 ⟨rfl, rfl⟩))
  go_ret2
  exact ⟨rfl, rfl⟩

theorem add_nil (t : Int) (c : Bool) (w : World) : Calls Try.prog 11 #[.pointer none, .int .u64 t, .bool c, .slice none 0 0] w fun e w' => e = .returned (.tuple #[.int .u64 0, .int .i64 1]) ∧ w = w' := by
  go_enter Try.func11, Try.ntmps11
  go_wp2_with (first
    | (go_at_call 9; refine (last_nil _).mono ?_; rintro e w7 ⟨rfl, rfl⟩))
  go_ret2
  exact ⟨rfl, rfl⟩

theorem put_nil (i t : Int) (w : World) : Calls Try.prog 8 #[.pointer none, .int .u64 i, .int .u64 t, .slice none 0 0] w fun e w' => e = .returned (.tuple #[.int .u64 0, .int .i64 1]) ∧ w = w' := by
  go_enter Try.func8, Try.ntmps8
  go_wp2_with fail
  go_ret2
  exact ⟨rfl, rfl⟩

theorem cut_nil (i : Int) (w : World) : Calls Try.prog 13 #[.pointer none, .int .u64 i] w fun e w' => e = .returned (.int .i64 1) ∧ w = w' := by
  go_enter Try.func13, Try.ntmps13
  go_wp2_with (first
    | (go_at_call 15; refine (term_nil _ _).mono ?_; rintro e w7 ⟨rfl, rfl⟩))
  go_ret
  exact ⟨rfl, rfl⟩

theorem newer_nil (i t : Int) (w : World) : Calls Try.prog 18 #[.pointer none, .int .u64 i, .int .u64 t] w fun e w' => e = .returned (.bool false) ∧ w = w' := by
  go_enter Try.func18, Try.ntmps18
  go_wp2_with (first
    | (go_at_call 9; refine (last_nil _).mono ?_; rintro e w7 ⟨rfl, rfl⟩))
  go_ret
  exact ⟨rfl, rfl⟩

theorem copy_nil (w : World) : Calls Try.prog 19 #[.pointer none] w fun e w' => e = .returned (.pointer none) ∧ w = w' := by
  go_enter Try.func19, Try.ntmps19
  go_wp2_with fail
  go_ret
  exact ⟨rfl, rfl⟩
end Go.Proofs.Ytjepglbolkbldaa
