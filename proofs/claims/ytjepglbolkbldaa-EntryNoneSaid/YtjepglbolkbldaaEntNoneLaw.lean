/- EntryNone: the walk of the law. -/
import Derived.Test.YtjepglbolkbldaaEntL
import Derived.Test.YtjepglbolkbldaaEntNil
namespace Go.Proofs.Ytjepglbolkbldaa
set_option linter.unusedVariables false
open Go.RowKit

set_option maxRecDepth 100000 in
set_option maxHeartbeats 2000000 in
theorem entryNone_any (i t : Int) (w : World) : Calls Try.prog 5 #[.int .u64 i, .int .u64 t] w fun e w' => e = .returned (.bool true) ∧ Below w.heap.size w w' := by
  have key : Calls Try.prog 5 #[.int .u64 i, .int .u64 t] w fun e w' => e = .returned (.bool true) ∧ Step [] w w' := by
    go_enter Try.func5, Try.ntmps5
    go_wp2_with fail
    refine (lives_any w).mono ?_
    rintro e w1 ⟨rfl, hs⟩
    have HS := Lib.hid hs
    clear hs
    go_wp2_with (first
      | (go_at_call 14; refine (base_nil _).mono ?_; rintro e w7 ⟨rfl, rfl⟩)
      | (go_at_call 9; refine (last_nil _).mono ?_; rintro e w7 ⟨rfl, rfl⟩)
      | (go_at_call 15; refine (term_nil _ _).mono ?_; rintro e w7 ⟨rfl, rfl⟩)
      | fail)
    refine (at_nil _ _).mono ?_
    rintro e w2 ⟨rfl, hs⟩
    have HS2 := Lib.hid (HS.out.then hs (by simp))
    clear hs HS
    go_wp2_with (first
      | (go_at_call 17; refine (from_nil _ _).mono ?_; rintro e w7 ⟨rfl, rfl⟩)
      | (go_at_call 11; refine (add_nil _ _ _).mono ?_; rintro e w7 ⟨rfl, rfl⟩)
      | (go_at_call 8; refine (put_nil _ _ _).mono ?_; rintro e w7 ⟨rfl, rfl⟩)
      | (go_at_call 13; refine (cut_nil _ _).mono ?_; rintro e w7 ⟨rfl, rfl⟩)
      | (go_at_call 18; refine (newer_nil _ _ _).mono ?_; rintro e w7 ⟨rfl, rfl⟩)
      | (go_at_call 19; refine (copy_nil _).mono ?_; rintro e w7 ⟨rfl, rfl⟩)
      | fail)
    go_ret
    exact ⟨rfl, HS2.out.alloc _⟩
  exact key.mono fun e w' h => ⟨h.1, h.2.below'⟩
end Go.Proofs.Ytjepglbolkbldaa
