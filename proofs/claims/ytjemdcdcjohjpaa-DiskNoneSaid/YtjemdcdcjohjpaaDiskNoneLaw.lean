/- A disk that isn't there. -/
import Derived.Test.YtjemdcdcjohjpaaDiskG
import Derived.Test.YtjemdcdcjohjpaaSeqNone
import Derived.RangeFuncLeaves
import Derived.Shelf.Abstract
import Derived.Deep.QuietTactic
import Derived.BigQuiet
namespace Go.Proofs.Ytjemdcdcjohjpaa
set_option linter.unusedVariables false
open Go.RowKit Go.Shelf

theorem ddown_nil (w : World) : Calls Try.prog 19 #[.pointer none] w fun e w' => e = .returned (.bool true) ∧ w = w' := by
  go_enter Try.func19, Try.ntmps19
  go_wp2_with fail
  go_ret
  exact ⟨rfl, rfl⟩
theorem dup_nil (w : World) : Calls Try.prog 14 #[.pointer none] w fun e w' => e = .returned (.tuple #[]) ∧ w = w' := by
  go_enter Try.func14, Try.ntmps14
  go_wp2_with fail
  go_end0
  exact ⟨rfl, rfl⟩
theorem dcrash_nil (w : World) : Calls Try.prog 12 #[.pointer none, .nilFunc] w fun e w' => e = .returned (.tuple #[]) ∧ w = w' := by
  go_enter Try.func12, Try.ntmps12
  go_wp2_with fail
  refine bodyPost_ret (results_none rfl _ _ _) rfl ?_
  exact ⟨rfl, rfl⟩
theorem dread_nil (f n : Int) (w : World) : Calls Try.prog 15 #[.pointer none, .int .i64 f, .int .i64 n] w fun e w' => e = .returned (.tuple #[.slice none 0 0, .int .i64 19]) ∧ w = w' := by
  go_enter Try.func15, Try.ntmps15
  go_wp2_with (go_at_call 19; refine (ddown_nil _).mono ?_; rintro e w7 ⟨rfl, rfl⟩)
  go_ret2
  exact ⟨rfl, rfl⟩
theorem dwrite_nil (f : Int) (v : Value) (w : World) : Calls Try.prog 9 #[.pointer none, .int .i64 f, v] w fun e w' => e = .returned (.int .i64 19) ∧ w = w' := by
  go_enter Try.func9, Try.ntmps9
  go_wp2_with (go_at_call 19; refine (ddown_nil _).mono ?_; rintro e w7 ⟨rfl, rfl⟩)
  go_ret
  exact ⟨rfl, rfl⟩
theorem dsync_nil (w : World) : Calls Try.prog 11 #[.pointer none] w fun e w' => e = .returned (.int .i64 19) ∧ w = w' := by
  go_enter Try.func11, Try.ntmps11
  go_wp2_with (go_at_call 19; refine (ddown_nil _).mono ?_; rintro e w7 ⟨rfl, rfl⟩)
  go_ret
  exact ⟨rfl, rfl⟩
theorem dlen_nil (w : World) : Calls Try.prog 20 #[.pointer none] w fun e w' => e = .returned (.int .i64 0) ∧ w = w' := by
  go_enter Try.func20, Try.ntmps20
  go_wp2_with fail
  go_ret
  exact ⟨rfl, rfl⟩
theorem dcopy_nil (w : World) : Calls Try.prog 16 #[.pointer none] w fun e w' => e = .returned (.pointer none) ∧ w = w' := by
  go_enter Try.func16, Try.ntmps16
  go_wp2_with fail
  go_ret
  exact ⟨rfl, rfl⟩
/-- the iterator: a box for the disk -/
theorem dwaits_any (p : Option Addr) (w : World) : Calls Try.prog 18 #[.pointer p] w fun e w' => e = .returned (.func (.func 26) #[] #[.pointer (some ⟨w.heap.size, 0, none⟩)]) ∧ w' = w.alloc (.cells #[.pointer p] 25) := by
  go_enter Try.func18, Try.ntmps18
  go_wp2_with fail
  go_ret
  exact ⟨rfl, rfl⟩
theorem dwaits1_nil (l b : Nat) (w : World) (hc : w.cell? ⟨b, 0, none⟩ = some (.pointer none)) : Calls Try.prog 26 #[.func (.yield l) #[] #[], .pointer (some ⟨b, 0, none⟩)] w fun e w' => (∃ v, e = .returned v) ∧ w = w' := by
  go_enter Try.func26, Try.ntmps26
  go_wp2_with fail
  refine bodyPost_ret (results_none rfl _ _ _) rfl ?_
  exact ⟨⟨_, rfl⟩, rfl⟩

set_option maxRecDepth 20000 in
set_option maxHeartbeats 2000000 in
theorem diskNone_any (x n : Int) (w : World) : Calls Try.prog 5 #[.int .i64 x, .int .i64 n] w fun e w' => e = .returned (.bool true) ∧ Below w.heap.size w w' := by
  refine calls_of_wp_marks Try.func5 rfl ?_
  simp only [Try.ntmps5, List.size_toArray, List.length_cons, List.length_nil, Nat.reduceAdd, Nat.reduceSub, Array.replicate_succ, Array.replicate_zero, List.push_toArray, List.append_toArray, List.nil_append, List.cons_append]
  go_wp2_with fail
  refine (lives_any _).mono ?_
  rintro e w1 ⟨rfl, hs⟩
  have HS := Lib.hid hs
  clear hs
  go_wp2_with (first
      | (go_at_call 14; refine (dup_nil _).mono ?_; rintro e w7 ⟨rfl, rfl⟩)
      | (go_at_call 12; refine (dcrash_nil _).mono ?_; rintro e w7 ⟨rfl, rfl⟩)
      | (go_at_call 15; refine (dread_nil _ _ _).mono ?_; rintro e w7 ⟨rfl, rfl⟩))
  refine (dwaits_any _ _).mono ?_
  rintro e w2 ⟨rfl, hw2⟩
  have hc := (Blk.new (w1.alloc (.cells #[.int .i64 0] 3)) #[.pointer none] 25).cell 0
  rw [show (#[Value.pointer none] : Array Value)[0]? = some (.pointer none) from rfl] at hc
  rw [← hw2] at hc
  have HB1 := Lib.hid (show Blk w2 w1.heap.size #[.int .i64 0] 3 from by rw [hw2]; exact (Blk.new w1 #[.int .i64 0] 3).step ((Step.refl [] _).alloc _) (by simp))
  have HS2 := Lib.hid ((HS.out.alloc (.cells #[.int .i64 0] 3)).alloc (.cells #[.pointer none] 25))
  rw [← hw2] at HS2
  have hsz2 : w2.heap.size = w1.heap.size + 2 := by rw [hw2, World.size_alloc, World.size_alloc]
  have HSZ2 := Lib.hid hsz2
  have hbx : (w1.alloc (.cells #[.int .i64 0] 3)).heap.size = w1.heap.size + 1 := World.size_alloc _ _
  rw [hbx] at hc ⊢
  have HW2 := Lib.hid hw2
  clear hw2 hsz2 hbx
  go_wp2_with fail
  refine wp_range_none (gf := 26) (lb := #[.pointer (some ⟨w1.heap.size + 1, 0, none⟩)]) rfl (enters_of Try.func26 (by kernel_rfl) rfl) ?_ ?_
  · intro l W hW
    exact dwaits1_nil l _ W ((hW.cell (by rw [HSZ2.out]; omega) (by simp)).trans hc)
  · intro D W hD hW hK
    have hB2 := HB1.out.step hW (by simp)
    have hbc := hB2.cell 0
    rw [show (#[Value.int .i64 0] : Array Value)[0]? = some (.int .i64 0) from rfl] at hbc
    have HW := Lib.hid hW
    have HKD := Lib.hid hK
    have HDD := Lib.hid hD
    clear hW hB2 hK hD hc
    go_wp2_with fail
    go_quiet ((first
      | (go_at_call 19; exact quiet_same (ddown_nil _))
      | (go_at_call 9; exact quiet_same (dwrite_nil _ _ _))
      | (go_at_call 11; exact quiet_same (dsync_nil _))
      | (go_at_call 20; exact quiet_same (dlen_nil _))
      | (go_at_call 16; exact quiet_same (dcopy_nil _))))
    go_wp2_with fail
    have hK' : (W.drewN nq).heap[D]? = some (.deferred (some [])) := HKD.out
    have hS : Step [] w (W.drewN nq) := (HS2.out.then HW.out (by simp)).drewN nq
    have hle : w.heap.size ≤ w2.heap.size := HS2.out.size
    refine ⟨by simp, .inl ⟨_, _, rfl, run_takeDeferred hK', ?_⟩⟩
    refine ⟨.bool true, ?_, rfl, hS.below'.trans (belowK_b (w := w) (Nat.le_refl _) _ D _ _ (Nat.le_trans hle HDD.out) hK' rfl rfl)⟩
    simp [results, Try.f5, go_sem]
end Go.Proofs.Ytjemdcdcjohjpaa
