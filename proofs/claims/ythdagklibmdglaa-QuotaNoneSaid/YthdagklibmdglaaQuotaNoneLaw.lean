/- A ledger that isn't there. -/
import Derived.Test.YthdagklibmdglaaQuotaA
import Derived.Test.YthdagklibmdglaaSeqNone
import Derived.RangeFuncLeaves
import Derived.Shelf.Abstract
namespace Go.Proofs.Ythdagklibmdglaa
set_option linter.unusedVariables false
open Go.RowKit Go.Shelf

theorem qset_nil (s : ByteArray) (n : Int) (w : World) : Calls Try.prog 13 #[.pointer none, .string s, .int .i64 n] w fun e w' => e = .returned (.int .i64 1) ∧ w = w' := by
  go_enter Try.func13, Try.ntmps13
  go_wp2_with fail
  go_ret
  exact ⟨rfl, rfl⟩
theorem qtake_nil (s : ByteArray) (w : World) : Calls Try.prog 10 #[.pointer none, .string s] w fun e w' => e = .returned (.int .i64 1) ∧ w = w' := by
  go_enter Try.func10, Try.ntmps10
  go_wp2_with fail
  go_ret
  exact ⟨rfl, rfl⟩
theorem qgive_nil (s : ByteArray) (w : World) : Calls Try.prog 11 #[.pointer none, .string s] w fun e w' => e = .returned (.int .i64 1) ∧ w = w' := by
  go_enter Try.func11, Try.ntmps11
  go_wp2_with fail
  go_ret
  exact ⟨rfl, rfl⟩
theorem qhas_nil (s : ByteArray) (w : World) : Calls Try.prog 9 #[.pointer none, .string s] w fun e w' => e = .returned (.int .i64 0) ∧ w = w' := by
  go_enter Try.func9, Try.ntmps9
  go_wp2_with fail
  go_ret
  exact ⟨rfl, rfl⟩
theorem qmay_nil (s : ByteArray) (w : World) : Calls Try.prog 15 #[.pointer none, .string s] w fun e w' => e = .returned (.int .i64 0) ∧ w = w' := by
  go_enter Try.func15, Try.ntmps15
  go_wp2_with fail
  go_ret
  exact ⟨rfl, rfl⟩
theorem qcopy_nil (w : World) : Calls Try.prog 14 #[.pointer none] w fun e w' => e = .returned (.pointer none) ∧ w = w' := by
  go_enter Try.func14, Try.ntmps14
  go_wp2_with fail
  go_ret
  exact ⟨rfl, rfl⟩
/-- the iterator: a box for the ledger -/
theorem qall_any (p : Option Addr) (w : World) : Calls Try.prog 16 #[.pointer p] w fun e w' => e = .returned (.func (.func 19) #[] #[.pointer (some ⟨w.heap.size, 0, none⟩)]) ∧ w' = w.alloc (.cells #[.pointer p] 24) := by
  go_enter Try.func16, Try.ntmps16
  go_wp2_with fail
  go_ret
  exact ⟨rfl, rfl⟩
theorem qall1_nil (l b : Nat) (w : World) (hc : w.cell? ⟨b, 0, none⟩ = some (.pointer none)) : Calls Try.prog 19 #[.func (.yield l) #[] #[], .pointer (some ⟨b, 0, none⟩)] w fun e w' => (∃ v, e = .returned v) ∧ w = w' := by
  go_enter Try.func19, Try.ntmps19
  go_wp2_with fail
  refine bodyPost_ret (results_none rfl _ _ _) rfl ?_
  exact ⟨⟨_, rfl⟩, rfl⟩

set_option maxHeartbeats 1000000 in
theorem quotaNone_any (s : ByteArray) (n : Int) (w : World) : Calls Try.prog 5 #[.string s, .int .i64 n] w fun e w' => e = .returned (.bool true) ∧ Below w.heap.size w w' := by
  refine calls_of_wp_marks Try.func5 rfl ?_
  simp only [Try.ntmps5, List.size_toArray, List.length_cons, List.length_nil, Nat.reduceAdd, Nat.reduceSub, Array.replicate_succ, Array.replicate_zero, List.push_toArray, List.append_toArray, List.nil_append, List.cons_append]
  go_wp2_with fail
  refine (lives_any _).mono ?_
  rintro e w1 ⟨rfl, hs⟩
  have HS := Lib.hid hs
  clear hs
  go_wp2_with fail
  refine (qall_any _ _).mono ?_
  rintro e w2 ⟨rfl, hw2⟩
  have hc := (Blk.new w1 #[.pointer none] 24).cell 0
  rw [show (#[Value.pointer none] : Array Value)[0]? = some (.pointer none) from rfl] at hc
  rw [← hw2] at hc
  have HS2 := Lib.hid (HS.out.alloc (.cells #[.pointer none] 24))
  rw [← hw2] at HS2
  go_wp2_with fail
  refine wp_range_none (gf := 19) (lb := #[.pointer (some ⟨w1.heap.size, 0, none⟩)]) rfl (enters_of Try.func19 (by kernel_rfl) rfl) ?_ ?_
  · intro l W hW
    exact qall1_nil l _ W ((hW.cell (by rw [World.size_alloc]; omega) (by simp)).trans (hw2 ▸ hc))
  · intro D W hD hW hK
    rw [← hw2] at hW hD
    have hB1 := (Blk.new w #[.bool false] 4).step HS2.out (by simp)
    have hB2 := hB1.step hW (by simp)
    have hbc := hB2.cell 0
    have hbf := hB2.free 0
    rw [show (#[Value.bool false] : Array Value)[0]? = some (.bool false) from rfl] at hbc
    have hle := HS2.out.size
    rw [World.size_alloc] at hle
    have hsw2 := Lib.hid hW.size
    have HW := Lib.hid hW
    have HBW := Lib.hid hB2
    clear hW hB1 hB2
    go_wp2_with (first
      | (go_at_call 13; refine (qset_nil _ _ _).mono ?_; rintro e w7 ⟨rfl, rfl⟩)
      | (go_at_call 10; refine (qtake_nil _ _).mono ?_; rintro e w7 ⟨rfl, rfl⟩)
      | (go_at_call 11; refine (qgive_nil _ _).mono ?_; rintro e w7 ⟨rfl, rfl⟩)
      | (go_at_call 9; refine (qhas_nil _ _).mono ?_; rintro e w7 ⟨rfl, rfl⟩)
      | (go_at_call 15; refine (qmay_nil _ _).mono ?_; rintro e w7 ⟨rfl, rfl⟩)
      | (go_at_call 14; refine (qcopy_nil _).mono ?_; rintro e w7 ⟨rfl, rfl⟩))
    have hB3 := HBW.out.set 0 (.bool true)
    have hK' := (KeepsOthers.setCell W ⟨w.heap.size, 0, none⟩ (.bool true)).same D _ hK rfl
    have hc5 := cell_kept (hB3.cell 0) (grownBy_putObj' _ D (.deferred none)) (fun r e => by cases e; exact ⟨_, hK', rfl⟩)
    have hS : Step [] w W := ((Step.refl [] w).alloc _).then (HS2.out.then HW.out (by simp)) (by simp)
    refine ⟨by simp, .inl ⟨_, _, rfl, run_takeDeferred hK', ?_⟩⟩
    refine ⟨.bool true, ?_, rfl, (hS.below'.setCell (p := ⟨w.heap.size, 0, none⟩) (Nat.le_refl _) _).trans (belowK_b (w := w) (Nat.le_refl _) _ D _ _ (Nat.le_trans (Nat.le_of_lt hle) hD) hK' rfl rfl)⟩
    simp [results, Try.f5, go_sem, hc5]
end Go.Proofs.Ythdagklibmdglaa
