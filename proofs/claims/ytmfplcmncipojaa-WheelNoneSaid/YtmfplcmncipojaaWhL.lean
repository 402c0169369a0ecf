/- A wheel that isn't there. -/
import Derived.Test.YtmfplcmncipojaaSeqNone
import Derived.Test.YtmfplcmncipojaaWhK
import Derived.RangeFuncLeaves
import Derived.Shelf.Abstract
namespace Go.Proofs.Ytmfplcmncipojaa
set_option linter.unusedVariables false
set_option linter.unusedSimpArgs false
open Go.RowKit Go.Shelf

theorem zadd_nil (s : ByteArray) (a : Int) (w : World) : Calls Try.prog 10 #[.pointer none, .string s, .int .i64 a] w fun e w' => e = .returned (.int .i64 1) ∧ w = w' := by
  go_enter Try.func10, Try.ntmps10
  go_wp2_with fail
  go_ret
  exact ⟨rfl, rfl⟩
theorem zcut_nil (s : ByteArray) (w : World) : Calls Try.prog 22 #[.pointer none, .string s] w fun e w' => e = .returned (.bool false) ∧ w = w' := by
  go_enter Try.func22, Try.ntmps22
  go_wp2_with fail
  go_ret
  exact ⟨rfl, rfl⟩
theorem zturn_nil (a : Int) (w : World) : Calls Try.prog 11 #[.pointer none, .int .i64 a] w fun e w' => e = .returned (.tuple #[.slice none 0 0, .int .i64 1]) ∧ w = w' := by
  go_enter Try.func11, Try.ntmps11
  go_wp2_with fail
  go_ret2
  exact ⟨rfl, rfl⟩
theorem zat_nil (s : ByteArray) (w : World) : Calls Try.prog 20 #[.pointer none, .string s] w fun e w' => e = .returned (.tuple #[.int .i64 0, .bool false]) ∧ w = w' := by
  go_enter Try.func20, Try.ntmps20
  go_wp2_with fail
  go_ret2
  exact ⟨rfl, rfl⟩
theorem zlen_nil (w : World) : Calls Try.prog 12 #[.pointer none] w fun e w' => e = .returned (.int .i64 0) ∧ w = w' := by
  go_enter Try.func12, Try.ntmps12
  go_wp2_with fail
  go_ret
  exact ⟨rfl, rfl⟩
theorem znow_nil (w : World) : Calls Try.prog 16 #[.pointer none] w fun e w' => e = .returned (.int .i64 0) ∧ w = w' := by
  go_enter Try.func16, Try.ntmps16
  go_wp2_with fail
  go_ret
  exact ⟨rfl, rfl⟩
theorem zcopy_nil (w : World) : Calls Try.prog 13 #[.pointer none] w fun e w' => e = .returned (.pointer none) ∧ w = w' := by
  go_enter Try.func13, Try.ntmps13
  go_wp2_with fail
  go_ret
  exact ⟨rfl, rfl⟩
theorem zall_any (p : Option Addr) (w : World) : Calls Try.prog 18 #[.pointer p] w fun e w' => e = .returned (.func (.func 31) #[] #[.pointer (some ⟨w.heap.size, 0, none⟩)]) ∧ w' = w.alloc (.cells #[.pointer p] 25) := by
  go_enter Try.func18, Try.ntmps18
  go_wp2_with fail
  go_ret
  exact ⟨rfl, rfl⟩
theorem zall1_nil (l b : Nat) (w : World) (hc : w.cell? ⟨b, 0, none⟩ = some (.pointer none)) : Calls Try.prog 31 #[.func (.yield l) #[] #[], .pointer (some ⟨b, 0, none⟩)] w fun e w' => (∃ v, e = .returned v) ∧ w = w' := by
  go_enter Try.func31, Try.ntmps31
  go_wp2_with fail
  refine bodyPost_ret (results_none rfl _ _ _) rfl ?_
  exact ⟨⟨_, rfl⟩, rfl⟩

set_option maxRecDepth 20000 in
set_option maxHeartbeats 1000000 in
theorem znext_nil (w : World) : Calls Try.prog 19 #[.pointer none] w fun e w' => e = .returned (.tuple #[.int .i64 0, .bool false]) ∧ Below w.heap.size w w' := by
  refine calls_of_wp_marks Try.func19 rfl ?_
  simp only [Try.ntmps19, List.size_toArray, List.length_cons, List.length_nil, Nat.reduceAdd, Nat.reduceSub, Array.replicate_succ, Array.replicate_zero, List.push_toArray, List.append_toArray, List.nil_append, List.cons_append]
  go_wp2_with fail
  refine (zall_any _ _).mono ?_
  rintro e w2 ⟨rfl, hw2⟩
  obtain ⟨w1, X⟩ : ∃ x, x = (w.alloc (.cells #[.int .i64 0] 2)).alloc (.cells #[.bool false] 4) := ⟨_, rfl⟩
  have hs : Step [] w w1 := by rw [X]; exact ((Step.refl [] w).alloc _).alloc _
  have hsz : w1.heap.size = w.heap.size + 2 := by rw [X]; simp [World.size_alloc]
  have hA0 := (Blk.new w #[.int .i64 0] 2).alloc (.cells #[.bool false] 4)
  have hB0 := Blk.new (w.alloc (.cells #[.int .i64 0] 2)) #[.bool false] 4
  rw [World.size_alloc] at hB0
  rw [← X] at hA0 hB0 hw2
  have hc := (Blk.new w1 #[.pointer none] 25).cell 0
  rw [show (#[Value.pointer none] : Array Value)[0]? = some (.pointer none) from rfl] at hc
  rw [← hw2] at hc
  have hs2 : Step [] w1 w2 := by rw [hw2]; exact (Step.refl [] w1).alloc _
  rw [← X]
  go_wp2_with fail
  refine wp_range_none (gf := 31) (lb := #[.pointer (some ⟨w.heap.size + 1 + 1, 0, none⟩)]) rfl (enters_of Try.func31 (by kernel_rfl) rfl) ?_ ?_
  · intro l W hW
    rw [← X, ← hw2] at hW
    exact zall1_nil l _ W ((hW.cell (by rw [hw2, World.size_alloc]; omega) (by simp)).trans (hsz ▸ hc))
  · intro D W hD hW hK
    rw [← X, ← hw2] at hW hD
    have hA := (hA0.step hs2 (by simp)).step hW (by simp)
    have hB := (hB0.step hs2 (by simp)).step hW (by simp)
    have hac := hA.cell 0
    have haf := hA.free 0
    have hbc := hB.cell 0
    have hbf := hB.free 0
    rw [show (#[Value.int .i64 0] : Array Value)[0]? = some (.int .i64 0) from rfl] at hac
    rw [show (#[Value.bool false] : Array Value)[0]? = some (.bool false) from rfl] at hbc
    have hle := hs2.size
    have hS : Step [] w W := (hs.then hs2 (by simp)).then hW (by simp)
    have HS := Lib.hid hS
    have HA := Lib.hid hA
    have HB := Lib.hid hB
    clear hS hA hB hA0 hB0 hs hs2
    go_wp2_with fail
    have hA3 := (HA.out.set 0 (.int .i64 0)).set_ne (w.heap.size + 1) 0 (.bool false) (by omega)
    have hB3 := (HB.out.set_ne w.heap.size 0 (.int .i64 0) (by omega)).set 0 (.bool false)
    have hK1 := (KeepsOthers.setCell W ⟨w.heap.size, 0, none⟩ (.int .i64 0)).same D _ hK rfl
    have hK' := (KeepsOthers.setCell (W.setCell ⟨w.heap.size, 0, none⟩ (.int .i64 0)) ⟨w.heap.size + 1, 0, none⟩ (.bool false)).same D _ hK1 rfl
    have hc5 := cell_kept (hA3.cell 0) (grownBy_putObj' _ D (.deferred none)) (fun r e => by cases e; exact ⟨_, hK', rfl⟩)
    have hc6 := cell_kept (hB3.cell 0) (grownBy_putObj' _ D (.deferred none)) (fun r e => by cases e; exact ⟨_, hK', rfl⟩)
    refine ⟨by simp, .inl ⟨_, _, rfl, run_takeDeferred hK', ?_⟩⟩
    have hv := (HS.out.below'.setCell (p := ⟨w.heap.size, 0, none⟩) (Nat.le_refl _) (.int .i64 0)).setCell (p := ⟨w.heap.size + 1, 0, none⟩) (by simp) (.bool false)
    refine ⟨.tuple #[.int .i64 0, .bool false], ?_, rfl, hv.trans (belowK_b (w := w) (Nat.le_refl _) _ D _ _ (Nat.le_trans (by omega) hD) hK' rfl rfl)⟩
    simp [results, Try.f19, go_sem, hc5, hc6]
end Go.Proofs.Ytmfplcmncipojaa
