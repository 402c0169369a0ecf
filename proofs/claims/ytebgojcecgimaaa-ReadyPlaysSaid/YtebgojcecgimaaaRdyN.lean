/- Ready: a row that isn't there. -/
import Derived.Test.YtebgojcecgimaaaSeqNil
import Derived.Laws.ResultCell
import Derived.RangeFuncLeaves
import Derived.Shelf.Abstract
import Derived.Deep.QuietTactic
import Derived.BigQuiet
namespace Go.Proofs.Ytebgojcecgimaaa
set_option linter.unusedVariables false
open Go.RowKit Go.Shelf
namespace Rd
theorem put_nil (k : ByteArray) (p o : Int) (w : World) : Calls Try.prog 9 #[.pointer none, .string k, .int .i64 p, .int .u64 o] w fun e w' => e = .returned (.int .i64 1) ∧ w = w' := by
  go_enter Try.func9, Try.ntmps9
  go_wp2_with fail
  go_ret
  exact ⟨rfl, rfl⟩
theorem has_nil (k : ByteArray) (w : World) : Calls Try.prog 13 #[.pointer none, .string k] w fun e w' => e = .returned (.bool false) ∧ w = w' := by
  go_enter Try.func13, Try.ntmps13
  go_wp2_with fail
  go_ret
  exact ⟨rfl, rfl⟩
theorem cut_nil (k : ByteArray) (w : World) : Calls Try.prog 14 #[.pointer none, .string k] w fun e w' => e = .returned (.bool false) ∧ w = w' := by
  go_enter Try.func14, Try.ntmps14
  go_wp2_with fail
  go_ret
  exact ⟨rfl, rfl⟩
theorem len_nil (p : Int) (w : World) : Calls Try.prog 19 #[.pointer none, .int .i64 p] w fun e w' => e = .returned (.int .i64 0) ∧ w = w' := by
  go_enter Try.func19, Try.ntmps19
  go_wp2_with fail
  go_ret
  exact ⟨rfl, rfl⟩
theorem copy_nil (w : World) : Calls Try.prog 16 #[.pointer none] w fun e w' => e = .returned (.pointer none) ∧ w = w' := by
  go_enter Try.func16, Try.ntmps16
  go_wp2_with fail
  go_ret
  exact ⟨rfl, rfl⟩
/-- the iterator: a box for the row -/
theorem all_box (p : Option Addr) (w : World) : Calls Try.prog 17 #[.pointer p] w fun e w' => e = .returned (.func (.func 26) #[] #[.pointer (some ⟨w.heap.size, 0, none⟩)]) ∧ w' = w.alloc (.cells #[.pointer p] 24) := by
  go_enter Try.func17, Try.ntmps17
  go_wp2_with fail
  go_ret
  exact ⟨rfl, rfl⟩
theorem all1_nil (l b : Nat) (w : World) (hc : w.cell? ⟨b, 0, none⟩ = some (.pointer none)) : Calls Try.prog 26 #[.func (.yield l) #[] #[], .pointer (some ⟨b, 0, none⟩)] w fun e w' => (∃ v, e = .returned v) ∧ Step [] w w' := by
  have hlt := World.block_lt_of_cell? w _ hc
  have hs := (Step.refl [] w).alloc (.cells #[.func (.yield l) #[] #[]] 44)
  have hc2 := (hs.cell hlt (by simp)).trans hc
  go_enter Try.func26, Try.ntmps26
  go_wp2_with fail
  refine bodyPost_ret (results_none rfl _ _ _) rfl ?_
  exact ⟨⟨_, rfl⟩, hs⟩
set_option maxRecDepth 20000 in
set_option maxHeartbeats 1000000 in
/-- nobody is next -/
theorem next_nil (w : World) : Calls Try.prog 18 #[.pointer none] w fun e w' => e = .returned (.tuple #[.string ByteArray.empty, .bool false]) ∧ Step [] w w' := by
  refine calls_of_wp_marks Try.func18 rfl ?_
  simp only [Try.ntmps18, List.size_toArray, List.length_cons, List.length_nil, Nat.reduceAdd, Nat.reduceSub, Array.replicate_succ, Array.replicate_zero, List.push_toArray, List.append_toArray, List.nil_append, List.cons_append]
  go_wp2_with fail
  refine (all_box _ _).mono ?_
  rintro e w2 ⟨rfl, hw2⟩
  have b0 : Blk w2 w.heap.size #[.string { data := #[] }] 9 := by rw [hw2]; exact ((Blk.new w #[.string { data := #[] }] 9).alloc _).alloc _
  have b1 : Blk w2 (w.heap.size + 1) #[.bool false] 4 := by
    rw [hw2]
    have := Blk.new (w.alloc (.cells #[.string { data := #[] }] 9)) #[.bool false] 4
    rw [World.size_alloc] at this
    exact this.alloc _
  have hbx : ((w.alloc (.cells #[.string { data := #[] }] 9)).alloc (.cells #[.bool false] 4)).heap.size = w.heap.size + 2 := by rw [World.size_alloc, World.size_alloc]
  have hc := (Blk.new ((w.alloc (.cells #[.string { data := #[] }] 9)).alloc (.cells #[.bool false] 4)) #[.pointer none] 24).cell 0
  rw [show (#[Value.pointer none] : Array Value)[0]? = some (.pointer none) from rfl] at hc
  have HS := Lib.hid (show Step [] w w2 by rw [hw2]; exact (((Step.refl [] w).alloc _).alloc _).alloc _)
  have hsz : w2.heap.size = w.heap.size + 3 := by rw [hw2, World.size_alloc, hbx]
  rw [← hw2] at hc
  rw [hbx] at hc ⊢
  have HB := Lib.hid (And.intro b0 b1)
  clear hw2 hbx b0 b1
  go_wp2_with fail
  refine wp_range_nil (gf := 26) (lb := #[.pointer (some ⟨w.heap.size + 2, 0, none⟩)]) rfl (enters_of Try.func26 (by kernel_rfl) rfl) ?_ ?_
  · intro l W hW
    exact all1_nil l _ W ((hW.cell (by omega) (by simp)).trans hc)
  · intro D W hD hW hK
    have HW := Lib.hid (And.intro hW (And.intro hD hK))
    obtain ⟨e0, e1⟩ := HB.out
    have f0 := (e0.step hW (by simp)).cell 0
    have f1 := (e1.step hW (by simp)).cell 0
    have g0 := (e0.step hW (by simp)).free 0
    have g1 := (e1.step hW (by simp)).free 0
    simp only [List.getElem?_toArray, List.getElem?_cons_zero] at f0 f1
    clear hW hK hD hc hsz e0 e1
    go_wp2_with fail
    obtain ⟨e0, e1⟩ := HB.out
    have hsz2 := HS.out.size
    have d0 := e0.lt
    have d1 := e1.lt
    have k0 := (e0.step HW.out.1 (by simp))
    have k1 := (e1.step HW.out.1 (by simp))
    have hne : w.heap.size + 1 ≠ w.heap.size := by omega
    have m0 : Blk ((W.setCell ⟨w.heap.size, 0, none⟩ (.string { data := #[] })).setCell ⟨w.heap.size + 1, 0, none⟩ (.bool false)) w.heap.size #[.string { data := #[] }] 9 := (k0.set 0 _).set_ne _ 0 _ (by omega)
    have m1 : Blk ((W.setCell ⟨w.heap.size, 0, none⟩ (.string { data := #[] })).setCell ⟨w.heap.size + 1, 0, none⟩ (.bool false)) (w.heap.size + 1) #[.bool false] 4 := (k1.set_ne _ 0 _ hne).set 0 _
    have s1 : Step [w.heap.size, w.heap.size + 1] W ((W.setCell ⟨w.heap.size, 0, none⟩ (.string { data := #[] })).setCell ⟨w.heap.size + 1, 0, none⟩ (.bool false)) := ((Step.refl _ W).setCell (.inl (by simp)) 0 _).setCell (.inl (by simp)) 0 _
    have hDW : D < W.heap.size := (Array.getElem?_eq_some_iff.1 HW.out.2.2).1
    have hD2 := HW.out.2.1
    have hK' : ((W.setCell ⟨w.heap.size, 0, none⟩ (.string { data := #[] })).setCell ⟨w.heap.size + 1, 0, none⟩ (.bool false)).heap[D]? = some (.deferred (some [])) := (s1.block D hDW (fun hm => by
      simp only [List.mem_cons, List.not_mem_nil, or_false] at hm
      omega)).trans HW.out.2.2
    refine ⟨by simp, .inl ⟨_, _, rfl, run_takeDeferred hK', ?_⟩⟩
    have s2 := step_put (W := ((W.setCell ⟨w.heap.size, 0, none⟩ (.string { data := #[] })).setCell ⟨w.heap.size + 1, 0, none⟩ (.bool false))) (l := D) (.deferred none)
    have v0 := (m0.step s2 (by simp; omega)).cell 0
    have v1 := (m1.step s2 (by simp; omega)).cell 0
    simp only [List.getElem?_toArray, List.getElem?_cons_zero] at v0 v1
    have hst : Step [] w (((W.setCell ⟨w.heap.size, 0, none⟩ (.string { data := #[] })).setCell ⟨w.heap.size + 1, 0, none⟩ (.bool false)).putObj D (.deferred none)) := ((HS.out.then HW.out.1 (by simp)).then s1 (fun k hk => .inr (by
      simp only [List.mem_cons, List.not_mem_nil, or_false] at hk
      omega))).then s2 (fun k hk => .inr (by
      simp only [List.mem_cons, List.not_mem_nil, or_false] at hk
      omega))
    refine ⟨.tuple #[.string ByteArray.empty, .bool false], ?_, rfl, hst⟩
    generalize ((W.setCell ⟨w.heap.size, 0, none⟩ (.string { data := #[] })).setCell ⟨w.heap.size + 1, 0, none⟩ (.bool false)).putObj D (.deferred none) = V at v0 v1
    simp [results, Try.f18, go_sem, v0, v1]
    rfl
theorem take_nil (w : World) : Calls Try.prog 10 #[.pointer none] w fun e w' => e = .returned (.tuple #[.string ByteArray.empty, .bool false]) ∧ Step [] w w' := by
  go_enter Try.func10, Try.ntmps10
  go_wp2_with fail
  refine (next_nil _).mono ?_
  rintro e w1 ⟨rfl, hs⟩
  go_wp2_with fail
  go_ret2
  exact ⟨rfl, hs⟩
end Rd
end Go.Proofs.Ytebgojcecgimaaa
