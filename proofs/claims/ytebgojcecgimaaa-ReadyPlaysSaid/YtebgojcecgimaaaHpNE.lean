/- heap E (string, uint64): one that isn't there. -/
import Derived.Test.YtebgojcecgimaaaHpIE
namespace Go.Proofs.Ytebgojcecgimaaa
set_option linter.unusedVariables false
open Go.RowKit
namespace HpE
theorem len_nil (w : World) : Calls Try.prog 28 #[.pointer none] w fun e w' => e = .returned (.int .i64 0) ∧ w = w' := by
  go_enter Try.func28, Try.ntmps28
  go_wp2_with fail
  go_ret
  exact ⟨rfl, rfl⟩
theorem put_nil (k : ByteArray) (r : Int) (w : World) : Calls Try.prog 22 #[.pointer none, .string (k), .int .u64 (r)] w fun e w' => e = .returned (.bool false) ∧ w = w' := by
  go_enter Try.func22, Try.ntmps22
  go_wp2_with fail
  go_ret
  exact ⟨rfl, rfl⟩
theorem cut_nil (k : ByteArray) (w : World) : Calls Try.prog 24 #[.pointer none, .string (k)] w fun e w' => e = .returned (.bool false) ∧ w = w' := by
  go_enter Try.func24, Try.ntmps24
  go_wp2_with fail
  go_ret
  exact ⟨rfl, rfl⟩
theorem copy_nil (w : World) : Calls Try.prog 25 #[.pointer none] w fun e w' => e = .returned (.pointer none) ∧ w = w' := by
  go_enter Try.func25, Try.ntmps25
  go_wp2_with fail
  go_ret
  exact ⟨rfl, rfl⟩
theorem rank_nil (k : ByteArray) (w : World) : Calls Try.prog 23 #[.pointer none, .string (k)] w fun e w' => e = .returned (.tuple #[.int .u64 (0), .bool false]) ∧ w = w' := by
  go_enter Try.func23, Try.ntmps23
  go_wp2_with fail
  go_ret2
  exact ⟨rfl, rfl⟩
theorem first_nil (w : World) : Calls Try.prog 38 #[.pointer none] w fun e w' => e = .returned (.tuple #[.agg #[.string (ByteArray.empty), .int .u64 (0)], .bool false]) ∧ Step [] w w' := by
  go_enter Try.func38, Try.ntmps38
  go_wp2_with fail
  refine (len_nil _).mono ?_
  rintro e w2 ⟨rfl, rfl⟩
  go_wp2_with fail
  refine bodyPost_ret (v := .tuple #[.agg #[.string (ByteArray.empty), .int .u64 (0)], .bool false]) (by rw [results_cell_tmp rfl]; go_simp <;> rfl) rfl ⟨rfl, ?_⟩
  (repeat' (first | exact Step.refl _ _ | refine Step.drew ?_ | refine Step.setCell ?_ (.inr (by simp <;> omega)) _ _ | refine Step.alloc ?_ _))
theorem pop_nil (w : World) : Calls Try.prog 35 #[.pointer none] w fun e w' => e = .returned (.tuple #[.agg #[.string (ByteArray.empty), .int .u64 (0)], .bool false]) ∧ Step [] w w' := by
  go_enter Try.func35, Try.ntmps35
  go_wp2_with fail
  refine (first_nil _).mono ?_
  rintro e w2 ⟨rfl, hs2⟩
  have hB := (Blk.new w #[.string (ByteArray.empty), .int .u64 (0)] 66).step hs2 (by simp)
  have hlt := hB.lt
  obtain ⟨b1, hb1⟩ : ∃ b, w.heap.size = b := ⟨_, rfl⟩
  have HSZ := Lib.hid hb1
  rw [hb1] at hB hlt ⊢
  have q0 := hB.cell 0
  have q1 := hB.cell 1
  have f0 := hB.free 0
  have f1 := hB.free 1
  simp only [List.getElem?_toArray, List.getElem?_cons_zero, List.getElem?_cons_succ] at q0 q1
  have HB := Lib.hid hB
  have HS2 := Lib.hid hs2
  clear hB hb1 hs2
  go_wp2_with fail
  have hs := ((Step.refl [] w).alloc (.cells #[.string (ByteArray.empty), .int .u64 (0)] 66)).then HS2.out (by simp)
  have hsz := HSZ.out
  refine bodyPost_ret (v := .tuple #[.agg #[.string (ByteArray.empty), .int .u64 (0)], .bool false]) (by rw [results_cell_tmp rfl]; go_simp <;> rfl) rfl ⟨rfl, ?_⟩
  exact ((hs.setCell (.inr (by omega)) 0 _).setCell (.inr (by omega)) 1 _).alloc _
/-- the iterator: a box for the heap -/
theorem all_box (p : Option Addr) (w : World) : Calls Try.prog 27 #[.pointer p] w fun e w' => e = .returned (.func (.func 34) #[] #[.pointer (some ⟨w.heap.size, 0, none⟩)]) ∧ w' = w.alloc (.cells #[.pointer p] 54) := by
  go_enter Try.func27, Try.ntmps27
  go_wp2_with fail
  go_ret
  exact ⟨rfl, rfl⟩
theorem all1_nil (l b : Nat) (w : World) (hc : w.cell? ⟨b, 0, none⟩ = some (.pointer none)) : Calls Try.prog 34 #[.func (.yield l) #[] #[], .pointer (some ⟨b, 0, none⟩)] w fun e w' => (∃ v, e = .returned v) ∧ w = w' := by
  go_enter Try.func34, Try.ntmps34
  go_wp2_with fail
  refine (copy_nil _).mono ?_
  rintro e w2 ⟨rfl, rfl⟩
  go_wp2_with fail
  go_loopw [10] (fun _ wr => wr = w) (fun _ _ => 0)
  case atStart => rfl
  case round =>
    subst hrel
    go_wp2_with fail
    refine (len_nil _).mono ?_
    rintro e w2 ⟨rfl, rfl⟩
    go_wp2_with fail
    refine bodyPost_end (results_none rfl _ _ _) rfl ?_
    exact ⟨⟨_, rfl⟩, rfl⟩
end HpE
end Go.Proofs.Ytebgojcecgimaaa
