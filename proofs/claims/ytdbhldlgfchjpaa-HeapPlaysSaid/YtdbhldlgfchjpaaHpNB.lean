/- heap B (uint8, int): one that isn't there. -/
import Derived.Test.YtdbhldlgfchjpaaHpIB
namespace Go.Proofs.Ytdbhldlgfchjpaa
set_option linter.unusedVariables false
open Go.RowKit
namespace HpB
theorem len_nil (w : World) : Calls Try.prog 46 #[.pointer none] w fun e w' => e = .returned (.int .i64 0) ∧ w = w' := by
  go_enter Try.func46, Try.ntmps46
  go_wp2_with fail
  go_ret
  exact ⟨rfl, rfl⟩
theorem put_nil (k : Int) (r : Int) (w : World) : Calls Try.prog 14 #[.pointer none, .int .u8 (k), .int .i64 (r)] w fun e w' => e = .returned (.bool false) ∧ w = w' := by
  go_enter Try.func14, Try.ntmps14
  go_wp2_with fail
  go_ret
  exact ⟨rfl, rfl⟩
theorem cut_nil (k : Int) (w : World) : Calls Try.prog 15 #[.pointer none, .int .u8 (k)] w fun e w' => e = .returned (.bool false) ∧ w = w' := by
  go_enter Try.func15, Try.ntmps15
  go_wp2_with fail
  go_ret
  exact ⟨rfl, rfl⟩
theorem copy_nil (w : World) : Calls Try.prog 19 #[.pointer none] w fun e w' => e = .returned (.pointer none) ∧ w = w' := by
  go_enter Try.func19, Try.ntmps19
  go_wp2_with fail
  go_ret
  exact ⟨rfl, rfl⟩
theorem rank_nil (k : Int) (w : World) : Calls Try.prog 13 #[.pointer none, .int .u8 (k)] w fun e w' => e = .returned (.tuple #[.int .i64 (0), .bool false]) ∧ w = w' := by
  go_enter Try.func13, Try.ntmps13
  go_wp2_with fail
  go_ret2
  exact ⟨rfl, rfl⟩
theorem first_nil (w : World) : Calls Try.prog 41 #[.pointer none] w fun e w' => e = .returned (.tuple #[.agg #[.int .u8 (0), .int .i64 (0)], .bool false]) ∧ Step [] w w' := by
  go_enter Try.func41, Try.ntmps41
  go_wp2_with fail
  refine (len_nil _).mono ?_
  rintro e w2 ⟨rfl, rfl⟩
  go_wp2_with fail
  refine bodyPost_ret (v := .tuple #[.agg #[.int .u8 (0), .int .i64 (0)], .bool false]) (by rw [results_cell_tmp rfl]; go_simp <;> rfl) rfl ⟨rfl, ?_⟩
  (repeat' (first | exact Step.refl _ _ | refine Step.drew ?_ | refine Step.setCell ?_ (.inr (by simp <;> omega)) _ _ | refine Step.alloc ?_ _))
theorem pop_nil (w : World) : Calls Try.prog 17 #[.pointer none] w fun e w' => e = .returned (.tuple #[.agg #[.int .u8 (0), .int .i64 (0)], .bool false]) ∧ Step [] w w' := by
  go_enter Try.func17, Try.ntmps17
  go_wp2_with fail
  refine (first_nil _).mono ?_
  rintro e w2 ⟨rfl, hs2⟩
  have hB := (Blk.new w #[.int .u8 (0), .int .i64 (0)] 49).step hs2 (by simp)
  have hlt := hB.lt
  obtain ⟨b1, hb1⟩ : ∃ b, w.heap.size = b := ⟨_, rfl⟩
  have HSZ := Lib.hid hb1
  rw [hb1] at hB hlt ⊢
  have q0 := hB.cell 0
  have q1 := hB.cell 1
  have f0 := hB.free 0
  have f1 := hB.free 1
  simp only [List.getElem?_toArray, List.getElem?_cons_zero, List.getElem?_cons_succ] at q0 q1
  have HB := Lib.hid hB
  have HS2 := Lib.hid hs2
  clear hB hb1 hs2
  go_wp2_with fail
  have hs := ((Step.refl [] w).alloc (.cells #[.int .u8 (0), .int .i64 (0)] 49)).then HS2.out (by simp)
  have hsz := HSZ.out
  refine bodyPost_ret (v := .tuple #[.agg #[.int .u8 (0), .int .i64 (0)], .bool false]) (by rw [results_cell_tmp rfl]; go_simp <;> rfl) rfl ⟨rfl, ?_⟩
  exact ((hs.setCell (.inr (by omega)) 0 _).setCell (.inr (by omega)) 1 _).alloc _
/-- the iterator: a box for the heap -/
theorem all_box (p : Option Addr) (w : World) : Calls Try.prog 45 #[.pointer p] w fun e w' => e = .returned (.func (.func 61) #[] #[.pointer (some ⟨w.heap.size, 0, none⟩)]) ∧ w' = w.alloc (.cells #[.pointer p] 35) := by
  go_enter Try.func45, Try.ntmps45
  go_wp2_with fail
  go_ret
  exact ⟨rfl, rfl⟩
theorem all1_nil (l b : Nat) (w : World) (hc : w.cell? ⟨b, 0, none⟩ = some (.pointer none)) : Calls Try.prog 61 #[.func (.yield l) #[] #[], .pointer (some ⟨b, 0, none⟩)] w fun e w' => (∃ v, e = .returned v) ∧ w = w' := by
  go_enter Try.func61, Try.ntmps61
  go_wp2_with fail
  refine (copy_nil _).mono ?_
  rintro e w2 ⟨rfl, rfl⟩
  go_wp2_with fail
  go_loopw [10] (fun _ wr => wr = w) (fun _ _ => 0)
  case atStart => rfl
  case round =>
    subst hrel
    go_wp2_with fail
    refine (len_nil _).mono ?_
    rintro e w2 ⟨rfl, rfl⟩
    go_wp2_with fail
    refine bodyPost_end (results_none rfl _ _ _) rfl ?_
    exact ⟨⟨_, rfl⟩, rfl⟩
end HpB
end Go.Proofs.Ytdbhldlgfchjpaa
