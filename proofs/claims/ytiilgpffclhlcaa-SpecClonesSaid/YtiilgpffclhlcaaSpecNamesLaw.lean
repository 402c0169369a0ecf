/- SpecNames: the walk of the law, and the plain law beneath it. -/
import Derived.Test.YtiilgpffclhlcaaSpecName
namespace Go.Proofs.Ytiilgpffclhlcaa
set_option linter.unusedVariables false
open Go.RowKit

set_option maxHeartbeats 400000 in
theorem final_any (c : Int) (w : World) :
    Calls Try.prog 11 #[.int .i64 c] w fun e w' => e = .returned (.bool (c == 4 || c == 5 || c == 6)) ∧ w = w' := by
  go_enter Try.func11, Try.ntmps11
  go_wp2
  all_goals
    go_ret
    refine ⟨ret_bool ?_, rfl⟩
    simp [*]

theorem name_lit1 : nameB { data := #[97, 46, 49] } = true := by decide
theorem name_lit2 : nameB { data := #[46, 97] } = false := by decide

set_option maxHeartbeats 400000 in
theorem lives_any (w : World) :
    Calls Try.prog 5 #[] w fun e w' => e = .returned (.bool true) ∧ Below w.heap.size w w' := by
  go_enter Try.func5, Try.ntmps5
  go_wp2_with fail
  refine (name_any _ _ (by decide)).mono ?_
  rw [name_lit1]
  rintro e w1 ⟨rfl, hb1⟩
  have h1 := hb1.size
  go_wp2_with fail
  refine (name_any _ _ (by decide)).mono ?_
  rw [name_lit2]
  rintro e w2 ⟨rfl, hb2⟩
  go_wp2_with fail
  refine (final_any _ _).mono ?_
  rintro e w3 ⟨rfl, rfl⟩
  go_wp2_with fail
  go_ret
  exact ⟨rfl, hb1.trans (hb2.mono h1)⟩

def mayB (n : Nat) (c : Int) : Bool := (decide (97 ≤ c) && decide (c ≤ 122)) || (decide (0 < n) && ((decide (48 ≤ c) && decide (c ≤ 57)) || c == 45 || c == 46))

theorem may_sign (s : ByteArray) (c : UInt8) (m : ByteArray) (hm : m.data.toList = s.data.toList ++ [c]) :
    nameB m = ((nameB s || decide (s.size = 0)) && mayB s.size (c.toNat : Int) && decide (m.size ≤ 24)) := by
  have hsz : m.size = s.size + 1 := by rw [← size_list, hm]; simp
  by_cases h0 : s.size = 0
  · have := empty_of s h0
    subst this
    have hm' : m.data.toList = [c] := by rw [hm]; rfl
    have e0 : nameB ByteArray.empty = false := by decide
    simp only [nameB, hm', hsz, mayB, allS, headB, signB]
    rw [Bool.eq_iff_iff]
    simp
    omega
  · have hh : headB m.data.toList = headB s.data.toList := by
      rw [hm]
      cases hl : s.data.toList with
      | nil => exact absurd (by rw [← size_list, hl]; rfl) h0
      | cons a l => rfl
    have ha : allS m.data.toList = (allS s.data.toList && signB (c.toNat : Int)) := by rw [hm, allS_app]; simp [allS]
    have hmay : mayB s.size (c.toNat : Int) = signB (c.toNat : Int) := by
      simp only [mayB, signB, show decide (0 < s.size) = true by simp; omega, Bool.true_and, Bool.or_assoc]
    simp only [nameB, hh, ha, hmay, hsz]
    cases headB s.data.toList <;> cases allS s.data.toList <;> cases signB (c.toNat : Int) <;> simp
    all_goals intro h
    all_goals first | omega | (subst h; exact absurd rfl h0)

set_option maxHeartbeats 1000000 in
theorem law_walk (s : ByteArray) (u : UInt8) (w : World) (hs : s.size ≤ maxLen) :
    Calls Try.prog 3 #[.string s, .int .u8 (u.toNat : Int)] w fun e w' => e = .returned (.bool true) ∧ Below w.heap.size w w' := by
  by_cases h40 : 40 < s.size
  · have hs' := hs
    unfold maxLen at hs'
    go_enter Try.func3, Try.ntmps3
    go_wp2_with fail
    refine (lives_any _).mono ?_
    rintro e w1 ⟨rfl, hb1⟩
    have h1 := hb1.size
    go_wp2_with fail
    refine (lives_any _).mono ?_
    rintro e w2 ⟨rfl, hb2⟩
    go_wp2_with fail
    go_ret
    exact ⟨rfl, hb1.trans (hb2.mono h1)⟩
  · have hm : (s ++ ⟨#[u]⟩ : ByteArray).data.toList = s.data.toList ++ [u] := by rw [cat_list]
    have HP := Lib.hid (may_sign s u _ hm)
    have HZ := Lib.hid (size_list s)
    clear hm
    have hu := u.toNat_lt
    go_enter Try.func3, Try.ntmps3
    go_wp2_with fail
    refine (lives_any _).mono ?_
    rintro e w1 ⟨rfl, hb1⟩
    have h1 := hb1.size
    have hcv := run_convert_bytes_arg (P := Try.prog) (w1.alloc (.cells #[.int .u8 (u.toNat : Int)] 5)) 23 5 Try.underlying23 Try.underlying5 w1.heap.size 0 1 1 [(u.toNat : Int)] rfl
      (fun i hi => by obtain rfl : i = 0 := by omega
                      simp) 9 Try.underlying9
    rw [strOfNums_one] at hcv
    go_upto_region 4 with fail
    go_cut [6] (fun s6 wx => s6 = .bool (mayB s.size (u.toNat : Int)) ∧ w1.heap.size ≤ wx.heap.size ∧ Below w1.heap.size w1 wx)
    case first =>
      clear hcv
      cases h45 : ((u.toNat : Int) == 45) <;> cases h46 : ((u.toNat : Int) == 46)
      all_goals
        go_wp2_with fail
      all_goals
        go_meet
        refine ⟨congrArg Value.bool ?_, by simp, (Below.refl _ _).alloc (Nat.le_refl _) _⟩
        unfold mayB
        rw [h45, h46, Bool.eq_iff_iff]
        simp [-ByteArray.size_eq_zero_iff]
        try omega
    case rest =>
      obtain ⟨rfl, hx1, hx2⟩ := hcut
      have hn1 : decide (s.size = 0) = s.toList.isEmpty := by
        by_cases h0 : s.size = 0
        · rw [toList_emp s h0]; simp only [h0, decide_true]
        · rw [toList_ne s (by omega)]; simp only [h0, decide_false]
      have hsz : (s ++ ⟨#[u]⟩ : ByteArray).size ≤ maxLen := by
        rw [ByteArray.size_append]
        show s.size + 1 ≤ maxLen
        unfold maxLen
        omega
      have hp := HP.out
      rw [hn1] at hp
      clear hn1 hcv HP HZ
      generalize hmore : (s ++ ⟨#[u]⟩ : ByteArray) = more at hp hsz
      have HM := Lib.hid hmore
      clear hmore
      generalize hN : nameB s = bN at hp
      have HN := Lib.hid hN
      clear hN
      generalize hY : mayB s.size (u.toNat : Int) = bY at hp
      have HY := Lib.hid hY
      clear hY
      generalize hE : s.toList.isEmpty = bE at hp
      have HP := Lib.hid hp
      clear hp
      go_wp2_with fail
      refine (name_any _ _ hs).mono ?_
      rw [HN.out]
      rintro e w2 ⟨rfl, hb2⟩
      have h2 := hb2.size
      cases bN <;> cases bY <;> cases bE
      all_goals
        go_wp2_with fail
        refine (name_any _ _ hsz).mono ?_
        rw [HP.out]
        rintro e w3 ⟨rfl, hb3⟩
        go_wp2_with fail
        go_ret
        refine ⟨ret_bool ?_, hb1.trans ((hx2.mono h1).trans ((hb2.mono (by omega)).trans (hb3.mono (by omega))))⟩
        simp
        try omega
end Go.Proofs.Ytiilgpffclhlcaa
