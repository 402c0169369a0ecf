/- CalendarEras, CalendarGoes, CalendarMonths: the walks of the laws. -/
import Derived.Test.YtbkjljdblhklmaaCalWalk
namespace Go.Proofs.Ytbkjljdblhklmaa
set_option linter.unusedVariables false
open Go.RowKit

theorem mom_era (t : Int) : momV (t + 210379680) = .agg #[.int .i64 (yearOf (dayN t) + 400), .int .i64 (monOf (dayN t)), .int .i64 (dayOf (dayN t)), .int .i64 ((t / 1440 + 6) % 7), .int .i64 (t % 1440 / 60), .int .i64 (t % 60)] := by
  have h := civil_era (dayN t)
  have e : dayN (t + 210379680) = dayN t + 146097 := by unfold dayN; omega
  have e2 : ((t + 210379680) / 1440 + 6) % 7 = (t / 1440 + 6) % 7 := by omega
  have e3 : (t + 210379680) % 1440 = t % 1440 := by omega
  have e4 : (t + 210379680) % 60 = t % 60 := by omega
  unfold momV
  rw [e, h.1, h.2.1, h.2.2, e2, e3, e4]

set_option maxHeartbeats 400000 in
theorem eras_walk (t : Nat) (w : World) (ht : t < 4294967296) :
    Calls Try.prog 3 #[.int .u32 t] w fun e w' => e = .returned (.bool true) ∧ Below w.heap.size w w' := by
  have HE := Lib.hid (mom_era (t : Int))
  have hb := year_bounds (dayN t) (by unfold dayN; omega) (by unfold dayN; omega)
  go_enter Try.func3, Try.ntmps3
  go_wp2_with fail
  refine (lives_any _).mono ?_
  rintro e w1 ⟨rfl, hb1⟩
  have h1 := hb1.size
  go_wp2_with fail
  refine (of_any _ _ (by omega) (by omega)).mono ?_
  rintro e w2 ⟨rfl, hb2⟩
  have h2 := hb2.size
  unfold momV
  go_wp2_with fail
  refine (of_any _ _ (by omega) (by omega)).mono ?_
  rw [HE.out]
  rintro e w3 ⟨rfl, hb3⟩
  have h3 := hb3.size
  simp at h3
  have h3' : w2.heap.size < w3.heap.size := by omega
  have hc : ∀ o, w3.cell? ⟨w2.heap.size, o, none⟩ = (w2.alloc (.cells #[.int .i64 (yearOf (dayN t)), .int .i64 (monOf (dayN t)), .int .i64 (dayOf (dayN t)), .int .i64 (((t : Int) / 1440 + 6) % 7), .int .i64 ((t : Int) % 1440 / 60), .int .i64 ((t : Int) % 60)] 25)).cell? ⟨w2.heap.size, o, none⟩ := fun o => hb3.cell (p := ⟨w2.heap.size, o, none⟩) (by simp)
  have c0 := hc 0
  have c1 := hc 1
  have c2 := hc 2
  have c3 := hc 3
  have c4 := hc 4
  have c5 := hc 5
  clear hc
  simp at c0 c1 c2 c3 c4 c5
  generalize yearOf (dayN t) = Y at *
  generalize monOf (dayN t) = M at *
  generalize dayOf (dayN t) = D at *
  have hb12 := hb1.trans (hb2.mono h1)
  have hb13 : Below w.heap.size w w3 := (hb12.alloc (by omega) _).trans (hb3.mono (by simp; omega))
  clear hb1 hb2 hb3 HE
  go_upto_region 6 with fail
  go_wp2_with (refine wpList_eq_mom (.tmp 33) (.tmp 34) _ rfl _ _ _ _ _ _ _ _ _ _ _ _ rfl rfl rfl ?_)
  go_ret
  refine ⟨ret_bool (by simp), hb13.alloc (by omega) _⟩

theorem len_at (y m : Int) (h : 1 ≤ m ∧ m ≤ 12) (h2 : ¬ (m = 2 ∧ leapB y = true)) :
    ([Value.int .i64 31, .int .i64 28, .int .i64 31, .int .i64 30, .int .i64 31, .int .i64 30, .int .i64 31, .int .i64 31, .int .i64 30, .int .i64 31, .int .i64 30, .int .i64 31] : List Value)[m.toNat - 1]? = some (.int .i64 (lenI y m)) := by
  have hc : m = 1 ∨ m = 2 ∨ m = 3 ∨ m = 4 ∨ m = 5 ∨ m = 6 ∨ m = 7 ∨ m = 8 ∨ m = 9 ∨ m = 10 ∨ m = 11 ∨ m = 12 := by omega
  unfold lenI lp
  rcases hc with rfl | rfl | rfl | rfl | rfl | rfl | rfl | rfl | rfl | rfl | rfl | rfl
  all_goals first | rfl | skip
  have : leapB y = false := by
    cases h3 : leapB y
    · rfl
    · exact absurd ⟨rfl, h3⟩ h2
  rw [this]
  rfl

set_option maxHeartbeats 1000000 in
theorem length_any (y m : Int) (w : World) :
    Calls Try.prog 13 #[.int .i64 y, .int .i64 m] w fun e w' => e = .returned (.int .i64 (lenI y m)) ∧ Below w.heap.size w w' := by
  by_cases hr : m < 1 ∨ (1 ≤ m ∧ 12 < m)
  · have hv : lenI y m = 0 := by unfold lenI; split <;> (try split) <;> (try split) <;> omega
    have HV := Lib.hid hv
    clear hv
    rcases hr with hr | ⟨hr, hr'⟩
    all_goals
      go_enter Try.func13, Try.ntmps13
      go_wp2_with fail
      go_ret
      exact ⟨ret_int HV.out.symm, Below.refl _ _⟩
  · by_cases h2 : m = 2 ∧ leapB y = true
    · obtain ⟨rfl, hl⟩ := h2
      have hv : lenI y 2 = 29 := by unfold lenI lp; rw [hl]; rfl
      have HV := Lib.hid hv
      have HL := Lib.hid hl
      clear hv hl hr
      go_enter Try.func13, Try.ntmps13
      go_wp2_with fail
      refine (lawleap_any _ _).mono ?_
      rw [HL.out]
      rintro e w2 ⟨rfl, rfl⟩
      go_wp2_with fail
      go_ret
      exact ⟨ret_int HV.out.symm, Below.refl _ _⟩
    · have ha := len_at y m (by omega) h2
      by_cases hm : m = 2
      · subst hm
        have hl : leapB y = false := by
          cases h3 : leapB y
          · rfl
          · exact absurd ⟨rfl, h3⟩ h2
        have HL := Lib.hid hl
        clear hl h2 hr
        have hv : lenI y 2 = 28 := by unfold lenI lp; rw [HL.out]; rfl
        have HV := Lib.hid hv
        clear hv ha
        go_enter Try.func13, Try.ntmps13
        go_wp2_with fail
        refine (lawleap_any _ _).mono ?_
        rw [HL.out]
        rintro e w2 ⟨rfl, rfl⟩
        go_wp2_with fail
        go_ret
        exact ⟨ret_int HV.out.symm, (Below.refl _ _).alloc (Nat.le_refl _) _⟩
      · have hmb : (m == 2) = false := beq_eq_false_iff_ne.2 hm
        have g1 : 1 ≤ m := by omega
        have g2 : m ≤ 12 := by omega
        clear hm h2 hr
        generalize lenI y m = v at *
        go_enter Try.func13, Try.ntmps13
        go_wp2_with fail
        go_ret
        exact ⟨rfl, (Below.refl _ _).alloc (Nat.le_refl _) _⟩

set_option maxHeartbeats 1000000 in
theorem months_walk (y m : Int) (w : World) :
    Calls Try.prog 5 #[.int .i64 y, .int .i64 m] w fun e w' => e = .returned (.bool true) ∧ Below w.heap.size w w' := by
  go_enter Try.func5, Try.ntmps5
  go_wp2_with fail
  refine (lives_any _).mono ?_
  rintro e w1 ⟨rfl, hb1⟩
  go_wp2_with fail
  refine (leap_any _ _).mono ?_
  rintro e w2 ⟨rfl, rfl⟩
  go_wp2_with fail
  refine (lawleap_any _ _).mono ?_
  rintro e w2 ⟨rfl, rfl⟩
  go_wp2_with fail
  refine (days_any _ _ _).mono ?_
  rintro e w2 ⟨rfl, rfl⟩
  go_wp2_with fail
  refine (length_any _ _ _).mono ?_
  rintro e w2 ⟨rfl, hb2⟩
  go_wp2_with fail
  go_ret
  exact ⟨rfl, hb1.trans (hb2.mono hb1.size)⟩
end Go.Proofs.Ytbkjljdblhklmaa
