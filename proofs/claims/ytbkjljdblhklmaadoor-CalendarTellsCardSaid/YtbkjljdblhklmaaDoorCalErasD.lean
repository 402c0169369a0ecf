/- calendar: length (cut out of CalErasLaw, for the seat that has not the other laws). -/
import Derived.Test.YtbkjljdblhklmaaDoorCalWalk
namespace Go.Proofs.YtbkjljdblhklmaaDoor
set_option linter.unusedVariables false
open Go.RowKit

theorem len_at (y m : Int) (h : 1 ≤ m ∧ m ≤ 12) (h2 : ¬ (m = 2 ∧ leapB y = true)) :
    ([Value.int .i64 31, .int .i64 28, .int .i64 31, .int .i64 30, .int .i64 31, .int .i64 30, .int .i64 31, .int .i64 31, .int .i64 30, .int .i64 31, .int .i64 30, .int .i64 31] : List Value)[m.toNat - 1]? = some (.int .i64 (lenI y m)) := by
  have hc : m = 1 ∨ m = 2 ∨ m = 3 ∨ m = 4 ∨ m = 5 ∨ m = 6 ∨ m = 7 ∨ m = 8 ∨ m = 9 ∨ m = 10 ∨ m = 11 ∨ m = 12 := by omega
  unfold lenI lp
  rcases hc with rfl | rfl | rfl | rfl | rfl | rfl | rfl | rfl | rfl | rfl | rfl | rfl
  all_goals first | rfl | skip
  have : leapB y = false := by
    cases h3 : leapB y
    · rfl
    · exact absurd ⟨rfl, h3⟩ h2
  rw [this]
  rfl

set_option maxHeartbeats 1000000 in
theorem length_any (y m : Int) (w : World) :
    Calls Tryd.prog 15 #[.int .i64 y, .int .i64 m] w fun e w' => e = .returned (.int .i64 (lenI y m)) ∧ Below w.heap.size w w' := by
  by_cases hr : m < 1 ∨ (1 ≤ m ∧ 12 < m)
  · have hv : lenI y m = 0 := by unfold lenI; split <;> (try split) <;> (try split) <;> omega
    have HV := Lib.hid hv
    clear hv
    rcases hr with hr | ⟨hr, hr'⟩
    all_goals
      go_enter Tryd.func15, Tryd.ntmps15
      go_wp2_with fail
      go_ret
      exact ⟨ret_int HV.out.symm, Below.refl _ _⟩
  · by_cases h2 : m = 2 ∧ leapB y = true
    · obtain ⟨rfl, hl⟩ := h2
      have hv : lenI y 2 = 29 := by unfold lenI lp; rw [hl]; rfl
      have HV := Lib.hid hv
      have HL := Lib.hid hl
      clear hv hl hr
      go_enter Tryd.func15, Tryd.ntmps15
      go_wp2_with fail
      refine (lawleap_any _ _).mono ?_
      rw [HL.out]
      rintro e w2 ⟨rfl, rfl⟩
      go_wp2_with fail
      go_ret
      exact ⟨ret_int HV.out.symm, Below.refl _ _⟩
    · have ha := len_at y m (by omega) h2
      by_cases hm : m = 2
      · subst hm
        have hl : leapB y = false := by
          cases h3 : leapB y
          · rfl
          · exact absurd ⟨rfl, h3⟩ h2
        have HL := Lib.hid hl
        clear hl h2 hr
        have hv : lenI y 2 = 28 := by unfold lenI lp; rw [HL.out]; rfl
        have HV := Lib.hid hv
        clear hv ha
        go_enter Tryd.func15, Tryd.ntmps15
        go_wp2_with fail
        refine (lawleap_any _ _).mono ?_
        rw [HL.out]
        rintro e w2 ⟨rfl, rfl⟩
        go_wp2_with fail
        go_ret
        exact ⟨ret_int HV.out.symm, (Below.refl _ _).alloc (Nat.le_refl _) _⟩
      · have hmb : (m == 2) = false := beq_eq_false_iff_ne.2 hm
        have g1 : 1 ≤ m := by omega
        have g2 : m ≤ 12 := by omega
        clear hm h2 hr
        generalize lenI y m = v at *
        go_enter Tryd.func15, Tryd.ntmps15
        go_wp2_with fail
        go_ret
        exact ⟨rfl, (Below.refl _ _).alloc (Nat.le_refl _) _⟩

end Go.Proofs.YtbkjljdblhklmaaDoor
