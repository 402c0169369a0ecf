/- calendar.days, calendar.Tick, and the law's own Moment: the walks. -/
import Derived.Test.YtbkjljdblhklmaaDoorCalErasD
import Derived.Test.YtbkjljdblhklmaaDoorBlocks
namespace Go.Proofs.YtbkjljdblhklmaaDoor
set_option linter.unusedVariables false
open Go.RowKit

theorem num_lower (Y : Int) (h : 1 ≤ Y) : 365 * (Y - 1) ≤ num Y 1 1 := by
  have h1 : 0 ≤ (Y - 1) / 400 := by omega
  have h2 : 365 * ((Y - 1) % 400) ≤ sy ((Y - 1) % 400) := by unfold sy; omega
  simp [num, sm]
  omega

theorem num_year (Y : Int) : num (Y + 1) 1 1 = num Y 1 1 + (365 + lp Y) := by
  have hl := lp_cases Y
  have hs := sy_next ((Y - 1) % 400)
  have h400 : sy (399 + 1) = 146096 := rfl
  have h399 : sy 399 = 145731 := rfl
  have h0 : sy 0 = 0 := rfl
  simp [num, sm]
  by_cases h : (Y - 1) % 400 = 399
  · have e1 : Y / 400 = (Y - 1) / 400 + 1 := by omega
    have e2 : Y % 400 = 0 := by omega
    rw [e1, e2, h]
    omega
  · have e1 : Y / 400 = (Y - 1) / 400 := by omega
    have e2 : Y % 400 = (Y - 1) % 400 + 1 := by omega
    rw [e1, e2]
    omega

theorem num_start (k : Int) : num (2000 + k * 400) 1 1 = 730425 + k * 146097 := by
  have e1 : (2000 + k * 400 - 1) / 400 = k + 4 := by omega
  have e2 : (2000 + k * 400 - 1) % 400 = 399 := by omega
  have h399 : sy 399 = 145731 := rfl
  simp [num, sm, e1, e2, h399]
  omega

theorem num_day (Y M D : Int) : num Y M D = num Y M 1 + D - 1 := by
  simp [num]

theorem num_dec (Y : Int) : num (Y + 1) 1 1 = num Y 12 1 + 31 := by
  simp [num, sm]
  omega

theorem len_pos (Y M : Int) (h : 1 ≤ M ∧ M ≤ 12) : 28 ≤ lenI Y M ∧ lenI Y M ≤ 31 := by
  have := lp_cases Y
  unfold lenI
  split
  · omega
  · split
    · omega
    · omega

theorem len_dec (Y : Int) : lenI Y 12 = 31 := by simp [lenI]

set_option maxHeartbeats 400000 in
theorem daysnum_any (Y M D : Int) (w : World) (hY : 2000 ≤ Y ∧ Y ≤ 3000000) (hM : 1 ≤ M ∧ M ≤ 12) (hD : 1 ≤ D ∧ D ≤ 31) :
    Calls Tryd.prog 13 #[.int .i64 Y, .int .i64 M, .int .i64 D] w fun e w' => e = .returned (.int .i64 (num Y M D)) ∧ w = w' := by
  by_cases h : M ≤ 2
  · go_enter Tryd.func13, Tryd.ntmps13
    go_wp2
    go_ret
    refine ⟨ret_int ?_, rfl⟩
    simp [num, h, sy, sm]
    omega
  · go_enter Tryd.func13, Tryd.ntmps13
    go_wp2
    go_ret
    refine ⟨ret_int ?_, rfl⟩
    simp [num, sy, sm]
    omega

/-- a moment as it comes in -/
def inV (Y M D W H I : Int) : Value := .agg #[.int .i64 Y, .int .i64 M, .int .i64 D, .int .i64 W, .int .i64 H, .int .i64 I]

def Bad (Y M D H I : Int) : Prop := D < 1 ∨ (¬ D < 1 ∧ lenI Y M < D) ∨ (¬ D < 1 ∧ ¬ lenI Y M < D ∧ H < 0) ∨ (¬ D < 1 ∧ ¬ lenI Y M < D ∧ ¬ H < 0 ∧ 24 ≤ H) ∨ (¬ D < 1 ∧ ¬ lenI Y M < D ∧ ¬ H < 0 ∧ ¬ 24 ≤ H ∧ I < 0) ∨ (¬ D < 1 ∧ ¬ lenI Y M < D ∧ ¬ H < 0 ∧ ¬ 24 ≤ H ∧ ¬ I < 0 ∧ 60 ≤ I)

set_option maxHeartbeats 1000000 in
theorem tick_bad (Y M D W H I : Int) (w : World) (h : Bad Y M D H I) :
    Calls Tryd.prog 7 #[inV Y M D W H I] w fun e w' => e = .returned (.tuple #[.int .i64 0, .int .i64 1]) ∧ Below w.heap.size w w' := by
  unfold Bad at h
  unfold inV
  rcases h with h1 | ⟨h1, h2⟩ | ⟨h1, h2, h3⟩ | ⟨h1, h2, h3, h4⟩ | ⟨h1, h2, h3, h4, h5⟩ | ⟨h1, h2, h3, h4, h5, h6⟩
  all_goals
    go_enter Tryd.func7, Tryd.ntmps7
    go_wp2
    go_quiet ((go_at_call 12; exact quiet_same (days_any _ _ _)))
    go_wp2
    go_ret2
    exact ⟨rfl, below_drewN ((Below.refl _ _).alloc (Nat.le_refl _) _) _⟩

def Good (Y M D H I : Int) : Prop := 1 ≤ M ∧ M ≤ 12 ∧ ¬ D < 1 ∧ ¬ lenI Y M < D ∧ ¬ H < 0 ∧ ¬ 24 ≤ H ∧ ¬ I < 0 ∧ ¬ 60 ≤ I

theorem good_or (Y M D H I : Int) : Bad Y M D H I ∨ Good Y M D H I := by
  unfold Bad Good
  have : ¬ D < 1 → ¬ lenI Y M < D → 1 ≤ M ∧ M ≤ 12 := by
    intro h1 h2
    by_cases h : 1 ≤ M ∧ M ≤ 12
    · exact h
    · have : lenI Y M = 0 := by
        unfold lenI
        rw [if_neg (by omega), if_neg (by omega), if_neg h]
      omega
  omega

set_option maxHeartbeats 1000000 in
theorem tick_range (Y M D W H I : Int) (w : World) (h : Good Y M D H I) (hy : Y < 2000 ∨ (¬ Y < 2000 ∧ 3000000 < Y)) :
    Calls Tryd.prog 7 #[inV Y M D W H I] w fun e w' => e = .returned (.tuple #[.int .i64 0, .int .i64 3]) ∧ Below w.heap.size w w' := by
  unfold Good at h
  unfold inV
  obtain ⟨m1, m2, h1, h2, h3, h4, h5, h6⟩ := h
  rcases hy with hy | ⟨hy, hy'⟩
  all_goals
    go_enter Tryd.func7, Tryd.ntmps7
    go_wp2
    go_quiet ((go_at_call 12; exact quiet_same (days_any _ _ _)))
    go_wp2
    go_ret2
    exact ⟨rfl, below_drewN ((Below.refl _ _).alloc (Nat.le_refl _) _) _⟩

def tickOf (Y M D H I : Int) : Int := (num Y M D - 730425) * 1440 + (H * 60 + I)

set_option maxHeartbeats 1000000 in
theorem tick_late (Y M D W H I : Int) (w : World) (h : Good Y M D H I) (hy : ¬ Y < 2000) (hy' : ¬ 3000000 < Y) (hn : 0 ≤ num Y M D ∧ num Y M D ≤ 2000000000) (hd : D ≤ 31) (ht : 1099511627776 < tickOf Y M D H I) :
    Calls Tryd.prog 7 #[inV Y M D W H I] w fun e w' => e = .returned (.tuple #[.int .i64 0, .int .i64 3]) ∧ Below w.heap.size w w' := by
  unfold Good at h
  unfold inV
  unfold tickOf at ht
  obtain ⟨m1, m2, h1, h2, h3, h4, h5, h6⟩ := h
  have HD := Lib.hid (fun wx => daysnum_any Y M D wx (by omega) (by omega) (by omega))
  go_enter Tryd.func7, Tryd.ntmps7
  go_wp2
  go_quiet ((go_at_call 12; exact quiet_same (days_any _ _ _)))
  go_wp2
  go_quiet ((go_at_call 13; exact quiet_more (HD.out _)))
  go_wp2
  go_ret2
  exact ⟨rfl, below_drewN ((Below.refl _ _).alloc (Nat.le_refl _) _) _⟩

set_option maxHeartbeats 1000000 in
theorem tick_ok (Y M D W H I : Int) (w : World) (h : Good Y M D H I) (hy : ¬ Y < 2000) (hy' : ¬ 3000000 < Y) (hn : 0 ≤ num Y M D ∧ num Y M D ≤ 2000000000) (hd : D ≤ 31) (ht : ¬ 1099511627776 < tickOf Y M D H I) :
    Calls Tryd.prog 7 #[inV Y M D W H I] w fun e w' => e = .returned (.tuple #[.int .i64 (tickOf Y M D H I), .int .i64 0]) ∧ Below w.heap.size w w' := by
  unfold Good at h
  unfold inV
  unfold tickOf at ht
  obtain ⟨m1, m2, h1, h2, h3, h4, h5, h6⟩ := h
  have HD := Lib.hid (fun wx => daysnum_any Y M D wx (by omega) (by omega) (by omega))
  go_enter Tryd.func7, Tryd.ntmps7
  go_wp2
  go_quiet ((go_at_call 12; exact quiet_same (days_any _ _ _)))
  go_wp2
  go_quiet ((go_at_call 13; exact quiet_more (HD.out _)))
  go_wp2
  go_ret2
  exact ⟨rfl, below_drewN ((Below.refl _ _).alloc (Nat.le_refl _) _) _⟩
end Go.Proofs.YtbkjljdblhklmaaDoor
