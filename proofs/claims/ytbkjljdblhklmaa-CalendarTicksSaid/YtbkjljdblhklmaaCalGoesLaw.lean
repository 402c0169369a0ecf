/- CalendarGoes: the walk of the law. -/
import Derived.Test.YtbkjljdblhklmaaCalWalk
namespace Go.Proofs.Ytbkjljdblhklmaa
set_option linter.unusedVariables false
open Go.RowKit

/-- the six cells of a moment's box behind a call that made memory -/
theorem box_cells {w w' : World} {c0 c1 c2 c3 c4 c5 : Value} (hb : Below (w.heap.size + 1) (w.alloc (.cells #[c0, c1, c2, c3, c4, c5] 25)) w') :
    w.heap.size < w'.heap.size ∧ w'.cell? ⟨w.heap.size, 0, none⟩ = some c0 ∧ w'.cell? ⟨w.heap.size, 1, none⟩ = some c1 ∧ w'.cell? ⟨w.heap.size, 2, none⟩ = some c2 ∧
    w'.cell? ⟨w.heap.size, 3, none⟩ = some c3 ∧ w'.cell? ⟨w.heap.size, 4, none⟩ = some c4 ∧ w'.cell? ⟨w.heap.size, 5, none⟩ = some c5 := by
  have hs := hb.size
  simp at hs
  have hc : ∀ o, w'.cell? ⟨w.heap.size, o, none⟩ = (w.alloc (.cells #[c0, c1, c2, c3, c4, c5] 25)).cell? ⟨w.heap.size, o, none⟩ := fun o => hb.cell (p := ⟨w.heap.size, o, none⟩) (by simp)
  refine ⟨hs, ?_, ?_, ?_, ?_, ?_, ?_⟩
  all_goals
    rw [hc]
    simp

/-- what the two moments have to do with one another -/
def NextDay (Y M D Y' M' D' L : Int) : Prop :=
  (D < L ∧ Y' = Y ∧ M' = M ∧ D' = D + 1) ∨ (¬ D < L ∧ M < 12 ∧ Y' = Y ∧ M' = M + 1 ∧ D' = 1) ∨ (¬ D < L ∧ ¬ M < 12 ∧ Y' = Y + 1 ∧ M' = 1 ∧ D' = 1)

theorem next_day (n : Int) : NextDay (yearOf n) (monOf n) (dayOf n) (yearOf (n + 1)) (monOf (n + 1)) (dayOf (n + 1)) (lenI (yearOf n) (monOf n)) := by
  have h := civil_next n
  unfold NextDay
  by_cases h1 : dayOf n < lenI (yearOf n) (monOf n)
  · exact .inl ⟨h1, h.1 h1⟩
  · by_cases h2 : monOf n < 12
    · exact .inr (.inl ⟨h1, h2, h.2.1 h1 h2⟩)
    · exact .inr (.inr ⟨h1, h2, h.2.2 h1 h2⟩)

theorem mom_next (t : Int) : momV (t + 1440) = .agg #[.int .i64 (yearOf (dayN t + 1)), .int .i64 (monOf (dayN t + 1)), .int .i64 (dayOf (dayN t + 1)), .int .i64 (((t / 1440 + 6) % 7 + 1) % 7), .int .i64 (t % 1440 / 60), .int .i64 (t % 60)] := by
  have e : dayN (t + 1440) = dayN t + 1 := by unfold dayN; omega
  have e2 : ((t + 1440) / 1440 + 6) % 7 = ((t / 1440 + 6) % 7 + 1) % 7 := by omega
  have e3 : (t + 1440) % 1440 = t % 1440 := by omega
  have e4 : (t + 1440) % 60 = t % 60 := by omega
  unfold momV
  rw [e, e2, e3, e4]

set_option maxHeartbeats 1000000 in
theorem goes_walk (t : Nat) (w : World) (ht : t < 4294967296) :
    Calls Try.prog 6 #[.int .u32 t] w fun e w' => e = .returned (.bool true) ∧ Below w.heap.size w w' := by
  have HE := Lib.hid (mom_next (t : Int))
  have hb := year_bounds (dayN t) (by unfold dayN; omega) (by unfold dayN; omega)
  have hv := civil_valid (dayN t)
  have hm2 := (civil_valid (dayN t)).2.1
  have hd1 := hv.2.2.1
  have hd2 := hv.2.2.2.2
  have hm1 := hv.1
  clear hv
  have HN := Lib.hid (next_day (dayN t))
  go_enter Try.func6, Try.ntmps6
  go_wp2_with fail
  refine (lives_any _).mono ?_
  rintro e w1 ⟨rfl, hb1⟩
  have h1 := hb1.size
  go_wp2_with fail
  refine (of_any _ _ (by omega) (by omega)).mono ?_
  rintro e w2 ⟨rfl, hb2⟩
  have h2 := hb2.size
  unfold momV
  go_wp2_with fail
  refine (of_any _ _ (by omega) (by omega)).mono ?_
  rw [HE.out]
  rintro e w3 ⟨rfl, hb3⟩
  rw [World.size_alloc] at hb3
  obtain ⟨h3, c0, c1, c2, c3, c4, c5⟩ := box_cells hb3
  generalize yearOf (dayN t) = Y at *
  generalize monOf (dayN t) = M at *
  generalize dayOf (dayN t) = D at *
  generalize yearOf (dayN t + 1) = Y' at *
  generalize monOf (dayN t + 1) = M' at *
  generalize dayOf (dayN t + 1) = D' at *
  have hb12 := hb1.trans (hb2.mono h1)
  have hb13 : Below w.heap.size w w3 := (hb12.alloc (by omega) _).trans (hb3.mono (by omega))
  clear hb1 hb2 hb3 HE
  have hn := HN.out
  clear HN
  unfold NextDay at hn
  rcases hn with ⟨k1, rfl, rfl, rfl⟩ | ⟨k1, k2, rfl, rfl, rfl⟩ | ⟨k1, k2, rfl, rfl, rfl⟩
  all_goals
    go_wp2_with fail
    go_quiet ((go_at_call 12; exact quiet_same (days_any _ _ _)))
    go_wp2_with fail
    go_ret
    exact ⟨rfl, below_drewN (hb13.alloc (by omega) _) _⟩
end Go.Proofs.Ytbkjljdblhklmaa
