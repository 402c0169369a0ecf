/- CalendarOrder: the walk of the law. -/
import Derived.Test.YtbkjljdblhklmaaCalGoesLaw
namespace Go.Proofs.Ytbkjljdblhklmaa
set_option linter.unusedVariables false
open Go.RowKit

theorem mom_order (a b : Int) (h : a < b) :
    yearOf (dayN a) < yearOf (dayN b) ∨ (yearOf (dayN a) = yearOf (dayN b) ∧ (monOf (dayN a) < monOf (dayN b) ∨ (monOf (dayN a) = monOf (dayN b) ∧ (dayOf (dayN a) < dayOf (dayN b) ∨
      (dayOf (dayN a) = dayOf (dayN b) ∧ (a % 1440 / 60 < b % 1440 / 60 ∨ (a % 1440 / 60 = b % 1440 / 60 ∧ a % 60 < b % 60))))))) := by
  by_cases hd : dayN a = dayN b
  · rw [hd]
    refine .inr ⟨rfl, .inr ⟨rfl, .inr ⟨rfl, ?_⟩⟩⟩
    unfold dayN at hd
    omega
  · have h1 : dayN a < dayN b := by unfold dayN at *; omega
    rcases civil_lt _ _ h1 with h | ⟨h, h' | ⟨h', h''⟩⟩
    · exact .inl h
    · exact .inr ⟨h, .inl h'⟩
    · exact .inr ⟨h, .inr ⟨h', .inl h''⟩⟩

/-- where two rows part, the first one is less -/
def Parts (p q : List Int) : Prop := ∃ i, i < 5 ∧ (∀ j, j < i → p.getD j 0 = q.getD j 0) ∧ p.getD i 0 < q.getD i 0

theorem parts_of {Y M D H I Y' M' D' H' I' : Int} (h : Y < Y' ∨ (Y = Y' ∧ (M < M' ∨ (M = M' ∧ (D < D' ∨ (D = D' ∧ (H < H' ∨ (H = H' ∧ I < I')))))))) : Parts [Y, M, D, H, I] [Y', M', D', H', I'] := by
  rcases h with h | ⟨rfl, h | ⟨rfl, h | ⟨rfl, h | ⟨rfl, h⟩⟩⟩⟩
  · exact ⟨0, by omega, fun j hj => absurd hj (Nat.not_lt_zero _), h⟩
  · exact ⟨1, by omega, fun j hj => by obtain rfl : j = 0 := by omega
                                       rfl, h⟩
  · exact ⟨2, by omega, fun j hj => by have : j = 0 ∨ j = 1 := by omega
                                       rcases this with rfl | rfl <;> rfl, h⟩
  · exact ⟨3, by omega, fun j hj => by have : j = 0 ∨ j = 1 ∨ j = 2 := by omega
                                       rcases this with rfl | rfl | rfl <;> rfl, h⟩
  · exact ⟨4, by omega, fun j hj => by have : j = 0 ∨ j = 1 ∨ j = 2 ∨ j = 3 := by omega
                                       rcases this with rfl | rfl | rfl | rfl <;> rfl, h⟩

set_option maxHeartbeats 400000 in
theorem order_out (a b : Int) (w : World) (h : a < 0 ∨ (0 ≤ a ∧ b ≤ a) ∨ (0 ≤ a ∧ a < b ∧ 1099511627776 < b)) :
    Calls Try.prog 4 #[.int .i64 a, .int .i64 b] w fun e w' => e = .returned (.bool true) ∧ Below w.heap.size w w' := by
  rcases h with h | ⟨h, h'⟩ | ⟨h, h', h''⟩
  all_goals
    go_enter Try.func4, Try.ntmps4
    go_wp2_with fail
    refine (lives_any _).mono ?_
    rintro e w1 ⟨rfl, hb1⟩
    have h1 := hb1.size
    go_wp2_with fail
    refine (lives_any _).mono ?_
    rintro e w2 ⟨rfl, hb2⟩
    go_wp2_with fail
    go_ret
    exact ⟨rfl, hb1.trans (hb2.mono h1)⟩

set_option maxHeartbeats 1000000 in
theorem order_walk (a b : Int) (w : World) (h0 : 0 ≤ a) (h1 : a < b) (h2 : b ≤ 1099511627776) :
    Calls Try.prog 4 #[.int .i64 a, .int .i64 b] w fun e w' => e = .returned (.bool true) ∧ Below w.heap.size w w' := by
  have HO := Lib.hid (mom_order a b h1)
  go_enter Try.func4, Try.ntmps4
  go_wp2_with fail
  refine (lives_any _).mono ?_
  rintro e w1 ⟨rfl, hb1⟩
  have k1 := hb1.size
  go_wp2_with fail
  refine (of_any _ _ (by omega) (by omega)).mono ?_
  rintro e w2 ⟨rfl, hb2⟩
  have k2 := hb2.size
  unfold momV
  go_wp2_with fail
  refine (of_any _ _ (by omega) (by omega)).mono ?_
  rintro e w3 ⟨rfl, hb3⟩
  unfold momV
  rw [World.size_alloc] at hb3
  obtain ⟨k3, c0, c1, c2, c3, c4, c5⟩ := box_cells hb3
  have ho := HO.out
  clear HO
  generalize yearOf (dayN a) = Y at *
  generalize monOf (dayN a) = M at *
  generalize dayOf (dayN a) = D at *
  generalize a % 1440 / 60 = H at *
  generalize a % 60 = I at *
  generalize yearOf (dayN b) = Y' at *
  generalize monOf (dayN b) = M' at *
  generalize dayOf (dayN b) = D' at *
  generalize b % 1440 / 60 = H' at *
  generalize b % 60 = I' at *
  obtain ⟨i, hi5, hieq, hilt⟩ := parts_of ho
  have HE := Lib.hid hieq
  have HI := Lib.hid hilt
  clear ho hieq hilt
  have hb12 := hb1.trans (hb2.mono k1)
  have hb13 : Below w.heap.size w w3 := (hb12.alloc (by omega) _).trans (hb3.mono (by omega))
  clear hb1 hb2 hb3
  go_wp2_with fail
  go_loopw [11, 62] (fun _ i' wr => ∃ k : Nat, k ≤ i ∧ i' = .int .i64 k ∧ (∀ j, j < 5 → wr.cell? ⟨w3.heap.size + 1, j, none⟩ = some (.int .i64 ([Y, M, D, H, I].getD j 0)) ∧ wr.cell? ⟨w3.heap.size + 1 + 1, j, none⟩ = some (.int .i64 ([Y', M', D', H', I'].getD j 0))) ∧ Below w.heap.size w wr) (fun _ i' _ => 5 - (intOf i').toNat)
  case atStart =>
    refine ⟨0, Nat.zero_le _, rfl, ?_, ((hb13.alloc (by omega) _).alloc (by simp; omega) _).alloc (by simp; omega) _⟩
    intro j hj
    have hc : j = 0 ∨ j = 1 ∨ j = 2 ∨ j = 3 ∨ j = 4 := by omega
    rcases hc with rfl | rfl | rfl | rfl | rfl <;> simp [go_sem]
  case round =>
    obtain ⟨k, hk, rfl, hcells, hbr⟩ := hrel
    have hx := (hcells k (by omega)).1
    have hy := (hcells k (by omega)).2
    have HC := Lib.hid hcells
    have hk5 : (k : Int) < 5 := by omega
    clear hcells
    by_cases hki : k < i
    · have he := HE.out k hki
      rw [← he] at hy
      generalize [Y, M, D, H, I].getD k 0 = x at *
      clear he
      go_wp2
      go_quiet (fail)
      go_wp2
      go_roundw
      case rel => exact ⟨k + 1, by omega, by go_num, fun j hj => HC.out j hj, below_drewN hbr _⟩
      case measure => simp [intOf]; omega
    · obtain rfl : k = i := by omega
      have hlt := HI.out
      clear HI
      generalize [Y, M, D, H, I].getD k 0 = x at *
      generalize [Y', M', D', H', I'].getD k 0 = y at *
      have hne : (x != y) = true := by rw [bne_iff_ne]; omega
      go_wp2
      go_quiet (fail)
      go_wp2
      go_quiet (fail)
      go_wp2
      go_ret
      exact ⟨rfl, below_drewN (below_drewN hbr _) _⟩
end Go.Proofs.Ytbkjljdblhklmaa
