/- CalendarTicks: the walk of the law, where the month or the day is below what may be. -/
import Derived.Test.YtbkjljdblhklmaaCalTicksBase
namespace Go.Proofs.Ytbkjljdblhklmaa
set_option linter.unusedVariables false
open Go.RowKit

/-- where the law's own test says yes, and does not come to the call -/
def BadA (M D : Int) : Prop := M < 1 ∨ (¬ M < 1 ∧ 12 < M) ∨ (¬ M < 1 ∧ ¬ 12 < M ∧ D < 1)

set_option maxRecDepth 100000 in
set_option maxHeartbeats 2000000 in
theorem ticks_badA (Y M D W H I : Int) (w : World) (h : BadA M D) (hT : ∀ wx, Calls Try.prog 14 #[inV Y M D W H I] wx fun e w' => e = .returned (.tuple #[.int .i64 0, .int .i64 1]) ∧ Below wx.heap.size wx w') :
    Calls Try.prog 7 #[inV Y M D W H I] w fun e w' => e = .returned (.bool true) ∧ Below w.heap.size w w' := by
  have HT := Lib.hid hT
  clear hT
  unfold inV at HT ⊢
  unfold BadA at h
  have hd : (decide (M < 1) = true) ∨ (decide (M < 1) = false ∧ decide (12 < M) = true) ∨ (decide (M < 1) = false ∧ decide (12 < M) = false ∧ decide (D < 1) = true) := by
    simp
    omega
  clear h
  rcases hd with h1 | ⟨h1, h2⟩ | ⟨h1, h2, h3⟩
  all_goals
    go_enter Try.func7, Try.ntmps7
    go_wp2_with fail
    have HB := Blk.new w (iCells Y M D W H I) 25
    have hb0 : Below w.heap.size w (w.alloc (.cells (iCells Y M D W H I) 25)) := (Below.refl _ _).alloc (Nat.le_refl _) _
    have hs0 : w.heap.size < (w.alloc (.cells (iCells Y M D W H I) 25)).heap.size := HB.lt
    unfold iCells at HB hb0 hs0
    generalize w.alloc _ = w0 at *
    refine (lives_any _).mono ?_
    rintro e w1 ⟨rfl, hb1⟩
    have s1 := hb1.size
    have HB1 := HB.below hb1 hs0
    obtain ⟨c0, c1, c2, c3, c4, c5⟩ := Blk.six HB1
    go_wp2_with fail
    refine (HT.out _).mono ?_
    rintro e w2 ⟨rfl, hb2⟩
    have HB2 := HB1.below hb2 HB1.lt
    clear c0 c1 c2 c3 c4 c5
    obtain ⟨c0, c1, c2, c3, c4, c5⟩ := Blk.six HB2
    have hbf := (hb0.trans (hb1.mono (by omega))).trans (hb2.mono (by omega))
    go_upto_region 4 with fail
    go_cut [57] (fun s57 wx => s57 = .bool true ∧ Below w.heap.size w wx)
    case first =>
      go_quiet (fail)
      go_wp2_with fail
      go_meet
      exact ⟨rfl, below_drewN hbf _⟩
    case rest =>
      obtain ⟨rfl, hbx⟩ := hcut
      go_wp2_with fail
      go_ret
      exact ⟨rfl, hbx⟩
end Go.Proofs.Ytbkjljdblhklmaa
