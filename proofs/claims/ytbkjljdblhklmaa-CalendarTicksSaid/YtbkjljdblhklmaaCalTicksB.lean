/- CalendarTicks: the walk of the law, where a moment may not be by its length, hour or minute. -/
import Derived.Test.YtbkjljdblhklmaaCalTicksBase
namespace Go.Proofs.Ytbkjljdblhklmaa
set_option linter.unusedVariables false
open Go.RowKit

/-- where it comes to the call, and says yes -/
def BadB (Y M D H I : Int) : Prop := (lenI Y M < D) ∨ (¬ lenI Y M < D ∧ H < 0) ∨ (¬ lenI Y M < D ∧ ¬ H < 0 ∧ 23 < H) ∨ (¬ lenI Y M < D ∧ ¬ H < 0 ∧ ¬ 23 < H ∧ I < 0) ∨ (¬ lenI Y M < D ∧ ¬ H < 0 ∧ ¬ 23 < H ∧ ¬ I < 0 ∧ 59 < I)

set_option maxRecDepth 100000 in
set_option maxHeartbeats 8000000 in
theorem ticks_badB (Y M D W H I : Int) (w : World) (h1 : ¬ M < 1) (h2 : ¬ 12 < M) (h3 : ¬ D < 1) (h : BadB Y M D H I) (hT : ∀ wx, Calls Try.prog 14 #[inV Y M D W H I] wx fun e w' => e = .returned (.tuple #[.int .i64 0, .int .i64 1]) ∧ Below wx.heap.size wx w') :
    Calls Try.prog 7 #[inV Y M D W H I] w fun e w' => e = .returned (.bool true) ∧ Below w.heap.size w w' := by
  have HT := Lib.hid hT
  clear hT
  unfold inV at HT ⊢
  unfold BadB at h
  have HL := Lib.hid (fun wx => length_any Y M wx)
  generalize lenI Y M = L at *
  have hd : (decide (L < D) = true) ∨ (decide (L < D) = false ∧ decide (H < 0) = true) ∨ (decide (L < D) = false ∧ decide (H < 0) = false ∧ decide (23 < H) = true) ∨
      (decide (L < D) = false ∧ decide (H < 0) = false ∧ decide (23 < H) = false ∧ decide (I < 0) = true) ∨ (decide (L < D) = false ∧ decide (H < 0) = false ∧ decide (23 < H) = false ∧ decide (I < 0) = false ∧ decide (59 < I) = true) := by
    simp
    omega
  clear h
  rcases hd with h4 | ⟨h4, h5⟩ | ⟨h4, h5, h6⟩ | ⟨h4, h5, h6, h7⟩ | ⟨h4, h5, h6, h7, h8⟩
  all_goals
    go_enter Try.func7, Try.ntmps7
    go_wp2_with fail
    have HB := Blk.new w (iCells Y M D W H I) 25
    have hb0 : Below w.heap.size w (w.alloc (.cells (iCells Y M D W H I) 25)) := (Below.refl _ _).alloc (Nat.le_refl _) _
    have hs0 : w.heap.size < (w.alloc (.cells (iCells Y M D W H I) 25)).heap.size := HB.lt
    unfold iCells at HB hb0 hs0
    generalize w.alloc _ = w0 at *
    refine (lives_any _).mono ?_
    rintro e w1 ⟨rfl, hb1⟩
    have s1 := hb1.size
    have HB1 := HB.below hb1 hs0
    obtain ⟨c0, c1, c2, c3, c4, c5⟩ := Blk.six HB1
    go_wp2_with fail
    refine (HT.out _).mono ?_
    rintro e w2 ⟨rfl, hb2⟩
    have HB2 := Lib.hid (HB1.below hb2 HB1.lt)
    clear c0 c1 c2 c3 c4 c5
    obtain ⟨c0, c1, c2, c3, c4, c5⟩ := Blk.six HB2.out
    have hbf := (hb0.trans (hb1.mono (by omega))).trans (hb2.mono (by omega))
    clear hb0 hb1 hb2 HB HB1
    have e1 : decide (M < 1) = false := by simpa using h1
    have e2 : decide (12 < M) = false := by simpa using h2
    have e3 : decide (D < 1) = false := by simpa using h3
    go_upto_region 4 with fail
    go_cut [57] (fun s57 wx => s57 = .bool true ∧ Below w.heap.size w wx)
    case first =>
      have hk : Keeps w.heap.size w w.heap.size (iCells Y M D W H I) 25 w2.drew := ⟨hbf.drew, HB2.out⟩
      refine region_cls (by kernel_rfl) (by kernel_rfl) hk ?_
      have hn : Nonempty (ClsW (Keeps w.heap.size w w.heap.size (iCells Y M D W H I) 25)) := ⟨⟨_, hk⟩⟩
      have c0 : ∀ x : ClsW (Keeps w.heap.size w w.heap.size (iCells Y M D W H I) 25), x.val.cell? ⟨w.heap.size, 0, none⟩ = some (.int .i64 Y) := fun x => (Blk.six x.ok.2).1
      have c1 : ∀ x : ClsW (Keeps w.heap.size w w.heap.size (iCells Y M D W H I) 25), x.val.cell? ⟨w.heap.size, 1, none⟩ = some (.int .i64 M) := fun x => (Blk.six x.ok.2).2.1
      have c2 : ∀ x : ClsW (Keeps w.heap.size w w.heap.size (iCells Y M D W H I) 25), x.val.cell? ⟨w.heap.size, 2, none⟩ = some (.int .i64 D) := fun x => (Blk.six x.ok.2).2.2.1
      have c4 : ∀ x : ClsW (Keeps w.heap.size w w.heap.size (iCells Y M D W H I) 25), x.val.cell? ⟨w.heap.size, 4, none⟩ = some (.int .i64 H) := fun x => (Blk.six x.ok.2).2.2.2.2.1
      have c5 : ∀ x : ClsW (Keeps w.heap.size w w.heap.size (iCells Y M D W H I) 25), x.val.cell? ⟨w.heap.size, 5, none⟩ = some (.int .i64 I) := fun x => (Blk.six x.ok.2).2.2.2.2.2
      repeat (go_big_quiet_step ((go_at_call 13; exact cls_call ((HL.out _).mono fun e w3 h => ⟨h.1, Keeps.call (ClsW.ok _) h.2 (Nat.le_refl _)⟩))))
      refine wpQuiet_nil ?_
      rintro _ ⟨x, rfl⟩
      go_wp2_with fail
      go_meet
      exact ⟨rfl, x.ok.1⟩
    case rest =>
      obtain ⟨rfl, hbx⟩ := hcut
      go_wp2_with fail
      go_ret
      exact ⟨rfl, hbx⟩
end Go.Proofs.Ytbkjljdblhklmaa
