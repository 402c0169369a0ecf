/- CalendarTicks: the walk of the law, at a moment that may be. -/
import Derived.Test.YtbkjljdblhklmaaCalTicksBase
namespace Go.Proofs.Ytbkjljdblhklmaa
set_option linter.unusedVariables false
open Go.RowKit

theorem last_mom : momV 1099511627776 = .agg #[.int .i64 2092528, .int .i64 3, .int .i64 9, .int .i64 2, .int .i64 12, .int .i64 16] := by
  have h1 : yearOf (dayN 1099511627776) = 2092528 := by decide +kernel
  have h2 : monOf (dayN 1099511627776) = 3 := by decide +kernel
  have h3 : dayOf (dayN 1099511627776) = 9 := by decide +kernel
  unfold momV
  rw [h1, h2, h3]
  rfl

/-- is a moment behind the last one? -/
def lateB (Y M D H I : Int) : Bool :=
  decide (2092528 < Y) || (Y == 2092528 && (decide (3 < M) || (M == 3 && (decide (9 < D) || (D == 9 && (decide (12 < H) || (H == 12 && decide (16 < I))))))))

theorem lex_cases : ∀ p1 p2 p3 p4 p5 p6 p7 p8 p9 : Bool,
    (p1 = true) ∨ (p1 = false ∧ p2 = false) ∨ (p1 = false ∧ p2 = true ∧ p3 = true) ∨ (p1 = false ∧ p2 = true ∧ p3 = false ∧ p4 = false) ∨
    (p1 = false ∧ p2 = true ∧ p3 = false ∧ p4 = true ∧ p5 = true) ∨ (p1 = false ∧ p2 = true ∧ p3 = false ∧ p4 = true ∧ p5 = false ∧ p6 = false) ∨
    (p1 = false ∧ p2 = true ∧ p3 = false ∧ p4 = true ∧ p5 = false ∧ p6 = true ∧ p7 = true) ∨ (p1 = false ∧ p2 = true ∧ p3 = false ∧ p4 = true ∧ p5 = false ∧ p6 = true ∧ p7 = false ∧ p8 = false) ∨
    (p1 = false ∧ p2 = true ∧ p3 = false ∧ p4 = true ∧ p5 = false ∧ p6 = true ∧ p7 = false ∧ p8 = true ∧ p9 = true) ∨
    (p1 = false ∧ p2 = true ∧ p3 = false ∧ p4 = true ∧ p5 = false ∧ p6 = true ∧ p7 = false ∧ p8 = true ∧ p9 = false) := by
  intro p1 p2 p3 p4 p5 p6 p7 p8 p9
  cases p1 <;> cases p2 <;> cases p3 <;> cases p4 <;> cases p5 <;> cases p6 <;> cases p7 <;> cases p8 <;> cases p9 <;> simp

theorem lateB_iff (Y M D H I : Int) : lateB Y M D H I = true ↔ (2092528 < Y ∨ (Y = 2092528 ∧ (3 < M ∨ (M = 3 ∧ (9 < D ∨ (D = 9 ∧ (12 < H ∨ (H = 12 ∧ 16 < I)))))))) := by
  simp [lateB]

theorem tick_parts (Y M D H I : Int) (h : Good Y M D H I) : dayN (tickOf Y M D H I) = num Y M D ∧ tickOf Y M D H I % 1440 / 60 = H ∧ tickOf Y M D H I % 60 = I := by
  unfold Good at h
  unfold tickOf dayN
  omega

theorem tick_civil (Y M D H I : Int) (h : Good Y M D H I) : yearOf (dayN (tickOf Y M D H I)) = Y ∧ monOf (dayN (tickOf Y M D H I)) = M ∧ dayOf (dayN (tickOf Y M D H I)) = D := by
  rw [(tick_parts Y M D H I h).1]
  unfold Good at h
  exact civil_num Y M D ⟨h.1, h.2.1⟩ ⟨by omega, by omega⟩

theorem late_iff (Y M D H I : Int) (h : Good Y M D H I) : lateB Y M D H I = true ↔ 1099511627776 < tickOf Y M D H I := by
  have hc := tick_civil Y M D H I h
  have hp := tick_parts Y M D H I h
  have hl := last_mom
  unfold momV at hl
  simp only [Value.agg.injEq, Array.mk.injEq, List.cons.injEq, Value.int.injEq, true_and, and_true] at hl
  rw [lateB_iff]
  rcases Int.lt_trichotomy 1099511627776 (tickOf Y M D H I) with ht | ht | ht
  · have := mom_order _ _ ht
    rw [hc.1, hc.2.1, hc.2.2, hp.2.1, hp.2.2, hl.1, hl.2.1, hl.2.2.1, hl.2.2.2.2.1, hl.2.2.2.2.2] at this
    omega
  · rw [← ht] at hc hp
    rw [hl.1, hl.2.1, hl.2.2.1] at hc
    rw [hl.2.2.2.2.1, hl.2.2.2.2.2] at hp
    omega
  · have := mom_order _ _ ht
    rw [hc.1, hc.2.1, hc.2.2, hp.2.1, hp.2.2, hl.1, hl.2.1, hl.2.2.1, hl.2.2.2.2.1, hl.2.2.2.2.2] at this
    omega

theorem mom_tick (Y M D H I : Int) (h : Good Y M D H I) : ∃ wd : Int, momV (tickOf Y M D H I) = .agg #[.int .i64 Y, .int .i64 M, .int .i64 D, .int .i64 wd, .int .i64 H, .int .i64 I] := by
  have hc := tick_civil Y M D H I h
  have hp := tick_parts Y M D H I h
  unfold momV
  rw [hc.1, hc.2.1, hc.2.2, hp.2.1, hp.2.2]
  exact ⟨_, rfl⟩

set_option maxRecDepth 100000 in
set_option maxHeartbeats 4000000 in
theorem ticks_good (Y M D W H I tv ev : Int) (w : World) (h : Good Y M D H I) (hT : ∀ wx, Calls Try.prog 14 #[inV Y M D W H I] wx fun e w' => e = .returned (.tuple #[.int .i64 tv, .int .i64 ev]) ∧ Below wx.heap.size wx w')
    (hcase : ((Y < 2000 ∨ (¬ Y < 2000 ∧ lateB Y M D H I = true)) ∧ tv = 0 ∧ ev = 3) ∨ (¬ Y < 2000 ∧ lateB Y M D H I = false ∧ tv = tickOf Y M D H I ∧ ev = 0 ∧ 0 ≤ tickOf Y M D H I ∧ tickOf Y M D H I ≤ 1099511627776)) :
    Calls Try.prog 7 #[inV Y M D W H I] w fun e w' => e = .returned (.bool true) ∧ Below w.heap.size w w' := by
  have HT := Lib.hid hT
  have HM := Lib.hid (mom_tick Y M D H I h)
  have HC := Lib.hid hcase
  clear hT hcase
  unfold inV at HT ⊢
  unfold Good at h
  obtain ⟨m1, m2, d1, d2, g1, g2, g3, g4⟩ := h
  have HL := Lib.hid (fun wx => length_any Y M wx)
  generalize lenI Y M = L at *
  have e1 : decide (M < 1) = false := by simp; omega
  have e2 : decide (12 < M) = false := by simp; omega
  have e3 : decide (D < 1) = false := by simp; omega
  have e4 : decide (L < D) = false := by simp; omega
  have e5 : decide (H < 0) = false := by simp; omega
  have e6 : decide (23 < H) = false := by simp; omega
  have e7 : decide (I < 0) = false := by simp; omega
  have e8 : decide (59 < I) = false := by simp; omega
  clear m1 m2 d1 d2 g1 g2 g3 g4
  go_enter Try.func7, Try.ntmps7
  go_wp2_with fail
  have HB := Blk.new w (iCells Y M D W H I) 25
  have hb0 : Below w.heap.size w (w.alloc (.cells (iCells Y M D W H I) 25)) := (Below.refl _ _).alloc (Nat.le_refl _) _
  have hs0 : w.heap.size < (w.alloc (.cells (iCells Y M D W H I) 25)).heap.size := HB.lt
  unfold iCells at HB hb0 hs0
  generalize w.alloc _ = w0 at *
  refine (lives_any _).mono ?_
  rintro e w1 ⟨rfl, hb1⟩
  have s1 := hb1.size
  have HB1 := HB.below hb1 hs0
  obtain ⟨c0, c1, c2, c3, c4, c5⟩ := Blk.six HB1
  go_wp2_with fail
  refine (HT.out _).mono ?_
  rintro e w2 ⟨rfl, hb2⟩
  have HB2 := Lib.hid (HB1.below hb2 HB1.lt)
  clear c0 c1 c2 c3 c4 c5
  obtain ⟨c0, c1, c2, c3, c4, c5⟩ := Blk.six HB2.out
  have hbf := (hb0.trans (hb1.mono (by omega))).trans (hb2.mono (by omega))
  clear hb0 hb1 hb2 HB HB1
  go_upto_region 4 with fail
  go_cut [57] (fun s57 wx => s57 = .bool false ∧ Keeps w.heap.size w w.heap.size (iCells Y M D W H I) 25 wx)
  case first =>
    have hk : Keeps w.heap.size w w.heap.size (iCells Y M D W H I) 25 w2.drew := ⟨hbf.drew, HB2.out⟩
    refine region_cls (by kernel_rfl) (by kernel_rfl) hk ?_
    have hn : Nonempty (ClsW (Keeps w.heap.size w w.heap.size (iCells Y M D W H I) 25)) := ⟨⟨_, hk⟩⟩
    have c0 : ∀ x : ClsW (Keeps w.heap.size w w.heap.size (iCells Y M D W H I) 25), x.val.cell? ⟨w.heap.size, 0, none⟩ = some (.int .i64 Y) := fun x => (Blk.six x.ok.2).1
    have c1 : ∀ x : ClsW (Keeps w.heap.size w w.heap.size (iCells Y M D W H I) 25), x.val.cell? ⟨w.heap.size, 1, none⟩ = some (.int .i64 M) := fun x => (Blk.six x.ok.2).2.1
    have c2 : ∀ x : ClsW (Keeps w.heap.size w w.heap.size (iCells Y M D W H I) 25), x.val.cell? ⟨w.heap.size, 2, none⟩ = some (.int .i64 D) := fun x => (Blk.six x.ok.2).2.2.1
    have c4 : ∀ x : ClsW (Keeps w.heap.size w w.heap.size (iCells Y M D W H I) 25), x.val.cell? ⟨w.heap.size, 4, none⟩ = some (.int .i64 H) := fun x => (Blk.six x.ok.2).2.2.2.2.1
    have c5 : ∀ x : ClsW (Keeps w.heap.size w w.heap.size (iCells Y M D W H I) 25), x.val.cell? ⟨w.heap.size, 5, none⟩ = some (.int .i64 I) := fun x => (Blk.six x.ok.2).2.2.2.2.2
    repeat (go_big_quiet_step ((go_at_call 13; exact cls_call ((HL.out _).mono fun e w3 h => ⟨h.1, Keeps.call (ClsW.ok _) h.2 (Nat.le_refl _)⟩))))
    refine wpQuiet_nil ?_
    rintro _ ⟨x, rfl⟩
    go_wp2_with fail
    go_meet
    exact ⟨rfl, x.ok⟩
  case rest =>
    obtain ⟨rfl, hk⟩ := hcut
    clear c0 c1 c2 c3 c4 c5 HB2 hbf HL e1 e2 e3 e4 e5 e6 e7 e8
    go_wp2_with fail
    refine (moment_any _ _ (by decide) (by decide)).mono ?_
    rw [last_mom]
    rintro e w3 ⟨rfl, hb3⟩
    have hk3 := hk.call hb3 (Nat.le_refl _)
    clear hb3 hk
    have s3 := hk3.2.lt
    obtain ⟨c0, c1, c2, c3, c4, c5⟩ := Blk.six hk3.2
    have HK3 := Lib.hid hk3
    clear hk3
    go_upto_region 7 with fail
    go_cut [6] (fun s6 wx => s6 = .bool (lateB Y M D H I) ∧ wx = w3.alloc (.cells #[.int .i64 2092528, .int .i64 3, .int .i64 9, .int .i64 2, .int .i64 12, .int .i64 16] 25))
    case first =>
      rcases lex_cases (decide (2092528 < Y)) (Y == 2092528) (decide (3 < M)) (M == 3) (decide (9 < D)) (D == 9) (decide (12 < H)) (H == 12) (decide (16 < I)) with q1 | ⟨q1, q2⟩ | ⟨q1, q2, q3⟩ | ⟨q1, q2, q3, q4⟩ | ⟨q1, q2, q3, q4, q5⟩ | ⟨q1, q2, q3, q4, q5, q6⟩ | ⟨q1, q2, q3, q4, q5, q6, q7⟩ | ⟨q1, q2, q3, q4, q5, q6, q7, q8⟩ | ⟨q1, q2, q3, q4, q5, q6, q7, q8, q9⟩ | ⟨q1, q2, q3, q4, q5, q6, q7, q8, q9⟩
      all_goals
        go_wp2_with fail
        go_meet
        exact ⟨congrArg Value.bool (by simp [lateB, *]), rfl⟩
    case rest =>
      obtain ⟨rfl, rfl⟩ := hcut
      have hs : w3.heap.size + 1 ≤ w3.heap.size + 1 := Nat.le_refl _
      have hbl : Below w.heap.size w (w3.alloc (.cells #[.int .i64 2092528, .int .i64 3, .int .i64 9, .int .i64 2, .int .i64 12, .int .i64 16] 25)) := HK3.out.1.alloc (by omega) _
      have hBx : Blk (w3.alloc (.cells #[.int .i64 2092528, .int .i64 3, .int .i64 9, .int .i64 2, .int .i64 12, .int .i64 16] 25)) w.heap.size (iCells Y M D W H I) 25 := HK3.out.2.alloc _
      clear HK3 s3 c0 c1 c2 c3 c4 c5 hs
      generalize w3.alloc _ = w4 at *
      obtain ⟨c0, c1, c2, c3, c4, c5⟩ := Blk.six hBx
      have f3 := hBx.free 3
      have HBx := Lib.hid hBx
      clear hBx
      have hc := HC.out
      clear HC
      rcases hc with ⟨hy, rfl, rfl⟩ | ⟨hy, hl, ht, rfl, t0, t1⟩
      · have hy2 : decide (Y < 2000) = true ∨ (decide (Y < 2000) = false ∧ lateB Y M D H I = true) := by
          rcases hy with h | ⟨h, h'⟩
          · exact .inl (by simp; omega)
          · exact .inr ⟨by simp; omega, h'⟩
        clear hy
        rcases hy2 with hy | ⟨hy, hl⟩
        · generalize lateB Y M D H I = lb at *
          go_wp2_with fail
          go_ret
          exact ⟨rfl, hbl⟩
        · rw [hl]
          clear hl
          go_wp2_with fail
          go_ret
          exact ⟨rfl, hbl⟩
      · rw [hl]
        have hy2 : decide (Y < 2000) = false := by simp; omega
        clear hl hy
        subst ht
        have HMT := Lib.hid (fun wx => moment_any (tickOf Y M D H I) wx t0 t1)
        generalize tickOf Y M D H I = t at *
        obtain ⟨wd, hwd⟩ := HM.out
        have HW := Lib.hid hwd
        clear hwd HM HT
        go_wp2_with fail
        refine (HMT.out _).mono ?_
        rw [HW.out]
        rintro e w5 ⟨rfl, hb5⟩
        have hBx5 := HBx.out.below hb5 HBx.out.lt
        have hbl5 := hbl.trans (hb5.mono (Nat.le_of_lt HBx.out.lt))
        clear c0 c1 c2 c3 c4 c5 f3 hb5 HW HMT HBx hbl
        have s5 := hBx5.lt
        obtain ⟨c0, c1, c2, c3, c4, c5⟩ := Blk.six hBx5
        have f3 := hBx5.free 3
        clear hBx5
        go_wp2_with (refine wpList_eq_mom (.tmp 151) (.tmp 152) _ rfl _ _ _ _ _ _ _ _ _ _ _ _ rfl rfl rfl ?_)
        go_ret
        exact ⟨rfl, (hbl5.setCell (by simp) _).alloc (by simp; omega) _⟩
end Go.Proofs.Ytbkjljdblhklmaa
