/- The law's own Moment (whole 400 years first, then year by year, month by month) is the calendar's. -/
import Derived.Test.YtbkjljdblhklmaaDoorCalTickD
import Derived.Deep.CutBlock
namespace Go.Proofs.YtbkjljdblhklmaaDoor
set_option linter.unusedVariables false
open Go.RowKit

theorem len_year (Y : Int) : (365 : Int) + lp Y = if leapB Y then 366 else 365 := by unfold lp; split <;> rfl

/-- the block of a moment in the making -/
def mCells (Y M wd h i : Int) : Array Value := #[.int .i64 Y, .int .i64 M, .int .i64 0, .int .i64 wd, .int .i64 h, .int .i64 i]
def zCells : Array Value := #[.int .i64 0, .int .i64 0, .int .i64 0, .int .i64 0, .int .i64 0, .int .i64 0]

theorem mom_done (t : Int) (Y M d : Int) (hM : 1 ≤ M ∧ M ≤ 12) (hd0 : 0 ≤ d) (hd1 : d < lenI Y M) (hn : num Y M 1 + d = dayN t) :
    momV t = .agg #[.int .i64 Y, .int .i64 M, .int .i64 (d + 1), .int .i64 ((t / 1440 + 6) % 7), .int .i64 (t % 1440 / 60), .int .i64 (t % 60)] := by
  have h := civil_num Y M (d + 1) hM ⟨by omega, by omega⟩
  have e : num Y M (d + 1) = dayN t := by rw [num_day]; omega
  rw [e] at h
  unfold momV
  rw [h.1, h.2.1, h.2.2]

set_option maxHeartbeats 2000000 in
theorem moment_any (t : Int) (w : World) (h0 : 0 ≤ t) (h1 : t ≤ 1099511627776) :
    Calls Tryd.prog 9 #[.int .i64 t] w fun e w' => e = .returned (momV t) ∧ Below w.heap.size w w' := by
  go_enter Tryd.func9, Tryd.ntmps9
  go_upto_block 0 with fail
  go_cut [3, 5] (fun d _ wr => ∃ Y day : Int, d = .int .i64 day ∧ 0 ≤ day ∧ day < 365 + lp Y ∧ 2000 ≤ Y ∧ Y ≤ 3000000 ∧ num Y 1 1 + day = dayN t ∧ Below w.heap.size w wr ∧ w.heap.size + 1 < wr.heap.size ∧
      Blk wr w.heap.size zCells 24 ∧ Blk wr (w.heap.size + 1) (mCells Y 1 ((t / 1440 + 6) % 7) (t % 1440 / 60) (t % 60)) 24)
  case first =>
    go_wp2_with fail
    go_loopw [3, 5] (fun d _ wr => ∃ Y day : Int, d = .int .i64 day ∧ 0 ≤ day ∧ day < 146097 ∧ 2000 ≤ Y ∧ num Y 1 1 + day = dayN t ∧ Below w.heap.size w wr ∧ w.heap.size + 1 < wr.heap.size ∧
        Blk wr w.heap.size zCells 24 ∧ Blk wr (w.heap.size + 1) (mCells Y 1 ((t / 1440 + 6) % 7) (t % 1440 / 60) (t % 60)) 24) (fun d _ _ => (intOf d).toNat)
    case atStart =>
      refine ⟨2000 + t / 1440 / 146097 * 400, _, rfl, by omega, by omega, by omega, ?_, ((Below.refl _ _).alloc (Nat.le_refl _) _).alloc (by simp) _, by simp, (Blk.new _ _ _).alloc _, ?_⟩
      · rw [num_start]
        unfold dayN
        omega
      · have := Blk.new (w.alloc (.cells zCells 24)) (mCells (2000 + t / 1440 / 146097 * 400) 1 ((t / 1440 + 6) % 7) (t % 1440 / 60) (t % 60)) 24
        rw [World.size_alloc] at this
        exact this
    case round =>
      obtain ⟨Y, day, rfl, d0, d1, y0, hn, hbr, hz, hB0, hB1⟩ := hrel
      have hlow := num_lower Y (by omega)
      have hY : Y ≤ 3000000 := by unfold dayN at hn; omega
      have HN := Lib.hid hn
      clear hn hlow
      have HB0 := Lib.hid hB0
      have HB1 := Lib.hid hB1
      have c0 := hB1.cell 0
      have f0 := hB1.free 0
      clear hB0 hB1
      unfold mCells at c0
      simp at c0
      have HY := Lib.hid (num_year Y)
      cases hl : leapB Y
      all_goals
        have HL := Lib.hid hl
        clear hl
      · have hlp : lp Y = 0 := by unfold lp; rw [HL.out]; rfl
        have HP := Lib.hid hlp
        clear hlp
        by_cases hd : day < 365
        · go_wp2_with (go_at_call 14; refine (lawleap_any _ _).mono ?_; rw [HL.out]; rintro e w' ⟨rfl, rfl⟩)
          go_meet
          exact ⟨Y, day, rfl, d0, by rw [HP.out]; omega, y0, hY, HN.out, hbr, hz, HB0.out, HB1.out⟩
        · go_wp2_with (go_at_call 14; refine (lawleap_any _ _).mono ?_; rw [HL.out]; rintro e w' ⟨rfl, rfl⟩)
          go_roundw
          case rel =>
            refine ⟨Y + 1, day - 365, rfl, by omega, by omega, by omega, by have h1 := HN.out; have h2 := HY.out; rw [HP.out] at h2; omega, hbr.setCell (by simp) _, by simpa using hz, HB0.out.set_ne _ _ _ (by omega), ?_⟩
            exact HB1.out.set 0 _
          case measure => simp [intOf]; omega
      · have hlp : lp Y = 1 := by unfold lp; rw [HL.out]; rfl
        have HP := Lib.hid hlp
        clear hlp
        by_cases hd : day < 366
        · go_wp2_with (go_at_call 14; refine (lawleap_any _ _).mono ?_; rw [HL.out]; rintro e w' ⟨rfl, rfl⟩)
          go_meet
          exact ⟨Y, day, rfl, d0, by rw [HP.out]; omega, y0, hY, HN.out, hbr, hz, HB0.out, HB1.out⟩
        · go_wp2_with (go_at_call 14; refine (lawleap_any _ _).mono ?_; rw [HL.out]; rintro e w' ⟨rfl, rfl⟩)
          go_roundw
          case rel =>
            refine ⟨Y + 1, day - 366, rfl, by omega, by omega, by omega, by have h1 := HN.out; have h2 := HY.out; rw [HP.out] at h2; omega, hbr.setCell (by simp) _, by simpa using hz, HB0.out.set_ne _ _ _ (by omega), ?_⟩
            exact HB1.out.set 0 _
          case measure => simp [intOf]; omega
  case rest =>
    obtain ⟨Y, day0, rfl, d0, d1, y0, hY, hn0, hbr0, hz0, hB00, hB10⟩ := hcut
    have HY := Lib.hid (num_year Y)
    have HD := Lib.hid (num_dec Y)
    have HN0 := Lib.hid hn0
    clear hn0
    go_wp2_with fail
    go_loopw [3] (fun d wr => ∃ M day : Int, d = .int .i64 day ∧ 0 ≤ day ∧ day < 367 ∧ 1 ≤ M ∧ M ≤ 12 ∧ num Y M 1 + day = dayN t ∧ dayN t < num (Y + 1) 1 1 ∧ Below w.heap.size w wr ∧ w.heap.size + 1 < wr.heap.size ∧
        Blk wr w.heap.size zCells 24 ∧ Blk wr (w.heap.size + 1) (mCells Y M ((t / 1440 + 6) % 7) (t % 1440 / 60) (t % 60)) 24) (fun d _ => (intOf d).toNat)
    case atStart =>
      refine ⟨1, day0, rfl, d0, by have := lp_cases Y; omega, by omega, by omega, HN0.out, by have h1 := HN0.out; have h2 := HY.out; omega, hbr0, hz0, hB00, hB10⟩
    case round =>
      obtain ⟨M, day, rfl, e0, e1, m0, m1, hn, hlt, hbr, hz, hB0, hB1⟩ := hrel
      clear hB00 hB10 hz0 hbr0
      have HN := Lib.hid hn
      have HT := Lib.hid hlt
      clear hn hlt
      have HB0 := Lib.hid hB0
      have HB1 := Lib.hid hB1
      have c0 := hB1.cell 0
      have c1 := hB1.cell 1
      have f1 := hB1.free 1
      clear hB0 hB1
      unfold mCells at c0 c1
      simp at c0 c1
      have hlp := len_pos Y M ⟨m0, m1⟩
      by_cases hd : lenI Y M ≤ day
      · have hM : M < 12 := by
          have h1 := HN.out; have h2 := HT.out; have h3 := HD.out
          by_cases h : M = 12
          · subst h; rw [len_dec] at hd; omega
          · omega
        have HM : Hid (num Y (M + 1) 1 + (day - lenI Y M) = dayN t) := Lib.hid (by
          have h1 := HN.out; have h2 := num_month Y M m0 (by omega); have h3 := num_day Y M (lenI Y M); omega)
        have HLE := Lib.hid (fun wx => length_any Y M wx)
        generalize lenI Y M = L at *
        go_wp2_with fail
        refine (HLE.out _).mono ?_
        rintro e w1 ⟨rfl, hb1⟩
        have s1 := hb1.size
        have c0' : w1.cell? ⟨w.heap.size + 1, 0, none⟩ = some (.int .i64 Y) := by rw [← c0]; exact hb1.cell (p := ⟨w.heap.size + 1, 0, none⟩) hz
        have c1' : w1.cell? ⟨w.heap.size + 1, 1, none⟩ = some (.int .i64 M) := by rw [← c1]; exact hb1.cell (p := ⟨w.heap.size + 1, 1, none⟩) hz
        go_wp2_with fail
        refine (HLE.out _).mono ?_
        rintro e w2 ⟨rfl, hb2⟩
        have s2 := hb2.size
        have hb12 : Below wr.heap.size wr w2 := hb1.trans (hb2.mono s1)
        have c1'' : w2.cell? ⟨w.heap.size + 1, 1, none⟩ = some (.int .i64 M) := by rw [← c1]; exact hb12.cell (p := ⟨w.heap.size + 1, 1, none⟩) hz
        have f1'' : w2.frozen? ⟨w.heap.size + 1, 1, none⟩ = false := by rw [← f1]; exact hb12.frozen (p := ⟨w.heap.size + 1, 1, none⟩) hz
        have HB0' := Lib.hid (HB0.out.below hb12 (by omega))
        have HB1' := Lib.hid (HB1.out.below hb12 hz)
        go_wp2_with fail
        go_roundw
        case rel =>
          refine ⟨M + 1, day - L, rfl, by omega, by omega, by omega, by omega, HM.out, HT.out, (hbr.trans (hb12.mono (by omega))).setCell (by simp) _, by simp; omega, HB0'.out.set_ne _ _ _ (by omega), ?_⟩
          exact HB1'.out.set 1 _
        case measure => simp [intOf]; omega
      · have HQ := Lib.hid (mom_done t Y M day ⟨m0, m1⟩ e0 (by omega) HN.out)
        have HLE := Lib.hid (fun wx => length_any Y M wx)
        generalize lenI Y M = L at *
        go_wp2_with fail
        refine (HLE.out _).mono ?_
        rintro e w1 ⟨rfl, hb1⟩
        have s1 := hb1.size
        have hB0' := HB0.out.below hb1 (by omega)
        have hB1' := HB1.out.below hb1 hz
        have HB0' := Lib.hid hB0'
        have HB1' := Lib.hid hB1'
        have k0 := hB1'.cell 0
        have k1 := hB1'.cell 1
        have k2 := hB1'.cell 2
        have k3 := hB1'.cell 3
        have k4 := hB1'.cell 4
        have k5 := hB1'.cell 5
        have g2 := hB1'.free 2
        have z0 := hB0'.cell 0
        have z1 := hB0'.cell 1
        have z2 := hB0'.cell 2
        have z3 := hB0'.cell 3
        have z4 := hB0'.cell 4
        have z5 := hB0'.cell 5
        have y0' := hB0'.free 0
        have y1 := hB0'.free 1
        have y2 := hB0'.free 2
        have y3 := hB0'.free 3
        have y4 := hB0'.free 4
        have y5 := hB0'.free 5
        clear hB0' hB1' c0 c1 f1
        simp [mCells] at k0 k1 k2 k3 k4 k5
        simp [zCells] at z0 z1 z2 z3 z4 z5
        go_wp2_with fail
        have hBf := ((((((HB0'.out.set_ne (w.heap.size + 1) 2 (.int .i64 (day + 1)) (by omega)).set 0 (.int .i64 Y)).set 1 (.int .i64 M)).set 2 (.int .i64 (day + 1))).set 3 (.int .i64 ((t / 1440 + 6) % 7))).set 4 (.int .i64 (t % 1440 / 60))).set 5 (.int .i64 (t % 60))
        have q0 := hBf.cell 0
        have q1 := hBf.cell 1
        have q2 := hBf.cell 2
        have q3 := hBf.cell 3
        have q4 := hBf.cell 4
        have q5 := hBf.cell 5
        simp only [zCells, Array.setIfInBounds, List.size_toArray, List.length_cons, List.length_nil] at q0 q1 q2 q3 q4 q5
        clear hBf k0 k1 k2 k3 k4 k5 z0 z1 z2 z3 z4 z5 y0' y1 y2 y3 y4 y5 g2
        rw [HQ.out]
        refine bodyPost_ret (v := .agg #[.int .i64 Y, .int .i64 M, .int .i64 (day + 1), .int .i64 ((t / 1440 + 6) % 7), .int .i64 (t % 1440 / 60), .int .i64 (t % 60)]) ?_ rfl ⟨rfl, ?_⟩
        · simp [results, Tryd.results9, go_sem, q0, q1, q2, q3, q4, q5]
        · exact ((((((((hbr.trans (hb1.mono (by omega))).setCell (by simp) _).setCell (by simp) _).setCell (by simp) _).setCell (by simp) _).setCell (by simp) _).setCell (by simp) _).setCell (by simp) _)
end Go.Proofs.YtbkjljdblhklmaaDoor
