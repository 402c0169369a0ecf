/- CalendarTells: the law's walk. -/
import Derived.Test.YtbkjljdblhklmaaDoorTelT
namespace Go.Proofs.YtbkjljdblhklmaaDoor
set_option linter.unusedVariables false
set_option linter.unusedSimpArgs false
open Go.RowKit
theorem quiet_eq_mom {K : Act → Prop} {C : World → Prop} {o : Oper} {act : Act} (x y : Operand) (ty : TypeId) (ho : o.op = .binOp .eql 24 x y ty)
    (a b c d e f a' b' c' d' e' f' : Int) (hx : act.eval x = .agg #[.int .i64 a, .int .i64 b, .int .i64 c, .int .i64 d, .int .i64 e, .int .i64 f]) (hy : act.eval y = .agg #[.int .i64 a', .int .i64 b', .int .i64 c', .int .i64 d', .int .i64 e', .int .i64 f'])
    (hk : K (act.put o.dst (.bool (a == a' && (b == b' && (c == c' && (d == d' && (e == e' && f == f')))))))) : o.quiet Tryd.prog act C K :=
  ⟨_, fun w _ => by
    unfold Oper.quietAt
    rw [exec_binop ho (by rw [hx, hy]; exact run_eqGuard_agg w .eql 24 x y _ _ (by kernel_rfl)) (by rw [hx, hy]; exact eq_mom a b c d e f a' b' c' d' e' f' w)]
    exact ⟨rfl, rfl⟩, hk⟩
theorem year_2000 (n : Int) (h : 730425 ≤ n) : ¬ yearOf n < 2000 := by
  have h0 : yearOf 730425 = 2000 := by decide
  by_cases he : n = 730425
  · rw [he, h0]
    omega
  · have := civil_lt 730425 n (by omega)
    rw [h0] at this
    omega
/-- Tick of a tick's moment -/
theorem tick_mom (t : Int) (w : World) (h0 : 0 ≤ t) (h1 : t ≤ 1099511627776) :
    Calls Tryd.prog 7 #[momV t] w fun e w' => e = .returned (.tuple #[.int .i64 t, .int .i64 0]) ∧ Step [] w w' := by
  have hv := civil_valid (dayN t)
  have hn := num_civil (dayN t)
  have hd : dayN t = t / 1440 + 730425 := rfl
  have hy := year_bounds (dayN t) (by omega) (by omega)
  have ht : tickOf (yearOf (dayN t)) (monOf (dayN t)) (dayOf (dayN t)) (t % 1440 / 60) (t % 60) = t := by
    unfold tickOf
    rw [hn, hd]
    omega
  have := tick_ok (yearOf (dayN t)) (monOf (dayN t)) (dayOf (dayN t)) ((t / 1440 + 6) % 7) (t % 1440 / 60) (t % 60) w ⟨by omega, by omega, by omega, by omega, by omega, by omega, by omega, by omega⟩ (year_2000 _ (by omega)) (by omega) (by rw [hn, hd]; omega) (by omega) (by rw [ht]; omega)
  rw [ht] at this
  exact this.mono fun e w' ⟨a, b⟩ => ⟨a, Step.of_below b []⟩
set_option maxHeartbeats 1000000 in
theorem tells_out (t : Int) (w : World) (h : t < 0 ∨ (0 ≤ t ∧ 1099511627776 < t)) :
    Calls Tryd.prog 3 #[.int .i64 t] w fun e w' => e = .returned (.bool true) ∧ Step [] w w' := by
  have HH := Lib.hid h
  go_enter Tryd.func3, Tryd.ntmps3
  go_wp2_with fail
  refine (lives_any _).mono ?_
  rintro e w1 ⟨rfl, hb1⟩
  have HS1 := Lib.hid (Step.of_below hb1 [])
  clear hb1
  go_wp2_with fail
  refine (of_out t _ h).mono ?_
  rintro e w2 ⟨rfl, hb2⟩
  have HS2 := Lib.hid (HS1.out.then (Step.of_below hb2 []) (by simp))
  clear hb2 h
  have HX := Lib.hid (fun wx => text_out t wx HH.out)
  rcases HH.out with h | ⟨h, h'⟩
  · go_wp2_with (first
      | (go_at_call 6; refine (HX.out _).mono ?_; rintro e w3 ⟨rfl, hs3⟩)
      | (refine wpList_eq_mom (.tmp 24) (.tmp 25) _ rfl _ _ _ _ _ _ _ _ _ _ _ _ rfl rfl rfl ?_))
    go_ret
    exact ⟨rfl, (HS2.out.alloc _).then hs3 (by simp)⟩
  · go_wp2_with (first
      | (go_at_call 6; refine (HX.out _).mono ?_; rintro e w3 ⟨rfl, hs3⟩)
      | (refine wpList_eq_mom (.tmp 24) (.tmp 25) _ rfl _ _ _ _ _ _ _ _ _ _ _ _ rfl rfl rfl ?_))
    go_ret
    exact ⟨rfl, (HS2.out.alloc _).then hs3 (by simp)⟩
theorem lawdig_int (n : Int) (least : Nat) (h0 : 0 ≤ n) (h1 : n ≤ 3000000) (hl0 : 1 ≤ least) (hl : least ≤ 10) (w : World) :
    Calls Tryd.prog 8 #[.int .i64 n, .int .i64 least] w fun e w' => e = .returned (.string ⟨(padL n.toNat least).toArray⟩) ∧ Step [] w w' := by
  have := lawdigits_any n.toNat least (by omega) hl0 hl w
  rwa [Int.toNat_of_nonneg h0] at this
set_option maxHeartbeats 2000000 in
theorem tells_in (t : Int) (w : World) (h0 : 0 ≤ t) (h1 : t ≤ 1099511627776) (ht : TabW w) :
    Calls Tryd.prog 3 #[.int .i64 t] w fun e w' => e = .returned (.bool true) ∧ Step [] w w' := by
  have HT := Lib.hid ht
  have hb := mom_bounds t h0 h1
  have HB := Lib.hid hb
  obtain ⟨S1, S2, S3, S4, S5, e1, e2, e3, e4, e5, hF⟩ := five_of t h0 h1
  have HE := Lib.hid (And.intro e1 (And.intro e2 (And.intro e3 (And.intro e4 e5))))
  have HF := Lib.hid hF
  have HTK := Lib.hid (fun wx => tick_mom t wx h0 h1)
  have HMo := Lib.hid (fun wx => moment_any t wx h0 h1)
  have HTx := Lib.hid (fun wx hx => text_any t wx h0 h1 hx)
  have HOf := Lib.hid (fun wx => of_any t wx h0 h1)
  clear ht hb e1 e2 e3 e4 e5 hF
  unfold momV at HTK HMo HOf
  have hD1 := HB.out.1
  have hD2 := HB.out.2.1
  have hD3 := HB.out.2.2.1
  have hD4 := HB.out.2.2.2.1
  have hD5 := HB.out.2.2.2.2
  obtain ⟨e1, e2, e3, e4, e5⟩ := HE.out
  have HC := Lib.hid (fun (wx : World) => And.intro (lawdig_int (yearOf (dayN t)) 4 hD1.1 hD1.2 (by omega) (by omega) wx) (And.intro (lawdig_int (monOf (dayN t)) 2 hD2.1 hD2.2 (by omega) (by omega) wx) (And.intro (lawdig_int (dayOf (dayN t)) 2 hD3.1 hD3.2 (by omega) (by omega) wx) (And.intro (lawdig_int (t % 1440 / 60) 2 hD4.1 hD4.2 (by omega) (by omega) wx) (lawdig_int (t % 60) 2 hD5.1 hD5.2 (by omega) (by omega) wx)))))
  rw [e1, e2, e3, e4, e5] at HC
  clear e1 e2 e3 e4 e5 hD1 hD2 hD3 hD4 hD5 HB HE
  obtain ⟨R, hR⟩ : ∃ R : ByteArray, (⟨(txtL t).toArray⟩ : ByteArray) = R := ⟨_, rfl⟩
  rw [hR] at HF HTx
  clear hR
  generalize yearOf (dayN t) = Y at *
  generalize monOf (dayN t) = M at *
  generalize dayOf (dayN t) = D at *
  generalize t % 1440 / 60 = H at *
  generalize t % 60 = I at *
  generalize (t / 1440 + 6) % 7 = Wd at *
  go_enter Tryd.func3, Tryd.ntmps3
  go_wp2_with fail
  refine (lives_any _).mono ?_
  rintro e w0 ⟨rfl, hb0⟩
  have HS0 := Lib.hid (Step.of_below hb0 [])
  clear hb0
  go_wp2_with fail
  refine (HOf.out _).mono ?_
  rintro e w1 ⟨rfl, hb1⟩
  have HS1 := Lib.hid (HS0.out.then (Step.of_below hb1 []) (by simp))
  clear hb1
  have hbk := Blk.new w1 #[.int .i64 Y, .int .i64 M, .int .i64 D, .int .i64 Wd, .int .i64 H, .int .i64 I] 24
  have hsk := (Step.refl [] w1).alloc (.cells #[.int .i64 Y, .int .i64 M, .int .i64 D, .int .i64 Wd, .int .i64 H, .int .i64 I] 24)
  obtain ⟨W1, hW⟩ : ∃ W, w1.alloc (.cells #[.int .i64 Y, .int .i64 M, .int .i64 D, .int .i64 Wd, .int .i64 H, .int .i64 I] 24) = W := ⟨_, rfl⟩
  obtain ⟨b, hb⟩ : ∃ b, w1.heap.size = b := ⟨_, rfl⟩
  rw [hW] at hbk hsk
  rw [hb] at hbk
  have HW := Lib.hid (And.intro hW hb)
  have HK1 := Lib.hid hbk
  have HST1 := Lib.hid (HS1.out.then hsk (by simp))
  have z0 : W1.cell? ⟨b, 0, none⟩ = some (.int .i64 Y) := hbk.cell 0
  have z1 : W1.cell? ⟨b, 1, none⟩ = some (.int .i64 M) := hbk.cell 1
  have z2 : W1.cell? ⟨b, 2, none⟩ = some (.int .i64 D) := hbk.cell 2
  have z3 : W1.cell? ⟨b, 3, none⟩ = some (.int .i64 Wd) := hbk.cell 3
  have z4 : W1.cell? ⟨b, 4, none⟩ = some (.int .i64 H) := hbk.cell 4
  have z5 : W1.cell? ⟨b, 5, none⟩ = some (.int .i64 I) := hbk.cell 5
  have p1 : ¬ t < 0 := by omega
  have p2 : ¬ 1099511627776 < t := by omega
  clear hW hb hbk hsk
  go_wp2_with (rw [HW.out.1, HW.out.2])
  refine (HTK.out _).mono ?_
  rintro e W ⟨rfl, hsW⟩
  have HST := Lib.hid (HST1.out.then hsW (by simp))
  have HK := Lib.hid (HK1.out.step hsW (by simp))
  clear hsW z0 z1 z2 z3 z4 z5
  go_upto_region 7 with fail
  have hnn : Nonempty (ClsW (Step [] W.drew)) := ⟨⟨_, Step.refl _ _⟩⟩
  have hB := fun y : ClsW (Step [] W.drew) => HK.out.step ((Step.refl [] W).drew.then y.ok (by simp)) (by simp)
  have z0 : ∀ y : ClsW (Step [] W.drew), y.val.cell? ⟨b, 0, none⟩ = some (.int .i64 Y) := fun y => (hB y).cell 0
  have z1 : ∀ y : ClsW (Step [] W.drew), y.val.cell? ⟨b, 1, none⟩ = some (.int .i64 M) := fun y => (hB y).cell 1
  have z2 : ∀ y : ClsW (Step [] W.drew), y.val.cell? ⟨b, 2, none⟩ = some (.int .i64 D) := fun y => (hB y).cell 2
  have z4 : ∀ y : ClsW (Step [] W.drew), y.val.cell? ⟨b, 4, none⟩ = some (.int .i64 H) := fun y => (hB y).cell 4
  have z5 : ∀ y : ClsW (Step [] W.drew), y.val.cell? ⟨b, 5, none⟩ = some (.int .i64 I) := fun y => (hB y).cell 5
  have HD1 := Lib.hid (show ∀ y : ClsW (Step [] W.drew), Calls Tryd.prog 8 #[.int .i64 Y, .int .i64 4] y.val (fun e w' => e = .returned (.string S1) ∧ ∃ x : ClsW (Step [] W.drew), w' = x.val) from fun y => cls_call (((HC.out y.val).1).mono fun e w3 h => ⟨h.1, Step.then y.ok h.2 (by simp)⟩))
  have HD2 := Lib.hid (show ∀ y : ClsW (Step [] W.drew), Calls Tryd.prog 8 #[.int .i64 M, .int .i64 2] y.val (fun e w' => e = .returned (.string S2) ∧ ∃ x : ClsW (Step [] W.drew), w' = x.val) from fun y => cls_call (((HC.out y.val).2.1).mono fun e w3 h => ⟨h.1, Step.then y.ok h.2 (by simp)⟩))
  have HD3 := Lib.hid (show ∀ y : ClsW (Step [] W.drew), Calls Tryd.prog 8 #[.int .i64 D, .int .i64 2] y.val (fun e w' => e = .returned (.string S3) ∧ ∃ x : ClsW (Step [] W.drew), w' = x.val) from fun y => cls_call (((HC.out y.val).2.2.1).mono fun e w3 h => ⟨h.1, Step.then y.ok h.2 (by simp)⟩))
  have HD4 := Lib.hid (show ∀ y : ClsW (Step [] W.drew), Calls Tryd.prog 8 #[.int .i64 H, .int .i64 2] y.val (fun e w' => e = .returned (.string S4) ∧ ∃ x : ClsW (Step [] W.drew), w' = x.val) from fun y => cls_call (((HC.out y.val).2.2.2.1).mono fun e w3 h => ⟨h.1, Step.then y.ok h.2 (by simp)⟩))
  have HD5 := Lib.hid (show ∀ y : ClsW (Step [] W.drew), Calls Tryd.prog 8 #[.int .i64 I, .int .i64 2] y.val (fun e w' => e = .returned (.string S5) ∧ ∃ x : ClsW (Step [] W.drew), w' = x.val) from fun y => cls_call (((HC.out y.val).2.2.2.2).mono fun e w3 h => ⟨h.1, Step.then y.ok h.2 (by simp)⟩))
  obtain ⟨a1, a2, a3, a4, a5, b1, b2, b3, b4, b5, b6, b7, hall⟩ := HF.out
  have HALL := Lib.hid hall
  clear hB hall HC HF
  refine region_cls (G := Step [] W.drew) (by kernel_rfl) (by kernel_rfl) (Step.refl _ _) ?_
  repeat (go_big_quiet_step ((go_at_call 8; first | with_reducible exact HD1.out _ | with_reducible exact HD2.out _ | with_reducible exact HD3.out _ | with_reducible exact HD4.out _ | with_reducible exact HD5.out _)))
  refine wpQuiet_nil ?_
  rintro w5 ⟨⟨w5i, hw5⟩, he⟩
  have he' : w5 = w5i := he
  subst he'
  clear he
  have HFI := Lib.hid (HST.out.then ((Step.refl [] W).drew.then hw5 (by simp)) (by simp))
  have HK5 := Lib.hid (HK.out.step ((Step.refl [] W).drew.then hw5 (by simp)) (by simp))
  rw [HALL.out]
  clear hw5 z0 z1 z2 z4 z5 HALL hnn a1 a2 a3 a4 a5 b1 b2 b3 b4 b5 b6 b7 HD1 HD2 HD3 HD4 HD5
  go_upto_region 8 with fail
  have hnn : Nonempty (ClsW (Step [] w5.drew)) := ⟨⟨_, Step.refl _ _⟩⟩
  have hB := fun y : ClsW (Step [] w5.drew) => HK5.out.step ((Step.refl [] w5).drew.then y.ok (by simp)) (by simp)
  have z0 : ∀ y : ClsW (Step [] w5.drew), y.val.cell? ⟨b, 0, none⟩ = some (.int .i64 Y) := fun y => (hB y).cell 0
  have z1 : ∀ y : ClsW (Step [] w5.drew), y.val.cell? ⟨b, 1, none⟩ = some (.int .i64 M) := fun y => (hB y).cell 1
  have z2 : ∀ y : ClsW (Step [] w5.drew), y.val.cell? ⟨b, 2, none⟩ = some (.int .i64 D) := fun y => (hB y).cell 2
  have z3 : ∀ y : ClsW (Step [] w5.drew), y.val.cell? ⟨b, 3, none⟩ = some (.int .i64 Wd) := fun y => (hB y).cell 3
  have z4 : ∀ y : ClsW (Step [] w5.drew), y.val.cell? ⟨b, 4, none⟩ = some (.int .i64 H) := fun y => (hB y).cell 4
  have z5 : ∀ y : ClsW (Step [] w5.drew), y.val.cell? ⟨b, 5, none⟩ = some (.int .i64 I) := fun y => (hB y).cell 5
  have HM9 := Lib.hid (show ∀ y : ClsW (Step [] w5.drew), Calls Tryd.prog 9 #[.int .i64 t] y.val (fun e w' => e = .returned (.agg #[.int .i64 Y, .int .i64 M, .int .i64 D, .int .i64 Wd, .int .i64 H, .int .i64 I]) ∧ ∃ x : ClsW (Step [] w5.drew), w' = x.val) from fun y => cls_call ((HMo.out y.val).mono fun e w3 h => ⟨h.1, Step.then y.ok (Step.of_below h.2 []) (by simp)⟩))
  have HX6 := Lib.hid (show ∀ y : ClsW (Step [] w5.drew), Calls Tryd.prog 6 #[.int .i64 t] y.val (fun e w' => e = .returned (.string R) ∧ ∃ x : ClsW (Step [] w5.drew), w' = x.val) from fun y => cls_call ((HTx.out y.val (TabW.step HT.out (HFI.out.then ((Step.refl [] w5).drew.then y.ok (by simp)) (by simp)))).mono fun e w3 h => ⟨h.1, Step.then y.ok h.2 (by simp)⟩))
  clear hB
  refine region_cls (G := Step [] w5.drew) (by kernel_rfl) (by kernel_rfl) (Step.refl _ _) ?_
  repeat (go_big_quiet_step ((first | (go_at_call 9; with_reducible exact HM9.out _) | (go_at_call 6; with_reducible exact HX6.out _))))
  refine wpQuiet_nil ?_
  rintro w6 ⟨⟨w6i, hw6⟩, he⟩
  have he' : w6 = w6i := he
  subst he'
  clear he
  have HF6 := Lib.hid (HFI.out.then ((Step.refl [] w5).drew.then hw6 (by simp)) (by simp))
  clear hw6 z0 z1 z2 z3 z4 z5 hnn HM9 HX6
  go_wp2_with fail
  go_ret
  exact ⟨by simp, HF6.out⟩
end Go.Proofs.YtbkjljdblhklmaaDoor
