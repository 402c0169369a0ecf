/- calendar: Text. -/
import Derived.Test.YtbkjljdblhklmaaDoorTelD
import Derived.BigQuiet
namespace Go.Proofs.YtbkjljdblhklmaaDoor
set_option linter.unusedVariables false
open Go.RowKit
/-- a tick, to be read -/
def txtL (t : Int) : List UInt8 :=
  padL (yearOf (dayN t)).toNat 4 ++ [45] ++ padL (monOf (dayN t)).toNat 2 ++ [45] ++ padL (dayOf (dayN t)).toNat 2 ++ [32] ++ padL (t % 1440 / 60).toNat 2 ++ [58] ++ padL (t % 60).toNat 2
theorem padL_len (n least : Nat) (h : n ≤ 3000000) (hl : least ≤ 10) : (padL n least).length ≤ 40 := by
  have := dec_len n h
  unfold padL
  simp only [List.length_append, List.length_replicate]
  omega
theorem cat_size (a b : ByteArray) (n m : Nat) (ha : a.size ≤ n) (hb : b.size ≤ m) : (a ++ b).size ≤ n + m := by
  have : (a ++ b).size = a.size + b.size := ByteArray.size_append ..
  omega
theorem big_ok (a : ByteArray) (n : Nat) (h : a.size ≤ n) (hn : n ≤ 1000) : (a.size : Int) ≤ 8388608 := by omega
/-- what the parts of a moment are bounded by -/
theorem mom_bounds (t : Int) (h0 : 0 ≤ t) (h1 : t ≤ 1099511627776) :
    (0 ≤ yearOf (dayN t) ∧ yearOf (dayN t) ≤ 3000000) ∧ (0 ≤ monOf (dayN t) ∧ monOf (dayN t) ≤ 3000000) ∧ (0 ≤ dayOf (dayN t) ∧ dayOf (dayN t) ≤ 3000000) ∧ (0 ≤ t % 1440 / 60 ∧ t % 1440 / 60 ≤ 3000000) ∧ (0 ≤ t % 60 ∧ t % 60 ≤ 3000000) := by
  have hd : 0 ≤ dayN t ∧ dayN t ≤ 1000000000 := by unfold dayN; omega
  have hy := year_bounds (dayN t) hd.1 hd.2
  have hv := civil_valid (dayN t)
  refine ⟨hy, ⟨by omega, by omega⟩, ⟨by omega, by omega⟩, ⟨by omega, by omega⟩, ⟨by omega, by omega⟩⟩
/-- the five texts and what is put between them -/
structure Five (S1 S2 S3 S4 S5 : ByteArray) (R : ByteArray) : Prop where
  a1 : (S1.size : Int) ≤ 8388608
  a2 : (S2.size : Int) ≤ 8388608
  a3 : (S3.size : Int) ≤ 8388608
  a4 : (S4.size : Int) ≤ 8388608
  a5 : (S5.size : Int) ≤ 8388608
  b1 : ((S1 ++ ⟨#[45]⟩).size : Int) ≤ 8388608
  b2 : ((S1 ++ ⟨#[45]⟩ ++ S2).size : Int) ≤ 8388608
  b3 : ((S1 ++ ⟨#[45]⟩ ++ S2 ++ ⟨#[45]⟩).size : Int) ≤ 8388608
  b4 : ((S1 ++ ⟨#[45]⟩ ++ S2 ++ ⟨#[45]⟩ ++ S3).size : Int) ≤ 8388608
  b5 : ((S1 ++ ⟨#[45]⟩ ++ S2 ++ ⟨#[45]⟩ ++ S3 ++ ⟨#[32]⟩).size : Int) ≤ 8388608
  b6 : ((S1 ++ ⟨#[45]⟩ ++ S2 ++ ⟨#[45]⟩ ++ S3 ++ ⟨#[32]⟩ ++ S4).size : Int) ≤ 8388608
  b7 : ((S1 ++ ⟨#[45]⟩ ++ S2 ++ ⟨#[45]⟩ ++ S3 ++ ⟨#[32]⟩ ++ S4 ++ ⟨#[58]⟩).size : Int) ≤ 8388608
  all : S1 ++ ⟨#[45]⟩ ++ S2 ++ ⟨#[45]⟩ ++ S3 ++ ⟨#[32]⟩ ++ S4 ++ ⟨#[58]⟩ ++ S5 = R
theorem five_of (t : Int) (h0 : 0 ≤ t) (h1 : t ≤ 1099511627776) :
    ∃ S1 S2 S3 S4 S5, (⟨(padL (yearOf (dayN t)).toNat 4).toArray⟩ : ByteArray) = S1 ∧ (⟨(padL (monOf (dayN t)).toNat 2).toArray⟩ : ByteArray) = S2 ∧ (⟨(padL (dayOf (dayN t)).toNat 2).toArray⟩ : ByteArray) = S3 ∧ (⟨(padL (t % 1440 / 60).toNat 2).toArray⟩ : ByteArray) = S4 ∧ (⟨(padL (t % 60).toNat 2).toArray⟩ : ByteArray) = S5 ∧ Five S1 S2 S3 S4 S5 ⟨(txtL t).toArray⟩ := by
  obtain ⟨⟨y0, y1⟩, ⟨m0, m1⟩, ⟨d0, d1⟩, ⟨h2, h3⟩, ⟨i0, i1⟩⟩ := mom_bounds t h0 h1
  have l1 := padL_len (yearOf (dayN t)).toNat 4 (by omega) (by omega)
  have l2 := padL_len (monOf (dayN t)).toNat 2 (by omega) (by omega)
  have l3 := padL_len (dayOf (dayN t)).toNat 2 (by omega) (by omega)
  have l4 := padL_len (t % 1440 / 60).toNat 2 (by omega) (by omega)
  have l5 := padL_len (t % 60).toNat 2 (by omega) (by omega)
  rw [← str_len] at l1 l2 l3 l4 l5
  have c1 := cat_size _ ⟨#[45]⟩ _ 1 l1 (by decide)
  have c2 := cat_size _ _ _ _ c1 l2
  have c3 := cat_size _ ⟨#[45]⟩ _ 1 c2 (by decide)
  have c4 := cat_size _ _ _ _ c3 l3
  have c5 := cat_size _ ⟨#[32]⟩ _ 1 c4 (by decide)
  have c6 := cat_size _ _ _ _ c5 l4
  have c7 := cat_size _ ⟨#[58]⟩ _ 1 c6 (by decide)
  refine ⟨_, _, _, _, _, rfl, rfl, rfl, rfl, rfl, big_ok _ _ l1 (by omega), big_ok _ _ l2 (by omega), big_ok _ _ l3 (by omega), big_ok _ _ l4 (by omega), big_ok _ _ l5 (by omega), big_ok _ _ c1 (by omega), big_ok _ _ c2 (by omega), big_ok _ _ c3 (by omega), big_ok _ _ c4 (by omega), big_ok _ _ c5 (by omega), big_ok _ _ c6 (by omega), big_ok _ _ c7 (by omega), ?_⟩
  unfold txtL
  ext1
  simp [ByteArray.data_append]
set_option maxHeartbeats 2000000 in
theorem text_any (t : Int) (w : World) (h0 : 0 ≤ t) (h1 : t ≤ 1099511627776) (ht : TabW w) :
    Calls Tryd.prog 6 #[.int .i64 t] w fun e w' => e = .returned (.string ⟨(txtL t).toArray⟩) ∧ Step [] w w' := by
  have HT := Lib.hid ht
  have hb := mom_bounds t h0 h1
  have HB := Lib.hid hb
  obtain ⟨S1, S2, S3, S4, S5, e1, e2, e3, e4, e5, hF⟩ := five_of t h0 h1
  have HE := Lib.hid (And.intro e1 (And.intro e2 (And.intro e3 (And.intro e4 e5))))
  have HF := Lib.hid hF
  clear ht hb e1 e2 e3 e4 e5 hF
  go_enter Tryd.func6, Tryd.ntmps6
  go_wp2_with fail
  refine (of_any t _ h0 h1).mono ?_
  rintro e w1 ⟨rfl, hb1⟩
  have HS1 := Lib.hid (Step.of_below hb1 [])
  clear hb1
  unfold momV
  have hD1 := HB.out.1
  have hD2 := HB.out.2.1
  have hD3 := HB.out.2.2.1
  have hD4 := HB.out.2.2.2.1
  have hD5 := HB.out.2.2.2.2
  obtain ⟨e1, e2, e3, e4, e5⟩ := HE.out
  have HC := Lib.hid (fun (wx : World) (hx : TabW wx) => And.intro (digits_any (yearOf (dayN t)) 4 hD1.1 hD1.2 (by omega) wx hx) (And.intro (digits_any (monOf (dayN t)) 2 hD2.1 hD2.2 (by omega) wx hx) (And.intro (digits_any (dayOf (dayN t)) 2 hD3.1 hD3.2 (by omega) wx hx) (And.intro (digits_any (t % 1440 / 60) 2 hD4.1 hD4.2 (by omega) wx hx) (digits_any (t % 60) 2 hD5.1 hD5.2 (by omega) wx hx)))))
  rw [e1, e2, e3, e4, e5] at HC
  clear e1 e2 e3 e4 e5 hD1 hD2 hD3 hD4 hD5 HB HE
  generalize yearOf (dayN t) = Y at *
  generalize monOf (dayN t) = M at *
  generalize dayOf (dayN t) = D at *
  generalize t % 1440 / 60 = H at *
  generalize t % 60 = I at *
  generalize (t / 1440 + 6) % 7 = Wd at *
  have hbk := Blk.new w1 #[.int .i64 Y, .int .i64 M, .int .i64 D, .int .i64 Wd, .int .i64 H, .int .i64 I] 24
  have hsk := (Step.refl [] w1).alloc (.cells #[.int .i64 Y, .int .i64 M, .int .i64 D, .int .i64 Wd, .int .i64 H, .int .i64 I] 24)
  obtain ⟨W, hW⟩ : ∃ W, w1.alloc (.cells #[.int .i64 Y, .int .i64 M, .int .i64 D, .int .i64 Wd, .int .i64 H, .int .i64 I] 24) = W := ⟨_, rfl⟩
  obtain ⟨b, hb⟩ : ∃ b, w1.heap.size = b := ⟨_, rfl⟩
  rw [hW] at hbk hsk
  rw [hb] at hbk
  have HW := Lib.hid (And.intro hW hb)
  have HK := Lib.hid hbk
  have HST := Lib.hid (HS1.out.then hsk (by simp))
  clear hW hb hbk hsk
  go_wp2_with (rw [HW.out.1, HW.out.2])
  have hnn : Nonempty (ClsW (Step [] W.drew)) := ⟨⟨_, Step.refl _ _⟩⟩
  have hB := fun y : ClsW (Step [] W.drew) => HK.out.step ((Step.refl [] W).drew.then y.ok (by simp)) (by simp)
  have z0 : ∀ y : ClsW (Step [] W.drew), y.val.cell? ⟨b, 0, none⟩ = some (.int .i64 Y) := fun y => (hB y).cell 0
  have z1 : ∀ y : ClsW (Step [] W.drew), y.val.cell? ⟨b, 1, none⟩ = some (.int .i64 M) := fun y => (hB y).cell 1
  have z2 : ∀ y : ClsW (Step [] W.drew), y.val.cell? ⟨b, 2, none⟩ = some (.int .i64 D) := fun y => (hB y).cell 2
  have z4 : ∀ y : ClsW (Step [] W.drew), y.val.cell? ⟨b, 4, none⟩ = some (.int .i64 H) := fun y => (hB y).cell 4
  have z5 : ∀ y : ClsW (Step [] W.drew), y.val.cell? ⟨b, 5, none⟩ = some (.int .i64 I) := fun y => (hB y).cell 5
  have HCC := Lib.hid (fun y : ClsW (Step [] W.drew) => HC.out y.val (TabW.step HT.out (HST.out.then ((Step.refl [] W).drew.then y.ok (by simp)) (by simp))))
  have HD1 := Lib.hid (show ∀ y : ClsW (Step [] W.drew), Calls Tryd.prog 11 #[.int .i64 Y, .int .i64 4] y.val (fun e w' => e = .returned (.string S1) ∧ ∃ x : ClsW (Step [] W.drew), w' = x.val) from fun y => cls_call (((HCC.out y).1).mono fun e w3 h => ⟨h.1, Step.then y.ok h.2 (by simp)⟩))
  have HD2 := Lib.hid (show ∀ y : ClsW (Step [] W.drew), Calls Tryd.prog 11 #[.int .i64 M, .int .i64 2] y.val (fun e w' => e = .returned (.string S2) ∧ ∃ x : ClsW (Step [] W.drew), w' = x.val) from fun y => cls_call (((HCC.out y).2.1).mono fun e w3 h => ⟨h.1, Step.then y.ok h.2 (by simp)⟩))
  have HD3 := Lib.hid (show ∀ y : ClsW (Step [] W.drew), Calls Tryd.prog 11 #[.int .i64 D, .int .i64 2] y.val (fun e w' => e = .returned (.string S3) ∧ ∃ x : ClsW (Step [] W.drew), w' = x.val) from fun y => cls_call (((HCC.out y).2.2.1).mono fun e w3 h => ⟨h.1, Step.then y.ok h.2 (by simp)⟩))
  have HD4 := Lib.hid (show ∀ y : ClsW (Step [] W.drew), Calls Tryd.prog 11 #[.int .i64 H, .int .i64 2] y.val (fun e w' => e = .returned (.string S4) ∧ ∃ x : ClsW (Step [] W.drew), w' = x.val) from fun y => cls_call (((HCC.out y).2.2.2.1).mono fun e w3 h => ⟨h.1, Step.then y.ok h.2 (by simp)⟩))
  have HD5 := Lib.hid (show ∀ y : ClsW (Step [] W.drew), Calls Tryd.prog 11 #[.int .i64 I, .int .i64 2] y.val (fun e w' => e = .returned (.string S5) ∧ ∃ x : ClsW (Step [] W.drew), w' = x.val) from fun y => cls_call (((HCC.out y).2.2.2.2).mono fun e w3 h => ⟨h.1, Step.then y.ok h.2 (by simp)⟩))
  obtain ⟨a1, a2, a3, a4, a5, b1, b2, b3, b4, b5, b6, b7, hall⟩ := HF.out
  have HALL := Lib.hid hall
  clear hB hall HC HF
  refine region_cls (G := Step [] W.drew) (by kernel_rfl) (by kernel_rfl) (Step.refl _ _) ?_
  repeat (go_big_quiet_step ((go_at_call 11; first | with_reducible exact HD1.out _ | with_reducible exact HD2.out _ | with_reducible exact HD3.out _ | with_reducible exact HD4.out _ | with_reducible exact HD5.out _)))
  refine wpQuiet_nil ?_
  rintro w5 ⟨⟨w5i, hw5⟩, he⟩
  have he' : w5 = w5i := he
  subst he'
  clear he
  have hfin : Step [] w w5 := HST.out.then ((Step.refl [] W).drew.then hw5 (by simp)) (by simp)
  have HFI := Lib.hid hfin
  clear hfin hw5
  go_wp2_with fail
  go_ret
  exact ⟨by rw [HALL.out]; rfl, HFI.out⟩
theorem text_out (t : Int) (w : World) (h : t < 0 ∨ (0 ≤ t ∧ 1099511627776 < t)) :
    Calls Tryd.prog 6 #[.int .i64 t] w fun e w' => e = .returned (.string ⟨#[63]⟩) ∧ Step [] w w' := by
  go_enter Tryd.func6, Tryd.ntmps6
  go_wp2_with fail
  refine (of_out t _ h).mono ?_
  rintro e w1 ⟨rfl, hb1⟩
  have HS1 := Lib.hid (Step.of_below hb1 [])
  clear hb1 h
  go_wp2_with fail
  go_ret
  exact ⟨rfl, HS1.out.alloc _⟩
end Go.Proofs.YtbkjljdblhklmaaDoor
