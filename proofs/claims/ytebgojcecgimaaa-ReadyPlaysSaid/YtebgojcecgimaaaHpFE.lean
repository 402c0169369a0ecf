/- heap E (string, uint64): down. -/
import Derived.Test.YtebgojcecgimaaaHpEE
namespace Go.Proofs.Ytebgojcecgimaaa
set_option linter.unusedVariables false
set_option linter.unusedSimpArgs false
open Go.RowKit
namespace HpE
set_option maxRecDepth 20000 in
set_option maxHeartbeats 4000000 in
theorem down_any (base hb mb gb cap n : Nat) (l0 : List It) (f0 : ByteArray → Option Int) (i0 : Nat) (w0 w : World) (hi0 : i0 < n) (h : Mv w base hb mb gb cap n l0 w0 l0 f0) (hh : Hp.Down (Hp.ltI ltStr) l0 i0) :
    Calls Try.prog 29 #[.pointer (some ⟨hb, 0, none⟩), .int .i64 (i0 : Int)] w fun e w' => ∃ (l : List It) (f : ByteArray → Option Int), e = .returned (.tuple #[]) ∧ Mv w' base hb mb gb cap n l0 w0 l f ∧ Hp.OK (Hp.ltI ltStr) l := by
  have H0 := Lib.hid (And.intro h hh)
  clear h hh
  go_enter Try.func29, Try.ntmps29
  go_wp2_with fail
  go_loopw [1] (fun s wr => ∃ (i : Nat) (l : List It) (f : ByteArray → Option Int), s = .int .i64 (i : Int) ∧ i < n ∧ Mv wr base hb mb gb cap n l0 w0 l f ∧ Hp.Down (Hp.ltI ltStr) l i) (fun s _ => n - (intOf s).toNat)
  case atStart => exact ⟨i0, l0, f0, rfl, hi0, H0.out⟩
  case round =>
    obtain ⟨i, l, f, rfl, hi, hM, hH⟩ := hrel
    clear H0
    have hfew := hM.hr.few
    rw [hM.len] at hfew
    have HS := Lib.hid (fun (W : World) (hs : Step [] wr W) => (show W.cell? ⟨hb, 0, none⟩ = some (.slice (some ⟨gb, 0, none⟩) n cap) from (hM.step hs).hr.blk.cell 0))
    have HC := Lib.hid (fun (W : World) (hs : Step [] wr W) (j : Nat) (hj : j < n) => by
      have h1 := (hM.step hs).hr
      have h2 := hM.len
      rw [← h2] at h1
      exact h1.cell j (by omega))
    obtain ⟨k, hk⟩ : ∃ k, 2 * i + 1 = k := ⟨_, rfl⟩
    have e0 : IntKind.i64.wrap (2 * (i : Int)) = 2 * (i : Int) := wrapI (by omega) (by omega)
    have e1 : IntKind.i64.wrap (2 * (i : Int) + 1) = (k : Int) := by rw [wrapI (by omega) (by omega)]; omega
    have e2 : (2 * (i : Int) + 1) = (k : Int) := by omega
    have e3 : IntKind.i64.wrap ((k : Int) + 1) = (k : Int) + 1 := wrapI (by omega) (by omega)
    have HK := Lib.hid hk
    have HM := Lib.hid hM
    have HH := Lib.hid hH
    clear hM hH hk
    go_wp2_with fail
    have hk0 : Step [] wr wr.drew := (Step.refl [] wr).drew
    have hn : Nonempty (ClsW (Step [] wr)) := ⟨⟨_, hk0⟩⟩
    have d0 : ∀ x : ClsW (Step [] wr), x.val.cell? ⟨hb, 0, none⟩ = some (.slice (some ⟨gb, 0, none⟩) n cap) := fun x => HS.out _ x.ok
    obtain ⟨m, hm⟩ : ∃ m, k + 1 = m := ⟨_, rfl⟩
    have e4 : IntKind.i64.wrap ((k : Int) + 1) = (m : Int) := by rw [wrapI (by omega) (by omega)]; omega
    have e5 : (k : Int) + 1 = (m : Int) := by omega
    clear e3
    by_cases g1 : m < n
    · have p1 : decide ((m : Int) < (n : Int)) = true := by simp; omega
      have p2 : (m : Int) < (n : Int) := by omega
      have p3 : (k : Int) < (n : Int) := by omega
      obtain ⟨⟨k1, v1⟩, hx1⟩ : ∃ x, Hp.nth l m = x := ⟨_, rfl⟩
      obtain ⟨⟨k2, v2⟩, hx2⟩ : ∃ x, Hp.nth l k = x := ⟨_, rfl⟩
      have hcm := fun (W : World) hs => HC.out W hs m g1
      have hck := fun (W : World) hs => HC.out W hs k (by omega)
      rw [hx1] at hcm
      rw [hx2] at hck
      dsimp only at hcm hck
      have d1 : ∀ x : ClsW (Step [] wr), x.val.cell? ⟨gb, m * 2, none⟩ = some (.string (k1)) := fun x => (hcm _ x.ok).1
      have d2 : ∀ x : ClsW (Step [] wr), x.val.cell? ⟨gb, m * 2 + 1, none⟩ = some (.int .u64 (v1)) := fun x => (hcm _ x.ok).2
      have d3 : ∀ x : ClsW (Step [] wr), x.val.cell? ⟨gb, k * 2, none⟩ = some (.string (k2)) := fun x => (hck _ x.ok).1
      have d4 : ∀ x : ClsW (Step [] wr), x.val.cell? ⟨gb, k * 2 + 1, none⟩ = some (.int .u64 (v2)) := fun x => (hck _ x.ok).2
      have ho := order_any (k1, v1) (k2, v2)
      dsimp only at ho
      obtain ⟨c, hc⟩ : ∃ c, Hp.cmpL (Hp.ltI ltStr) (k1, v1) (k2, v2) = c := ⟨_, rfl⟩
      have hneg := Hp.cmpL_neg (Hp.ltI ltStr) (k1, v1) (k2, v2)
      rw [hc] at ho hneg
      have HO := Lib.hid ho
      have HX1 := Lib.hid hx1
      have HX2 := Lib.hid hx2
      clear ho hcm hck hx1 hx2 hc
      refine region_cls (G := Step [] wr) (by kernel_rfl) (by kernel_rfl) hk0 ?_
      repeat (go_big_quiet_step ((go_at_call 36; exact cls_call ((HO.out _).mono fun e w3 h => ⟨h.1, Step.then (ClsW.ok _) h.2 (by simp)⟩))))
      refine wpQuiet_nil ?_
      rintro W2 ⟨⟨w2, hw2⟩, rfl⟩
      clear hn d0 d1 d2 d3 d4 hk0
      cases hlt : Hp.ltI ltStr (k1, v1) (k2, v2) with
      | true =>
        rw [hlt] at hneg
        have HPAR := Lib.hid (show 0 < m ∧ Hp.par m = i from ⟨by omega, by rw [← hm, ← HK.out]; exact Hp.par2 i⟩)
        have HMIN := Lib.hid (show ∀ j, 0 < j → j < n → Hp.par j = i → Hp.ltI ltStr (Hp.nth l j) (Hp.nth l m) = false from fun j h1 h2 h3 => by
          have hK := HK.out
          rcases Hp.par_of j i h1 h3 with h4 | h4
          · rw [show j = k by omega, HX2.out, HX1.out]
            exact (Hp.ordI Hp.ordStr).asym hlt
          · rw [show j = m by omega]
            exact (Hp.ordI Hp.ordStr).irr _)
        clear hlt
        go_wp2_with fail
        have p5 : decide (n ≤ m) = false := by simp; omega
        have p6 : (m : Int) < (n : Int) := by omega
        have p7 : (i : Int) < (n : Int) := by omega
        obtain ⟨⟨k3, v3⟩, hx3⟩ : ∃ x, Hp.nth l m = x := ⟨_, rfl⟩
        obtain ⟨⟨k4, v4⟩, hx4⟩ : ∃ x, Hp.nth l i = x := ⟨_, rfl⟩
        have hcm := fun (W : World) hs => HC.out W hs m (by omega)
        have hck := fun (W : World) hs => HC.out W hs i hi
        rw [hx3] at hcm
        rw [hx4] at hck
        dsimp only at hcm hck
        have hn : Nonempty (ClsW (Step [] wr)) := ⟨⟨_, hw2.drew⟩⟩
        have d0 : ∀ x : ClsW (Step [] wr), x.val.cell? ⟨hb, 0, none⟩ = some (.slice (some ⟨gb, 0, none⟩) n cap) := fun x => HS.out _ x.ok
        have d1 : ∀ x : ClsW (Step [] wr), x.val.cell? ⟨gb, m * 2, none⟩ = some (.string (k3)) := fun x => (hcm _ x.ok).1
        have d2 : ∀ x : ClsW (Step [] wr), x.val.cell? ⟨gb, m * 2 + 1, none⟩ = some (.int .u64 (v3)) := fun x => (hcm _ x.ok).2
        have d3 : ∀ x : ClsW (Step [] wr), x.val.cell? ⟨gb, i * 2, none⟩ = some (.string (k4)) := fun x => (hck _ x.ok).1
        have d4 : ∀ x : ClsW (Step [] wr), x.val.cell? ⟨gb, i * 2 + 1, none⟩ = some (.int .u64 (v4)) := fun x => (hck _ x.ok).2
        have ho := order_any (k3, v3) (k4, v4)
        dsimp only at ho
        obtain ⟨c3, hc⟩ : ∃ c, Hp.cmpL (Hp.ltI ltStr) (k3, v3) (k4, v4) = c := ⟨_, rfl⟩
        have hneg3 := Hp.cmpL_neg (Hp.ltI ltStr) (k3, v3) (k4, v4)
        rw [hc] at ho hneg3
        have HO3 := Lib.hid ho
        have HX3 := Lib.hid hx3
        have HX4 := Lib.hid hx4
        clear ho hcm hck hx3 hx4 hc
        refine region_cls (G := Step [] wr) (by kernel_rfl) (by kernel_rfl) hw2.drew ?_
        repeat (go_big_quiet_step ((go_at_call 36; exact cls_call ((HO3.out _).mono fun e w3 h => ⟨h.1, Step.then (ClsW.ok _) h.2 (by simp)⟩))))
        refine wpQuiet_nil ?_
        rintro W3 ⟨⟨w3, hw3⟩, rfl⟩
        clear hn d0 d1 d2 d3 d4
        have HM3 := Lib.hid (HM.out.step hw3)
        clear hw2 hw3
        cases hlt3 : Hp.ltI ltStr (k3, v3) (k4, v4) with
        | true =>
          have hge : decide ((0 : Int) ≤ c3) = false := by rw [hlt3] at hneg3; simp at hneg3; simp; omega
          rw [hge]
          clear hneg3 hge
          have HLT := Lib.hid hlt3
          clear hlt3
          go_wp2_with fail
          refine (HM3.out.swap i m hi (by omega)).mono ?_
          rintro e w3 ⟨rfl, f3, hM3⟩
          have hdown : Hp.Down (Hp.ltI ltStr) (Hp.swap l i m) m := by
            have hlen := HM.out.len
            exact Hp.down_step (Hp.ordI Hp.ordStr) l i m (by omega) (by omega) HH.out HPAR.out (fun j h1 h2 h3 => HMIN.out j h1 (by omega) h3) (by rw [HX3.out, HX4.out]; exact HLT.out)
          have H3 := Lib.hid (And.intro hM3 hdown)
          clear hM3 hdown
          go_wp2_with fail
          go_roundw
          case rel => exact ⟨m, _, f3, rfl, by omega, H3.out⟩
          case measure => simp [intOf]; have := HPAR.out.2; unfold Hp.par at this; omega
        | false =>
          have hge : decide ((0 : Int) ≤ c3) = true := by rw [hlt3] at hneg3; simp at hneg3; simp; omega
          rw [hge]
          clear hneg3 hge
          have HLT := Lib.hid hlt3
          clear hlt3
          have hok : Hp.OK (Hp.ltI ltStr) l := by
            have hlen := HM.out.len
            exact Hp.down_stop l i HH.out (fun j h1 h2 h3 => (Hp.ordI Hp.ordStr).le_trans (by rw [HX3.out, HX4.out]; exact HLT.out : Hp.ltI ltStr (Hp.nth l m) (Hp.nth l i) = false) (HMIN.out j h1 (by omega) h3))
          have HF := Lib.hid hok
          clear hok
          go_wp2_with fail
          refine bodyPost_ret (results_none rfl _ _ _) rfl ?_
          exact ⟨l, f, rfl, HM3.out, HF.out⟩
      | false =>
        rw [hlt] at hneg
        have HPAR := Lib.hid (show 0 < k ∧ Hp.par k = i from ⟨by have := HK.out; omega, by rw [← HK.out]; exact Hp.par1 i⟩)
        have HMIN := Lib.hid (show ∀ j, 0 < j → j < n → Hp.par j = i → Hp.ltI ltStr (Hp.nth l j) (Hp.nth l k) = false from fun j h1 h2 h3 => by
          have hK := HK.out
          rcases Hp.par_of j i h1 h3 with h4 | h4
          · rw [show j = k by omega]
            exact (Hp.ordI Hp.ordStr).irr _
          · rw [show j = m by omega, HX2.out, HX1.out]
            exact hlt)
        clear hlt
        go_wp2_with fail
        have p5 : decide (n ≤ k) = false := by simp; omega
        have p6 : (k : Int) < (n : Int) := by omega
        have p7 : (i : Int) < (n : Int) := by omega
        obtain ⟨⟨k3, v3⟩, hx3⟩ : ∃ x, Hp.nth l k = x := ⟨_, rfl⟩
        obtain ⟨⟨k4, v4⟩, hx4⟩ : ∃ x, Hp.nth l i = x := ⟨_, rfl⟩
        have hcm := fun (W : World) hs => HC.out W hs k (by omega)
        have hck := fun (W : World) hs => HC.out W hs i hi
        rw [hx3] at hcm
        rw [hx4] at hck
        dsimp only at hcm hck
        have hn : Nonempty (ClsW (Step [] wr)) := ⟨⟨_, hw2.drew⟩⟩
        have d0 : ∀ x : ClsW (Step [] wr), x.val.cell? ⟨hb, 0, none⟩ = some (.slice (some ⟨gb, 0, none⟩) n cap) := fun x => HS.out _ x.ok
        have d1 : ∀ x : ClsW (Step [] wr), x.val.cell? ⟨gb, k * 2, none⟩ = some (.string (k3)) := fun x => (hcm _ x.ok).1
        have d2 : ∀ x : ClsW (Step [] wr), x.val.cell? ⟨gb, k * 2 + 1, none⟩ = some (.int .u64 (v3)) := fun x => (hcm _ x.ok).2
        have d3 : ∀ x : ClsW (Step [] wr), x.val.cell? ⟨gb, i * 2, none⟩ = some (.string (k4)) := fun x => (hck _ x.ok).1
        have d4 : ∀ x : ClsW (Step [] wr), x.val.cell? ⟨gb, i * 2 + 1, none⟩ = some (.int .u64 (v4)) := fun x => (hck _ x.ok).2
        have ho := order_any (k3, v3) (k4, v4)
        dsimp only at ho
        obtain ⟨c3, hc⟩ : ∃ c, Hp.cmpL (Hp.ltI ltStr) (k3, v3) (k4, v4) = c := ⟨_, rfl⟩
        have hneg3 := Hp.cmpL_neg (Hp.ltI ltStr) (k3, v3) (k4, v4)
        rw [hc] at ho hneg3
        have HO3 := Lib.hid ho
        have HX3 := Lib.hid hx3
        have HX4 := Lib.hid hx4
        clear ho hcm hck hx3 hx4 hc
        refine region_cls (G := Step [] wr) (by kernel_rfl) (by kernel_rfl) hw2.drew ?_
        repeat (go_big_quiet_step ((go_at_call 36; exact cls_call ((HO3.out _).mono fun e w3 h => ⟨h.1, Step.then (ClsW.ok _) h.2 (by simp)⟩))))
        refine wpQuiet_nil ?_
        rintro W3 ⟨⟨w3, hw3⟩, rfl⟩
        clear hn d0 d1 d2 d3 d4
        have HM3 := Lib.hid (HM.out.step hw3)
        clear hw2 hw3
        cases hlt3 : Hp.ltI ltStr (k3, v3) (k4, v4) with
        | true =>
          have hge : decide ((0 : Int) ≤ c3) = false := by rw [hlt3] at hneg3; simp at hneg3; simp; omega
          rw [hge]
          clear hneg3 hge
          have HLT := Lib.hid hlt3
          clear hlt3
          go_wp2_with fail
          refine (HM3.out.swap i k hi (by omega)).mono ?_
          rintro e w3 ⟨rfl, f3, hM3⟩
          have hdown : Hp.Down (Hp.ltI ltStr) (Hp.swap l i k) k := by
            have hlen := HM.out.len
            exact Hp.down_step (Hp.ordI Hp.ordStr) l i k (by omega) (by omega) HH.out HPAR.out (fun j h1 h2 h3 => HMIN.out j h1 (by omega) h3) (by rw [HX3.out, HX4.out]; exact HLT.out)
          have H3 := Lib.hid (And.intro hM3 hdown)
          clear hM3 hdown
          go_wp2_with fail
          go_roundw
          case rel => exact ⟨k, _, f3, rfl, by omega, H3.out⟩
          case measure => simp [intOf]; have := HPAR.out.2; unfold Hp.par at this; omega
        | false =>
          have hge : decide ((0 : Int) ≤ c3) = true := by rw [hlt3] at hneg3; simp at hneg3; simp; omega
          rw [hge]
          clear hneg3 hge
          have HLT := Lib.hid hlt3
          clear hlt3
          have hok : Hp.OK (Hp.ltI ltStr) l := by
            have hlen := HM.out.len
            exact Hp.down_stop l i HH.out (fun j h1 h2 h3 => (Hp.ordI Hp.ordStr).le_trans (by rw [HX3.out, HX4.out]; exact HLT.out : Hp.ltI ltStr (Hp.nth l k) (Hp.nth l i) = false) (HMIN.out j h1 (by omega) h3))
          have HF := Lib.hid hok
          clear hok
          go_wp2_with fail
          refine bodyPost_ret (results_none rfl _ _ _) rfl ?_
          exact ⟨l, f, rfl, HM3.out, HF.out⟩
    · have p1 : decide ((m : Int) < (n : Int)) = false := by simp; omega
      refine region_cls (G := Step [] wr) (by kernel_rfl) (by kernel_rfl) hk0 ?_
      repeat (go_big_quiet_step (fail))
      refine wpQuiet_nil ?_
      rintro W2 ⟨⟨w2, hw2⟩, rfl⟩
      clear hn d0 hk0
      by_cases g2 : k < n
      · have HPAR := Lib.hid (show 0 < k ∧ Hp.par k = i from ⟨by have := HK.out; omega, by rw [← HK.out]; exact Hp.par1 i⟩)
        have HMIN := Lib.hid (show ∀ j, 0 < j → j < n → Hp.par j = i → Hp.ltI ltStr (Hp.nth l j) (Hp.nth l k) = false from fun j h1 h2 h3 => by
          have hK := HK.out
          rcases Hp.par_of j i h1 h3 with h4 | h4
          · rw [show j = k by omega]
            exact (Hp.ordI Hp.ordStr).irr _
          · omega)
        go_wp2_with fail
        have p5 : decide (n ≤ k) = false := by simp; omega
        have p6 : (k : Int) < (n : Int) := by omega
        have p7 : (i : Int) < (n : Int) := by omega
        obtain ⟨⟨k3, v3⟩, hx3⟩ : ∃ x, Hp.nth l k = x := ⟨_, rfl⟩
        obtain ⟨⟨k4, v4⟩, hx4⟩ : ∃ x, Hp.nth l i = x := ⟨_, rfl⟩
        have hcm := fun (W : World) hs => HC.out W hs k (by omega)
        have hck := fun (W : World) hs => HC.out W hs i hi
        rw [hx3] at hcm
        rw [hx4] at hck
        dsimp only at hcm hck
        have hn : Nonempty (ClsW (Step [] wr)) := ⟨⟨_, hw2.drew⟩⟩
        have d0 : ∀ x : ClsW (Step [] wr), x.val.cell? ⟨hb, 0, none⟩ = some (.slice (some ⟨gb, 0, none⟩) n cap) := fun x => HS.out _ x.ok
        have d1 : ∀ x : ClsW (Step [] wr), x.val.cell? ⟨gb, k * 2, none⟩ = some (.string (k3)) := fun x => (hcm _ x.ok).1
        have d2 : ∀ x : ClsW (Step [] wr), x.val.cell? ⟨gb, k * 2 + 1, none⟩ = some (.int .u64 (v3)) := fun x => (hcm _ x.ok).2
        have d3 : ∀ x : ClsW (Step [] wr), x.val.cell? ⟨gb, i * 2, none⟩ = some (.string (k4)) := fun x => (hck _ x.ok).1
        have d4 : ∀ x : ClsW (Step [] wr), x.val.cell? ⟨gb, i * 2 + 1, none⟩ = some (.int .u64 (v4)) := fun x => (hck _ x.ok).2
        have ho := order_any (k3, v3) (k4, v4)
        dsimp only at ho
        obtain ⟨c3, hc⟩ : ∃ c, Hp.cmpL (Hp.ltI ltStr) (k3, v3) (k4, v4) = c := ⟨_, rfl⟩
        have hneg3 := Hp.cmpL_neg (Hp.ltI ltStr) (k3, v3) (k4, v4)
        rw [hc] at ho hneg3
        have HO3 := Lib.hid ho
        have HX3 := Lib.hid hx3
        have HX4 := Lib.hid hx4
        clear ho hcm hck hx3 hx4 hc
        refine region_cls (G := Step [] wr) (by kernel_rfl) (by kernel_rfl) hw2.drew ?_
        repeat (go_big_quiet_step ((go_at_call 36; exact cls_call ((HO3.out _).mono fun e w3 h => ⟨h.1, Step.then (ClsW.ok _) h.2 (by simp)⟩))))
        refine wpQuiet_nil ?_
        rintro W3 ⟨⟨w3, hw3⟩, rfl⟩
        clear hn d0 d1 d2 d3 d4
        have HM3 := Lib.hid (HM.out.step hw3)
        clear hw2 hw3
        cases hlt3 : Hp.ltI ltStr (k3, v3) (k4, v4) with
        | true =>
          have hge : decide ((0 : Int) ≤ c3) = false := by rw [hlt3] at hneg3; simp at hneg3; simp; omega
          rw [hge]
          clear hneg3 hge
          have HLT := Lib.hid hlt3
          clear hlt3
          go_wp2_with fail
          refine (HM3.out.swap i k hi (by omega)).mono ?_
          rintro e w3 ⟨rfl, f3, hM3⟩
          have hdown : Hp.Down (Hp.ltI ltStr) (Hp.swap l i k) k := by
            have hlen := HM.out.len
            exact Hp.down_step (Hp.ordI Hp.ordStr) l i k (by omega) (by omega) HH.out HPAR.out (fun j h1 h2 h3 => HMIN.out j h1 (by omega) h3) (by rw [HX3.out, HX4.out]; exact HLT.out)
          have H3 := Lib.hid (And.intro hM3 hdown)
          clear hM3 hdown
          go_wp2_with fail
          go_roundw
          case rel => exact ⟨k, _, f3, rfl, by omega, H3.out⟩
          case measure => simp [intOf]; have := HPAR.out.2; unfold Hp.par at this; omega
        | false =>
          have hge : decide ((0 : Int) ≤ c3) = true := by rw [hlt3] at hneg3; simp at hneg3; simp; omega
          rw [hge]
          clear hneg3 hge
          have HLT := Lib.hid hlt3
          clear hlt3
          have hok : Hp.OK (Hp.ltI ltStr) l := by
            have hlen := HM.out.len
            exact Hp.down_stop l i HH.out (fun j h1 h2 h3 => (Hp.ordI Hp.ordStr).le_trans (by rw [HX3.out, HX4.out]; exact HLT.out : Hp.ltI ltStr (Hp.nth l k) (Hp.nth l i) = false) (HMIN.out j h1 (by omega) h3))
          have HF := Lib.hid hok
          clear hok
          go_wp2_with fail
          refine bodyPost_ret (results_none rfl _ _ _) rfl ?_
          exact ⟨l, f, rfl, HM3.out, HF.out⟩
      · have p5 : decide (n ≤ k) = true := by simp; omega
        have HM3 := Lib.hid (HM.out.step hw2.drew)
        have hok : Hp.OK (Hp.ltI ltStr) l := by
          have hlen := HM.out.len
          have hK := HK.out
          exact Hp.down_stop l i HH.out (fun j h1 h2 h3 => by rcases Hp.par_of j i h1 h3 with h4 | h4 <;> omega)
        have HF := Lib.hid hok
        clear hok
        have hwd := hw2.drew
        have hn : Nonempty (ClsW (fun W => W = W2.drew)) := ⟨⟨_, rfl⟩⟩
        have hcd := HS.out _ hwd
        have d0 : ∀ x : ClsW (fun W => W = W2.drew), x.val.cell? ⟨hb, 0, none⟩ = some (.slice (some ⟨gb, 0, none⟩) n cap) := fun x => by rw [x.ok]; exact hcd
        go_wp2_with fail
        refine region_cls (G := fun W => W = W2.drew) (by kernel_rfl) (by kernel_rfl) rfl ?_
        repeat (go_big_quiet_step (fail))
        refine wpQuiet_nil ?_
        rintro _ ⟨⟨w3, hw3⟩, rfl⟩
        subst hw3
        clear hn d0 hcd hwd
        go_wp2_with fail
        refine bodyPost_ret (results_none rfl _ _ _) rfl ?_
        exact ⟨l, f, rfl, HM3.out, HF.out⟩
end HpE
end Go.Proofs.Ytebgojcecgimaaa
