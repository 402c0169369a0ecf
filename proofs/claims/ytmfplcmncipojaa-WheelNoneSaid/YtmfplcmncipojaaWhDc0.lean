/- wheel.step: one way out of its first loop. -/
import Derived.Test.YtmfplcmncipojaaWhD
namespace Go.Proofs.Ytmfplcmncipojaa
set_option linter.unusedVariables false
set_option linter.unusedSimpArgs false
open Go.RowKit Go.Maps

set_option maxRecDepth 20000 in
set_option maxHeartbeats 40000000 in
theorem wstep_c0 (wb : Nat) (mb : Nat → Nat) (hb : Nat) (now last tt most : Int) (T : ByteArray → Option Int) (ks : List ByteArray) (w : World) (h : Wh w wb mb hb now most ks.length (WL T (PI now T)) (SL T (PI now T))) (ht : Tim T ks) (h0 : 0 ≤ now) (hm : last ≤ 1099511627776) (hS : St now last tt T ks) (hE : tt < last ∧ ¬ tt % 64 = 0 ∧ ¬ cntS T (PI now T) ks (tt % 64).toNat = 0) (hc : ¬ tt % 16777216 = 0) :
    Calls Try.prog 25 #[ptr wb, .int .i64 last] w (Stepped wb mb hb now last most T ks w) := by
  have HH := Lib.hid h
  have HT := Lib.hid ht
  have c0 := h.cnow
  have HK2 := Lib.hid hS.tk
  have HG := Lib.hid hS.go
  have htl := hS.tk.lo
  have hth := hS.tk.hi
  have HE := Lib.hid hE
  have HC24 := Lib.hid hc
  clear h ht hS hE hc
  unfold ptr
  go_enter Try.func25, Try.ntmps25
  go_wp2_with fail
  clear c0
  go_loopw [4] (fun j wr => ∃ t : Int, j = .int .i64 t ∧ now < t ∧ t ≤ tt ∧ w = wr) (fun j _ => (tt - intOf j).toNat)
  case atStart => exact ⟨_, rfl, by omega, by omega, rfl⟩
  case round =>
    obtain ⟨t, rfl, hlo, hhi, rfl⟩ := hrel
    have hm6 := i64_mask6 t (by omega) (by omega)
    have hsl := HH.out.slot (s := (t % 64).toNat) (by omega)
    have hln := fun ty => HH.out.slen HT.out (s := (t % 64).toNat) (by omega) ty
    have b0 : 0 ≤ t % 64 := by omega
    have b1 : t % 64 < 64 := by omega
    by_cases htt : t < tt
    · obtain ⟨e1, e2, e3⟩ := HG.out t hlo htt
      rw [e3] at hln
      clear e3
      have e6 : (t % 64 != 0) = true := by simpa using e2
      go_wp2_with fail
      go_roundw
      case rel => exact ⟨t + 1, rfl, by omega, by omega, trivial⟩
      case measure => simp [intOf]; try omega
    · have hte : t = tt := by omega
      subst hte
      clear htt hhi hlo
      obtain ⟨e1, e2, e3⟩ := HE.out
      have e6 : (t % 64 != 0) = true := by simpa using e2
      obtain ⟨cn, hcn⟩ : ∃ cn, cntS T (PI now T) ks (t % 64).toNat = cn := ⟨_, rfl⟩
      rw [hcn] at hln e3
      clear hcn
      have e4 : ((cn : Int) == 0) = false := by simp; omega
      have hc24 := HC24.out
      have c0 := HH.out.cnow
      have f0 := HH.out.blk.free 0
      have m24 := i64_mask24 t (by omega) (by omega)
      have hs1 := (Step.refl [wb] w).setCell (b := wb) (.inl (by simp)) 0 (.int .i64 t)
      have hh1 := HH.out.setNow t
      obtain ⟨W1, hW1⟩ : ∃ W1, w.setCell ⟨wb, 0, none⟩ (.int .i64 t) = W1 := ⟨_, rfl⟩
      rw [hW1] at hs1 hh1
      have X := Lib.hid hW1
      have HH1 := Lib.hid hh1
      have HS1 := Lib.hid (hs1.mono (G := wb :: mapsF mb hb) (by intro k hk; simp at hk; subst hk; exact List.mem_cons_self))
      clear hs1 hh1 hW1
      go_wp2_with (rw [X.out])
      clear c0 f0 hsl hln hm6
      have HI := Lib.hid ((Inv.start now t T).same (D := CC t 3) (fun q hq => by
        rcases hq with h | h | h | h
        · exact hc24 h.2
        · have := h.1; omega
        · have := h.1; omega
        · have := h.1; omega))
      have HH2 := HH1
      have HS2 := HS1
      try go_frame
      clear HH1 HS1
      go_loopw [5] (fun j wr => ∃ (i : Int) (π : ByteArray → Int × Int), j = .int .i64 i ∧ 0 ≤ i ∧ i ≤ 3 ∧ Inv now t T π (CC t i) ∧ Wh wr wb mb hb t most ks.length (WL T π) (SL T π) ∧ Step (wb :: mapsF mb hb) w wr) (fun j _ => (intOf j).toNat)
      case atStart => exact ⟨3, _, rfl, by omega, by omega, HI.out, HH2.out, HS2.out⟩
      case round =>
        obtain ⟨i, π, rfl, i0, i3, hI, hh, hs⟩ := hrel
        have HIr := Lib.hid hI
        have HHr := Lib.hid hh
        have HSr := Lib.hid hs
        clear hI hh hs HI HH2 HS2
        rcases (by omega : i = 0 ∨ i = 1 ∨ i = 2 ∨ i = 3) with rfl | rfl | rfl | rfl
        · have hm6 := i64_mask6 t (by omega) (by omega)
          have hop : okP (0, t % 64) := Or.inr (Or.inr ⟨by simp, by simp, by simp; omega, by simp; omega⟩)
          have HC := Lib.hid (wcascade_any wb mb hb t most T ks π (0, t % 64) wr HHr.out HT.out (by omega) (by omega) hop)
          unfold ptr at HC
          go_wp2_with fail
          refine HC.out.mono ?_
          rintro e w9 ⟨rfl, hh9, hs9⟩
          have hI9 := HIr.out.casc (D := comes t) hop (fun q hq => by
            rcases hq with h | h | h | h | h
            · exact .inl (.inl h)
            · exact .inl (.inr (.inl ⟨by omega, h⟩))
            · exact .inl (.inr (.inr (.inl ⟨by omega, h⟩)))
            · exact .inl (.inr (.inr (.inr ⟨by omega, h⟩)))
            · exact .inr h)
          have hd := hI9.done h0 HK2.out.lo HK2.out.bl HK2.out.no
          have HF := Lib.hid (And.intro (hh9.congr hd.1 hd.2) (HSr.out.trans (hs9.mono (G := wb :: mapsF mb hb) (fun k hk => List.mem_cons_of_mem _ hk)) (fun k hk => .inl hk)))
          clear hI9 hd hh9 hs9 HC
          go_wp2_with fail
          go_end0
          exact ⟨rfl, t, HK2.out.lo, HK2.out.hi, HF.out.1, HF.out.2⟩
        · have mk := i64_mask6 t (by omega) (by omega)
          have m6 := i64_mask6 (t / 64) (by omega) (by omega)
          have hop : okP (1, t / 64 % 64) := Or.inr (Or.inr ⟨by simp, by simp, by simp; omega, by simp; omega⟩)
          by_cases hz : t % 64 = 0
          · exact absurd hz (by omega)
          · have hI9 := HIr.out.same (D := CC t 0) (fun q hq => by
              rcases hq with h | h | h | h
              · exact .inl h
              · exact .inr (.inl ⟨by omega, h.2⟩)
              · exact .inr (.inr (.inl ⟨by omega, h.2⟩))
              · exact absurd h.2.2 hz)
            have HF := Lib.hid hI9
            have hz2 : (t % 64 == 0) = false := by simpa using hz
            clear hI9
            go_wp2_with fail
            go_roundw
            case rel => exact ⟨0, π, rfl, by omega, by omega, HF.out, HHr.out, HSr.out⟩
            case measure => simp [intOf]
        · have mk := i64_mask12 t (by omega) (by omega)
          have m6 := i64_mask6 (t / 4096) (by omega) (by omega)
          have hop : okP (2, t / 4096 % 64) := Or.inr (Or.inr ⟨by simp, by simp, by simp; omega, by simp; omega⟩)
          by_cases hz : t % 4096 = 0
          · exact absurd hz (by omega)
          · have hI9 := HIr.out.same (D := CC t 1) (fun q hq => by
              rcases hq with h | h | h | h
              · exact .inl h
              · exact .inr (.inl ⟨by omega, h.2⟩)
              · exact absurd h.2.2 hz
              · exact absurd h.1 (by omega))
            have HF := Lib.hid hI9
            have hz2 : (t % 4096 == 0) = false := by simpa using hz
            clear hI9
            go_wp2_with fail
            go_roundw
            case rel => exact ⟨1, π, rfl, by omega, by omega, HF.out, HHr.out, HSr.out⟩
            case measure => simp [intOf]
        · have mk := i64_mask18 t (by omega) (by omega)
          have m6 := i64_mask6 (t / 262144) (by omega) (by omega)
          have hop : okP (3, t / 262144 % 64) := Or.inr (Or.inr ⟨by simp, by simp, by simp; omega, by simp; omega⟩)
          by_cases hz : t % 262144 = 0
          · exact absurd hz (by omega)
          · have hI9 := HIr.out.same (D := CC t 2) (fun q hq => by
              rcases hq with h | h | h | h
              · exact .inl h
              · exact absurd h.2.2 hz
              · exact absurd h.1 (by omega)
              · exact absurd h.1 (by omega))
            have HF := Lib.hid hI9
            have hz2 : (t % 262144 == 0) = false := by simpa using hz
            clear hI9
            go_wp2_with fail
            go_roundw
            case rel => exact ⟨2, π, rfl, by omega, by omega, HF.out, HHr.out, HSr.out⟩
            case measure => simp [intOf]
end Go.Proofs.Ytmfplcmncipojaa
