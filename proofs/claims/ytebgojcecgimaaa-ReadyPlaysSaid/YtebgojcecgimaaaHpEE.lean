/- heap E (string, uint64): up. -/
import Derived.Test.YtebgojcecgimaaaHpCE
import Derived.Test.YtebgojcecgimaaaHpDE
import Derived.IntWalk
namespace Go.Proofs.Ytebgojcecgimaaa
set_option linter.unusedVariables false
set_option linter.unusedSimpArgs false
open Go.RowKit
namespace HpE
theorem wrapI {x : Int} (h1 : -9223372036854775808 ≤ x) (h2 : x ≤ 9223372036854775807) : IntKind.i64.wrap x = x := IntWalk.i64_in _ (by omega)
/-- what is so behind some swaps -/
structure Mv (w : World) (base hb mb gb cap n : Nat) (l0 : List It) (w0 : World) (l : List It) (f : ByteArray → Option Int) : Prop where
  len : l.length = n
  hr : HR w base hb (.slice (some ⟨gb, 0, none⟩) n cap) mb l f
  perm : l.Perm l0
  st : Step [gb, mb] w0 w
theorem Mv.step {w w' w0 : World} {base hb mb gb cap n : Nat} {l0 l : List It} {f : ByteArray → Option Int} (h : Mv w base hb mb gb cap n l0 w0 l f) (hs : Step [] w w') : Mv w' base hb mb gb cap n l0 w0 l f :=
  ⟨h.len, h.hr.step hs (by simp), h.perm, h.st.then hs (by simp)⟩
theorem Mv.swap {w w0 : World} {base hb mb gb cap n : Nat} {l0 l : List It} {f : ByteArray → Option Int} (h : Mv w base hb mb gb cap n l0 w0 l f) (i k : Nat) (hi : i < n) (hk : k < n) :
    Calls Try.prog 31 #[.pointer (some ⟨hb, 0, none⟩), .int .i64 (i : Int), .int .i64 (k : Int)] w fun e w' => e = .returned (.tuple #[]) ∧ ∃ f', Mv w' base hb mb gb cap n l0 w0 (Hp.swap l i k) f' := by
  have hl := h.len
  subst hl
  refine (swap_any base hb mb gb cap l f i k w hi hk h.hr).mono ?_
  rintro e w' ⟨rfl, h1, h2⟩
  exact ⟨rfl, _, Hp.swap_len _ _ _, h1, (Hp.swap_perm l i k hi hk).trans h.perm, h.st.then h2 (fun k hk => .inl hk)⟩

set_option maxRecDepth 20000 in
set_option maxHeartbeats 2000000 in
theorem up_any (base hb mb gb cap n : Nat) (l0 : List It) (f0 : ByteArray → Option Int) (i0 : Nat) (w0 w : World) (hi0 : i0 < n) (h : Mv w base hb mb gb cap n l0 w0 l0 f0) (hh : Hp.Hole (Hp.ltI ltStr) l0 i0) :
    Calls Try.prog 30 #[.pointer (some ⟨hb, 0, none⟩), .int .i64 (i0 : Int)] w fun e w' => ∃ (i : Nat) (l : List It) (f : ByteArray → Option Int), e = .returned (.int .i64 (i : Int)) ∧ i < n ∧ Mv w' base hb mb gb cap n l0 w0 l f ∧ Hp.Down (Hp.ltI ltStr) l i := by
  have H0 := Lib.hid (And.intro h hh)
  clear h hh
  go_enter Try.func30, Try.ntmps30
  go_wp2_with fail
  go_loopw [1] (fun s wr => ∃ (i : Nat) (l : List It) (f : ByteArray → Option Int), s = .int .i64 (i : Int) ∧ i < n ∧ Mv wr base hb mb gb cap n l0 w0 l f ∧ Hp.Hole (Hp.ltI ltStr) l i) (fun s _ => (intOf s).toNat)
  case atStart => exact ⟨i0, l0, f0, rfl, hi0, H0.out⟩
  case round =>
    obtain ⟨i, l, f, rfl, hi, hM, hH⟩ := hrel
    clear H0
    have hfew := hM.hr.few
    rw [hM.len] at hfew
    have c0 : wr.cell? ⟨hb, 0, none⟩ = some (.slice (some ⟨gb, 0, none⟩) n cap) := hM.hr.blk.cell 0
    by_cases hz : 0 < i
    · have p1 : decide ((0 : Int) < (i : Int)) = true := by simp; omega
      obtain ⟨p, hp⟩ : ∃ p, Hp.par i = p := ⟨_, rfl⟩
      have hpi : p < i := by rw [← hp]; unfold Hp.par; omega
      have hlen := hM.len
      have hcl := hM.hr
      rw [← hlen] at hcl
      obtain ⟨ci, ri⟩ := hcl.cell i (by omega)
      obtain ⟨cp, rp⟩ := hcl.cell p (by omega)
      obtain ⟨⟨ki, vi⟩, hxi⟩ : ∃ x, Hp.nth l i = x := ⟨_, rfl⟩
      obtain ⟨⟨kp, vp⟩, hxp⟩ : ∃ x, Hp.nth l p = x := ⟨_, rfl⟩
      rw [hxi] at ci ri
      rw [hxp] at cp rp
      simp only at ci ri cp rp
      have ho := order_any (ki, vi) (kp, vp)
      dsimp only at ho
      obtain ⟨c, hc⟩ : ∃ c, Hp.cmpL (Hp.ltI ltStr) (ki, vi) (kp, vp) = c := ⟨_, rfl⟩
      have hneg := Hp.cmpL_neg (Hp.ltI ltStr) (ki, vi) (kp, vp)
      rw [hc] at ho hneg
      obtain ⟨q, hq⟩ : ∃ q : Nat, i - 1 = q := ⟨_, rfl⟩
      have e1 : IntKind.i64.wrap ((i : Int) - 1) = (q : Int) := by rw [wrapI (by omega) (by omega)]; omega
      have e2 : (q : Int).tdiv 2 = (p : Int) := by rw [← hp, ← hq]; unfold Hp.par; exact Int.ofNat_tdiv (i - 1) 2
      have e3 : IntKind.i64.wrap ((q : Int).tdiv 2) = (p : Int) := by rw [e2, wrapI (by omega) (by omega)]
      have e5 : ((i : Int) - 1).tdiv 2 = (p : Int) := by rw [show (i : Int) - 1 = (q : Int) by omega, e2]
      have e6 : IntKind.i64.wrap (((i : Int) - 1).tdiv 2) = (p : Int) := by rw [e5, wrapI (by omega) (by omega)]
      have e4 : ((i : Int) - 1) / 2 = (p : Int) := by rw [← hp]; unfold Hp.par; omega
      have b1 : (0 : Int) ≤ (i : Int) - 1 := by omega
      have b2 : (i : Int) < (n : Int) := by omega
      have b3 : (p : Int) < (n : Int) := by omega
      have HO := Lib.hid ho
      have HM := Lib.hid hM
      have HH := Lib.hid hH
      have HP := Lib.hid hp
      have HXI := Lib.hid hxi
      have HXP := Lib.hid hxp
      have HLN := Lib.hid hlen
      have HE4 := Lib.hid e4
      clear ho hM hH hp hxi hxp hlen hcl hc hq e4
      have HS := Lib.hid (fun (W : World) (hs : Step [] wr W) => (show W.cell? ⟨hb, 0, none⟩ = some (.slice (some ⟨gb, 0, none⟩) n cap) ∧ W.cell? ⟨gb, i * 2, none⟩ = some (.string (ki)) ∧ W.cell? ⟨gb, i * 2 + 1, none⟩ = some (.int .u64 (vi)) ∧ W.cell? ⟨gb, p * 2, none⟩ = some (.string (kp)) ∧ W.cell? ⟨gb, p * 2 + 1, none⟩ = some (.int .u64 (vp)) from
          ⟨(hs.cell (World.block_lt_of_cell? wr _ c0) (by simp)).trans c0, (hs.cell (World.block_lt_of_cell? wr _ ci) (by simp)).trans ci, (hs.cell (World.block_lt_of_cell? wr _ ri) (by simp)).trans ri, (hs.cell (World.block_lt_of_cell? wr _ cp) (by simp)).trans cp, (hs.cell (World.block_lt_of_cell? wr _ rp) (by simp)).trans rp⟩))
      cases hlt : Hp.ltI ltStr (ki, vi) (kp, vp) with
      | true =>
        rw [hlt] at hneg
        have HLT := Lib.hid hlt
        clear hlt
        go_wp2_with fail
        have hk : Step [] wr wr.drew := (Step.refl [] wr).drew
        refine region_cls (G := Step [] wr) (by kernel_rfl) (by kernel_rfl) hk ?_
        have hn : Nonempty (ClsW (Step [] wr)) := ⟨⟨_, hk⟩⟩
        have d0 : ∀ x : ClsW (Step [] wr), x.val.cell? ⟨hb, 0, none⟩ = some (.slice (some ⟨gb, 0, none⟩) n cap) := fun x => (HS.out _ x.ok).1
        have d1 : ∀ x : ClsW (Step [] wr), x.val.cell? ⟨gb, i * 2, none⟩ = some (.string (ki)) := fun x => (HS.out _ x.ok).2.1
        have d2 : ∀ x : ClsW (Step [] wr), x.val.cell? ⟨gb, i * 2 + 1, none⟩ = some (.int .u64 (vi)) := fun x => (HS.out _ x.ok).2.2.1
        have d3 : ∀ x : ClsW (Step [] wr), x.val.cell? ⟨gb, p * 2, none⟩ = some (.string (kp)) := fun x => (HS.out _ x.ok).2.2.2.1
        have d4 : ∀ x : ClsW (Step [] wr), x.val.cell? ⟨gb, p * 2 + 1, none⟩ = some (.int .u64 (vp)) := fun x => (HS.out _ x.ok).2.2.2.2
        repeat (go_big_quiet_step ((go_at_call 36; exact cls_call ((HO.out _).mono fun e w3 h => ⟨h.1, Step.then (ClsW.ok _) h.2 (by simp)⟩))))
        refine wpQuiet_nil ?_
        rintro _ ⟨⟨w2, hw2⟩, rfl⟩
        clear hn d0 d1 d2 d3 d4 hk e1 e2 e3 e5 e6 c0 ci ri cp rp HS
        have HM2 := Lib.hid (HM.out.step hw2)
        have e4 := HE4.out
        clear hw2
        go_wp2_with fail
        refine (HM2.out.swap i p hi (by omega)).mono ?_
        rintro e w3 ⟨rfl, f3, hM3⟩
        have hole : Hp.Hole (Hp.ltI ltStr) (Hp.swap l i p) p := by
          have hp := HP.out
          subst hp
          exact Hp.hole_up (Hp.ordI Hp.ordStr) l i hz (by rw [HLN.out]; exact hi) HH.out (by rw [HXI.out, HXP.out]; exact HLT.out)
        have H3 := Lib.hid (And.intro hM3 hole)
        clear hM3 hole
        go_wp2_with fail
        go_roundw
        case rel => exact ⟨p, _, f3, by rw [HE4.out], by omega, H3.out⟩
        case measure => simp [intOf]; omega
      | false =>
        rw [hlt] at hneg
        have HLT := Lib.hid hlt
        clear hlt
        go_wp2_with fail
        have hk : Step [] wr wr.drew := (Step.refl [] wr).drew
        refine region_cls (G := Step [] wr) (by kernel_rfl) (by kernel_rfl) hk ?_
        have hn : Nonempty (ClsW (Step [] wr)) := ⟨⟨_, hk⟩⟩
        have d0 : ∀ x : ClsW (Step [] wr), x.val.cell? ⟨hb, 0, none⟩ = some (.slice (some ⟨gb, 0, none⟩) n cap) := fun x => (HS.out _ x.ok).1
        have d1 : ∀ x : ClsW (Step [] wr), x.val.cell? ⟨gb, i * 2, none⟩ = some (.string (ki)) := fun x => (HS.out _ x.ok).2.1
        have d2 : ∀ x : ClsW (Step [] wr), x.val.cell? ⟨gb, i * 2 + 1, none⟩ = some (.int .u64 (vi)) := fun x => (HS.out _ x.ok).2.2.1
        have d3 : ∀ x : ClsW (Step [] wr), x.val.cell? ⟨gb, p * 2, none⟩ = some (.string (kp)) := fun x => (HS.out _ x.ok).2.2.2.1
        have d4 : ∀ x : ClsW (Step [] wr), x.val.cell? ⟨gb, p * 2 + 1, none⟩ = some (.int .u64 (vp)) := fun x => (HS.out _ x.ok).2.2.2.2
        repeat (go_big_quiet_step ((go_at_call 36; exact cls_call ((HO.out _).mono fun e w3 h => ⟨h.1, Step.then (ClsW.ok _) h.2 (by simp)⟩))))
        refine wpQuiet_nil ?_
        rintro _ ⟨⟨w2, hw2⟩, rfl⟩
        clear hn d0 d1 d2 d3 d4 hk e1 e2 e3 e5 e6 c0 ci ri cp rp HS
        have HM2 := Lib.hid (HM.out.step hw2)
        have e4 := HE4.out
        clear hw2
        have hdn : Hp.Down (Hp.ltI ltStr) l i := Hp.hole_stop l i HH.out (.inr (by rw [HP.out, HXI.out, HXP.out]; exact HLT.out))
        have HF := Lib.hid hdn
        clear hdn
        go_wp2_with fail
        go_ret
        exact ⟨i, l, f, rfl, hi, HM2.out, HF.out⟩
    · have p1 : decide ((0 : Int) < (i : Int)) = false := by simp; omega
      have HM2 := Lib.hid (hM.step (Step.refl [] wr).drew)
      have HF := Lib.hid (Hp.hole_stop l i hH (.inl (by omega)))
      clear hM hH
      go_wp2_with fail
      have hk : Step [] wr wr.drew := (Step.refl [] wr).drew
      refine region_cls (G := fun W => W = wr.drew) (by kernel_rfl) (by kernel_rfl) rfl ?_
      have hn : Nonempty (ClsW (fun W => W = wr.drew)) := ⟨⟨_, rfl⟩⟩
      repeat (go_big_quiet_step (fail))
      refine wpQuiet_nil ?_
      rintro _ ⟨⟨w2, hw2⟩, rfl⟩
      subst hw2
      clear hn hk
      go_wp2_with fail
      go_ret
      exact ⟨i, l, f, rfl, hi, HM2.out, HF.out⟩
end HpE
end Go.Proofs.Ytebgojcecgimaaa
