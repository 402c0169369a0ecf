/- HeapPlays: the walk. -/
import Derived.Test.YtdbhldlgfchjpaaHpPl
import Derived.Deep.CutBlock
namespace Go.Proofs.Ytdbhldlgfchjpaa
set_option linter.unusedVariables false
open Go.RowKit Go.Shelf HpB
set_option maxRecDepth 100000 in
set_option maxHeartbeats 8000000 in
theorem plays_any (a : Option Addr) (cap : Nat) (l : List Ac) (w : World) (hA : Acts w a l) (hl : l.length ≤ 100) :
    Calls Try.prog 4 #[.slice a l.length cap] w fun e w' => e = .returned (.bool true) ∧ Below w.heap.size w w' := by
  obtain ⟨i0, hi0, hz0, hz1, hz2⟩ := infoP_parts
  have HA := Lib.hid hA
  obtain ⟨n, hn⟩ : ∃ n, l.length = n := ⟨_, rfl⟩
  have HN := Lib.hid hn
  rw [hn] at hl ⊢
  have q1 : ((100 : Int) < (n : Int)) = False := by simp; omega
  clear hA hn
  go_enter Try.func4, Try.ntmps4
  go_wp2_with fail
  refine (lives_any w).mono ?_
  rintro e w1 ⟨rfl, hs⟩
  have HS := Lib.hid hs
  clear hs
  go_wp2_with fail
  refine (new_hs w1).mono ?_
  rintro e w2 ⟨hb, F1, rfl, h1, s1⟩
  have HP := Lib.hid (show Pl w1 hb 0 [] F1 (.slice none 0 0) [] w2 from ⟨h1, ⟨rfl, .inl ⟨rfl, rfl⟩⟩, List.Perm.refl _, fun k hk => by simp [foot, Value.ownBlock] at hk, s1, Nat.le_refl _⟩)
  clear h1 s1
  go_wp2_with fail
  go_loopw [4, 25] (fun v i wr => ∃ (k : Nat) (s m : List It) (F : List Nat), i = .int .i64 k ∧ k ≤ n ∧ Pl w1 hb k s F v m wr) (fun _ i _ => n - (intOf i).toNat)
  case atStart => exact ⟨0, [], [], F1, rfl, Nat.zero_le _, HP.out⟩
  case round =>
    obtain ⟨k, s, m, F, rfl, hk, hP⟩ := hrel
    have HP2 := Lib.hid hP
    clear hP HP
    by_cases hkn : k < n
    · have p1 : (k : Int) < (n : Int) := by omega
      obtain ⟨b, off, rfl, hlt, c0, c1, c2, hg⟩ := HA.out k (by rw [HN.out]; exact hkn)
      generalize l.getD k ac0 = x at *
      obtain ⟨kind, key, rank⟩ := x
      obtain ⟨ao, cm, hv⟩ := HP2.out.prs.form
      subst hv
      obtain ⟨N, hN⟩ : ∃ N, m.length = N := ⟨_, rfl⟩
      have hNs : N ≤ k := by rw [← hN, HP2.out.perm.length_eq]; exact HP2.out.few
      rw [hN] at HP2 ⊢
      have HNN := Lib.hid hN
      have st0 := HS.out.then HP2.out.st (by simp)
      have d0 := (st0.cell hlt (by simp)).trans c0
      have d1 := (st0.cell hlt (by simp)).trans c1
      have d2 := (st0.cell hlt (by simp)).trans c2
      dsimp only at d0 d1 d2 hg
      have HG := Lib.hid hg
      have hbk := Blk.new wr #[.int .i64 kind, .int .u8 key, .int .i64 rank] 39
      have hP3 := HP2.out.step ((Step.refl [] wr).alloc (.cells #[.int .i64 kind, .int .u8 key, .int .i64 rank] 39))
      obtain ⟨W, hW⟩ : ∃ W, wr.alloc (.cells #[.int .i64 kind, .int .u8 key, .int .i64 rank] 39) = W := ⟨_, rfl⟩
      obtain ⟨xb, hxb⟩ : ∃ b, wr.heap.size = b := ⟨_, rfl⟩
      rw [hW] at hbk hP3
      rw [hxb] at hbk
      have hxF : xb ∉ F := fun hm => by have := HP2.out.hs.live xb hm; omega
      have HP3 := Lib.hid hP3
      have HXF := Lib.hid hxF
      have HB := Lib.hid hbk
      have HW := Lib.hid (And.intro hW hxb)
      clear hg st0 c0 c1 c2 hN hbk hP3 hW hxb hxF HP2
      go_wp2_with fail
      rw [HW.out.1, HW.out.2]
      have z0 := HB.out.cell 0
      have z1 := HB.out.cell 1
      have z2 := HB.out.cell 2
      simp only [List.getElem?_toArray, List.getElem?_cons_zero, List.getElem?_cons_succ] at z0 z1 z2
      clear d0 d1 d2 HW hlt p1
      have hprs := HP3.out.prs
      refine (find_any w1.heap.size (.slice ao N cm) m key W hprs (by have := HNN.out; omega)).mono ?_
      rintro e w5 ⟨rfl, r, rfl, hr⟩
      clear hprs
      have HR := Lib.hid hr
      clear hr
      go_wp2_with fail
      have hRk := rank_hs HP3.out.hs key HG.out
      refine hRk.mono ?_
      rintro e w5 ⟨rfl, hrk⟩
      obtain ⟨ρ, S, rfl, hfr⟩ := fr_of HP3.out.perm HP3.out.hs.keys HR.out hrk
      have HF := Lib.hid hfr
      clear hrk hRk hfr HR
      go_upto_region 10 with fail
      go_cut [63] (fun q wx => q = .bool false ∧ wx = W)
      case first =>
        rcases HF.out with ⟨rfl, i, hi, rfl, hx⟩ | ⟨rfl, rfl, rfl, hno⟩
        · have hprs := HP3.out.prs
          rw [← HNN.out] at hprs
          have hil : i < N := by rw [← HNN.out]; exact hi
          obtain ⟨g, cg, hg⟩ := hprs.at0 (by omega)
          injection hg with hg1 hg2 hg3
          subst hg1
          subst hg3
          clear hg2
          have m1 := (hprs.cell i hi).2
          rw [hx] at m1
          dsimp only at m1
          have q2 : (i : Int) < (N : Int) := by omega
          clear hprs hi hx hil
          go_wp2_with fail
          go_meet
          exact ⟨rfl, rfl⟩
        · clear hno
          go_wp2_with fail
          go_meet
          exact ⟨rfl, rfl⟩
      case rest =>
        obtain ⟨rfl, hw⟩ := hcut
        rw [hw]
        clear hw
        go_upto_block 2 with fail
        go_cut [4] (fun v wx => ∃ (s' m' : List It) (F' : List Nat), Pl w1 hb (k + 1) s' F' v m' wx)
        case first =>
          go_upto_if 76 with fail
          go_cut [76] (fun q wx => q = .bool ((kind == 0) || (kind == 1)) ∧ wx = W)
          case first =>
            cases q0 : (kind == 0) with
            | true =>
              go_wp2_with fail
              go_meet
              exact ⟨congrArg Value.bool (by rw [q0, Bool.true_or]), rfl⟩
            | false =>
              go_wp2_with fail
              go_meet
              exact ⟨congrArg Value.bool (by rw [q0, Bool.false_or]), rfl⟩
          case rest =>
            obtain ⟨rfl, hw⟩ := hcut
            rw [hw]
            clear hw
            cases k01 : ((kind == 0) || (kind == 1)) with
            | true =>
              have HPut := Lib.hid (put_hs HP3.out.hs key rank HG.out (by have := HP3.out.few; omega))
              go_wp2_with fail
              refine HPut.out.mono ?_
              rintro e w5 ⟨F5, rfl, h5, s5, f5⟩
              have hz := HB.out.step s5 (by simpa using HXF.out)
              have y1 := hz.cell 1
              have y2 := hz.cell 2
              simp only [List.getElem?_toArray, List.getElem?_cons_zero, List.getElem?_cons_succ] at y1 y2
              have H5 := Lib.hid (And.intro h5 (And.intro s5 f5))
              clear h5 s5 f5 hz z0 z1 z2 HPut
              rcases HF.out with ⟨rfl, i, hi, rfl, hx⟩ | ⟨rfl, rfl, rfl, hno⟩
              · as_aux_lemma =>
                  have hhas : hasK s key = true := some_hasK HP3.out.perm key i hi (by rw [hx])
                  have hprs := (HP3.out.heap H5.out.1 H5.out.2.1 H5.out.2.2).1
                  rw [← HNN.out] at hprs
                  have hil : i < N := by rw [← HNN.out]; exact hi
                  obtain ⟨g, cg, hg⟩ := hprs.at0 (by omega)
                  injection hg with hg1 hg2 hg3
                  subst hg1
                  subst hg3
                  clear hg2
                  have m1 := (hprs.cell i hi).2
                  have mf := World.ownsRow.frozenAt hprs (i * 2 + 1)
                  have hk1 : (Hp.nth m i).1 = key := by rw [hx]
                  have HFin := Lib.hid (Pl.put_found (by have := HP3.out; rwa [← HNN.out] at this) i hi key rank hk1 H5.out.1 H5.out.2.1 H5.out.2.2)
                  rw [HNN.out] at HFin
                  have q2 : (i : Int) < (N : Int) := by omega
                  rw [hhas]
                  clear hprs hi hil hhas hk1 hx
                  clear HP3 HF HNN
                  go_wp2_with fail
                  go_meet
                  exact ⟨_, _, _, HFin.out⟩
              · as_aux_lemma =>
                  have hhas : hasK s key = false := none_has HP3.out.perm key hno
                  rw [hhas]
                  obtain ⟨p5, d5, st5⟩ := HP3.out.heap H5.out.1 H5.out.2.1 H5.out.2.2
                  have hlow := st5.size
                  unfold Prs at p5
                  rw [HNN.out] at p5
                  have HO := Lib.hid p5
                  have hf0 := flat_len m
                  rw [HNN.out] at hf0
                  have HNO := Lib.hid hno
                  clear hhas hno p5 d5 st5
                  have hsr := (Blk.new w5 #[.int .u8 key, .int .i64 rank] 44)
                  have r0 := hsr.cell 0
                  have r1 := hsr.cell 1
                  simp only [List.getElem?_toArray, List.getElem?_cons_zero, List.getElem?_cons_succ] at r0 r1
                  have hsrc : ∀ ad : Addr, (some (⟨w5.heap.size, 0, none⟩ : Addr)) = some ad → ∀ (j : Nat) (u : Value), [Value.int .u8 key, .int .i64 rank][j]? = some u → (w5.alloc (.cells #[.int .u8 key, .int .i64 rank] 44)).cell? (ad.add j) = some u := by
                    intro ad he j u hu
                    injection he with he
                    subst he
                    match j, hu with
                    | 0, hu =>
                      injection hu with hu
                      subst hu
                      exact r0
                    | 1, hu =>
                      injection hu with hu
                      subst hu
                      exact r1
                  have HSrc := Lib.hid hsrc
                  clear r0 r1 hsr hsrc
                  go_wp2_with (at_builtin; go_loud (refine wpList_append_sep rfl (.tmp 96) (.tmp 102) 37 rfl w1.heap.size 44 i0 _ 2 16 Try.underlying37 hi0 hz0 hz1 hz2 rfl (by decide) _ N (flatI m) rfl (HO.out.alloc _) (some ⟨w5.heap.size, 0, none⟩) 1 1 [.int .u8 key, .int .i64 rank] rfl (fun h => by cases h) rfl HSrc.out (fun u hu => by simp at hu; rcases hu with rfl | rfl <;> rfl) (by unfold maxLen; omega) (by omega) (by rw [World.size_alloc]; omega) ?_))
                  intro v7 w7 ho7 hg7 hf7
                  have HFin := Lib.hid (Pl.put_new HP3.out key rank HNO.out H5.out.1 H5.out.2.1 H5.out.2.2 ((Step.refl [] w5).alloc (.cells #[.int .u8 key, .int .i64 rank] 44)) (by rw [HNN.out]; exact ho7) hg7 hf7)
                  clear ho7 hg7 hf7
                  go_wp2_with fail
                  go_meet
                  exact ⟨_, _, _, HFin.out⟩
            | false =>
              cases k2 : (kind == 2) with
              | true =>
                have HCut := Lib.hid (cut_hs HP3.out.hs key HG.out)
                have k2p : (kind == 2) = true := k2
                go_wp2_with fail
                refine HCut.out.mono ?_
                rintro e w5 ⟨F5, rfl, h5, s5, f5⟩
                have H5 := Lib.hid (And.intro h5 (And.intro s5 f5))
                have hw0 := Hp.wok_len key s
                clear h5 s5 f5 z0 z1 z2 HCut
                rcases HF.out with ⟨rfl, i, hi, rfl, hx⟩ | ⟨rfl, rfl, rfl, hno⟩
                · as_aux_lemma =>
                    have hhas : hasK s key = true := some_hasK HP3.out.perm key i hi (by rw [hx])
                    have hprs := (HP3.out.heap H5.out.1 H5.out.2.1 H5.out.2.2).1
                    have hst5 := (HP3.out.heap H5.out.1 H5.out.2.1 H5.out.2.2).2.2
                    rw [← HNN.out] at hprs
                    have hil : i < N := by rw [← HNN.out]; exact hi
                    have HC := Lib.hid (cutm_any w1.heap.size _ m i w5 hprs hi (by have := HNN.out; omega))
                    rw [HNN.out] at HC
                    have hpe : (m.eraseIdx i).Perm (Hp.wok key s) := by
                      have := keys_split HP3.out.perm HP3.out.hs.keys i hi
                      rwa [hx] at this
                    have HPE := Lib.hid (And.intro hpe hst5)
                    rw [hhas]
                    clear hprs hil hhas hpe hst5
                    clear hi hx
                    clear HF
                    go_wp2_with fail
                    refine HC.out.mono ?_
                    rintro e w7 ⟨v7, rfl, p7, s7⟩
                    have HFin := Lib.hid (Pl.cutm (k := k + 1) H5.out.1 HPE.out.2 (Step.refl [] w5) p7 s7 HPE.out.1 (by have := HP3.out.few; omega))
                    clear p7 s7 HC HPE
                    go_wp2_with fail
                    go_meet
                    exact ⟨_, _, _, HFin.out⟩
                · as_aux_lemma =>
                    have hhas : hasK s key = false := none_has HP3.out.perm key hno
                    have HFin := Lib.hid ((Pl.same HP3.out H5.out.1 H5.out.2.1 H5.out.2.2 (Step.refl [] w5) (by rw [none_wok HP3.out.perm key hno]; exact HP3.out.perm) (by have := HP3.out.few; omega)).more (Nat.le_succ k))
                    rw [hhas]
                    clear hhas
                    clear hno
                    clear HF
                    go_wp2_with fail
                    go_meet
                    exact ⟨_, _, _, HFin.out⟩
              | false =>
                cases k3 : (kind == 3) with
                | true =>
                  as_aux_lemma =>
                    have HPop := Lib.hid (pop_hs HP3.out.hs)
                    clear z0 z1 z2 HF HG HB
                    obtain ⟨⟨⟨hk', hr'⟩, ok'⟩, hhd⟩ : ∃ p, hdS s = p := ⟨_, rfl⟩
                    rw [hhd] at HPop
                    dsimp only at HPop
                    have HHD := Lib.hid hhd
                    clear hhd
                    go_wp2_with fail
                    refine HPop.out.mono ?_
                    rintro e w5 ⟨F5, rfl, h5, s5, f5⟩
                    have H5 := Lib.hid (And.intro h5 (And.intro s5 f5))
                    clear h5 s5 f5 HPop
                    go_wp2_with fail
                    obtain ⟨p5, d5, st5⟩ := HP3.out.heap H5.out.1 H5.out.2.1 H5.out.2.2
                    obtain ⟨pb, hpb⟩ : ∃ b, w5.heap.size = b := ⟨_, rfl⟩
                    have hbk := Blk.new w5 #[.int .u8 hk', .int .i64 hr'] 49
                    have s6 := (Step.refl [] w5).alloc (.cells #[.int .u8 hk', .int .i64 hr'] 49)
                    obtain ⟨w6, hw6⟩ : ∃ X, w5.alloc (.cells #[.int .u8 hk', .int .i64 hr'] 49) = X := ⟨_, rfl⟩
                    rw [hw6] at hbk s6 ⊢
                    rw [hpb] at hbk ⊢
                    have p6 := p5.step s6 (by simp)
                    rw [← HNN.out]
                    rw [← HNN.out] at p6
                    refine (least_any w1.heap.size _ m w6 p6 (by have := HNN.out; omega)).mono ?_
                    rintro e w7 ⟨s7, r7, rfl, hr7⟩
                    rw [HNN.out]
                    have b7 := hbk.step s7 (by simp)
                    have p7 := p6.step s7 (by simp)
                    have y0 := b7.cell 0
                    have y1 := b7.cell 1
                    simp only [List.getElem?_toArray, List.getElem?_cons_zero, List.getElem?_cons_succ] at y0 y1
                    have H7 := Lib.hid (And.intro st5 (And.intro (s6.then s7 (by simp)) p7))
                    have HR7 := Lib.hid hr7
                    clear p5 d5 st5 hpb hbk s6 hw6 p6 s7 b7 p7 hr7
                    go_upto_region 31 with fail
                    have hne : Nonempty (ClsW (fun X => X = w7.drew)) := ⟨⟨_, rfl⟩⟩
                    have x4 : ∀ x : ClsW (fun X => X = w7.drew), x.val.cell? ⟨pb, 0, none⟩ = some _ := fun x => by rw [x.ok]; exact y0
                    have x5 : ∀ x : ClsW (fun X => X = w7.drew), x.val.cell? ⟨pb, 1, none⟩ = some _ := fun x => by rw [x.ok]; exact y1
                    cases s with
                    | nil =>
                      as_aux_lemma =>
                        have hd2 := HHD.out
                        cases hd2
                        have hm0 : m.length = 0 := by rw [HP3.out.perm.length_eq]; rfl
                        rcases HR7.out with ⟨rfl, _⟩ | ⟨i, hi, _⟩
                        · have HFin := Lib.hid ((Pl.same HP3.out H5.out.1 H5.out.2.1 H5.out.2.2 H7.out.2.1.drew HP3.out.perm (Nat.zero_le k)).more (Nat.le_succ k))
                          refine region_cls (G := fun X => X = w7.drew) (by kernel_rfl) (by kernel_rfl) rfl ?_
                          repeat (go_big_quiet_step (fail))
                          refine wpQuiet_nil ?_
                          rintro _ ⟨⟨w9, hw9⟩, rfl⟩
                          subst hw9
                          clear hne x4 x5 hm0
                          go_wp2_with fail
                          go_meet
                          exact ⟨_, _, _, HFin.out⟩
                        · omega
                    | cons x t =>
                      as_aux_lemma =>
                        have hd2 := HHD.out
                        cases hd2
                        rcases HR7.out with ⟨_, h0⟩ | ⟨i, hi, rfl, hmin⟩
                        · have := HP3.out.perm.length_eq
                          rw [h0] at this
                          simp at this
                        · have hx := least_head HP3.out.hs.srt HP3.out.perm i hi hmin
                          have hp7 := H7.out.2.2
                          have hil : i < N := by rw [← HNN.out]; exact hi
                          obtain ⟨g, cg, hg⟩ := hp7.at0 (by omega)
                          injection hg with hg1 hg2 hg3
                          subst hg1
                          subst hg3
                          clear hg2
                          obtain ⟨m0, m1⟩ := hp7.cell i hi
                          rw [hx] at m0 m1
                          dsimp only at m0 m1
                          have x2 : ∀ x : ClsW (fun X => X = w7.drew), x.val.cell? ⟨g, i * 2, none⟩ = some _ := fun x => by rw [x.ok]; exact m0
                          have x3 : ∀ x : ClsW (fun X => X = w7.drew), x.val.cell? ⟨g, i * 2 + 1, none⟩ = some _ := fun x => by rw [x.ok]; exact m1
                          have q2 : (i : Int) < (N : Int) := by omega
                          have q3 : decide ((0 : Int) ≤ (i : Int)) = true := by simp
                          have HC := Lib.hid (cutm_any w1.heap.size _ m i w7.drew (hp7.step ((Step.refl [] w7).drew) (by simp)) hi (by have := HNN.out; omega))
                          rw [HNN.out] at HC
                          have hpe : (m.eraseIdx i).Perm t := by
                            have h1 := Hp.get_perm m i hi
                            rw [hx] at h1
                            exact List.Perm.cons_inv (h1.symm.trans HP3.out.perm)
                          have HPE := Lib.hid hpe
                          clear hpe hp7 hil
                          clear hi hmin hx
                          refine region_cls (G := fun X => X = w7.drew) (by kernel_rfl) (by kernel_rfl) rfl ?_
                          repeat (go_big_quiet_step (fail))
                          refine wpQuiet_nil ?_
                          rintro _ ⟨⟨w9, hw9⟩, rfl⟩
                          subst hw9
                          clear hne x2 x3 x4 x5
                          go_wp2_with fail
                          refine HC.out.mono ?_
                          rintro e w10 ⟨v10, rfl, p10, s10⟩
                          have HFin := Lib.hid (Pl.cutm (k := k + 1) H5.out.1 H7.out.1 H7.out.2.1.drew p10 s10 HPE.out (by have := HP3.out.few; simp only [List.tail_cons, List.length_cons] at this ⊢; omega))
                          clear p10 s10 HC HPE
                          go_wp2_with fail
                          go_meet
                          exact ⟨_, _, _, HFin.out⟩
                | false =>
                  as_aux_lemma =>
                    have HCo := Lib.hid (copy_hs HP3.out.hs)
                    clear HF z0
                    go_wp2_with fail
                    refine HCo.out.mono ?_
                    rintro e w5 ⟨hb', F', rfl, h5, s5⟩
                    have hz := HB.out.step s5 (by simp)
                    have y1 := hz.cell 1
                    have y2 := hz.cell 2
                    simp only [List.getElem?_toArray, List.getElem?_cons_zero, List.getElem?_cons_succ] at y1 y2
                    have HPut := Lib.hid (put_hs h5 key rank HG.out (by have := HP3.out.few; omega))
                    have H5 := Lib.hid (And.intro h5 s5)
                    clear h5 s5 hz z1 z2 HCo
                    go_wp2_with fail
                    refine HPut.out.mono ?_
                    rintro e w6 ⟨F6, rfl, h6, s6, f6⟩
                    have HPop := Lib.hid (pop_hs h6)
                    have H6 := Lib.hid (And.intro (H5.out.2.then s6 (fun j hj => .inr (H5.out.1.low j hj))) h6)
                    clear h6 s6 f6 HPut y1 y2
                    go_wp2_with fail
                    refine HPop.out.mono ?_
                    rintro e w7 ⟨F7, rfl, h7, s7, f7⟩
                    have HFin := Lib.hid ((HP3.out.step (H6.out.1.then s7 (fun j hj => .inr (H6.out.2.low j hj)))).more (Nat.le_succ k))
                    clear h7 s7 f7 HPop H6 H5
                    go_wp2_with fail
                    go_meet
                    exact ⟨_, _, _, HFin.out⟩
        case rest =>
          obtain ⟨s', m', F', hP⟩ := hcut
          have hv := hP.prs.form
          have HP9 := Lib.hid hP
          clear hP HP3 HB HG HF z0 z1 z2 HNN
          obtain ⟨a9, c9, rfl⟩ := hv
          go_wp2_with fail
          refine (is_any w1.heap.size hb w1.heap.size _ s' m' F' wc HP9.out.hs HP9.out.prs HP9.out.perm (by rw [HP9.out.perm.length_eq]; have := HP9.out.few; omega)).mono ?_
          rintro e w9 ⟨rfl, s9⟩
          have HP10 := Lib.hid (HP9.out.step s9)
          clear s9 HP9
          go_wp2_with fail
          go_roundw
          case rel => exact ⟨k + 1, s', m', F', by go_num, by omega, HP10.out⟩
          case measure => simp [intOf]; omega
    · have hke : k = n := by omega
      subst hke
      go_wp2_with fail
      go_ret
      exact ⟨rfl, (HS.out.then HP2.out.st (by simp)).below'⟩
end Go.Proofs.Ytdbhldlgfchjpaa
