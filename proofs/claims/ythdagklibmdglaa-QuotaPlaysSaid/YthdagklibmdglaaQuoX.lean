/- QuotaPlays: the walk. -/
import Derived.Test.YthdagklibmdglaaQuoW
import Derived.Test.YthdagklibmdglaaQuoY
import Derived.Test.YthdagklibmdglaaMarks
import Derived.Deep.CutBlock
import Derived.Test.YthdagklibmdglaaRelV
namespace Go.Proofs.Ythdagklibmdglaa
set_option linter.unusedVariables false
set_option linter.unusedSimpArgs false
open Go.RowKit Go.Maps
attribute [local go_sem] Oper.semAt_some
theorem Try.infoStr : (Try.prog.info? 9).map (fun i => (i.zero, i.size, i.bytes)) = some (some (.string { data := #[] }), 1, 16) := by kernel_rfl
theorem take_mem {L : List ByteArray} {j : Nat} {s t : ByteArray} (hj : j < L.length) (hs : L.getD j ⟨#[]⟩ = s) : t ∈ L.take (j + 1) ↔ (t ∈ L.take j ∨ s = t) := by
  have h1 : L[j] = s := by rw [← hs]; simp [List.getD, hj]
  rw [← List.take_append_getElem hj, h1]
  simp [eq_comm]
set_option maxRecDepth 100000 in
set_option maxHeartbeats 4000000 in
theorem qplays_in (each : Int) (a : Option Addr) (cap : Nat) (l : List Ac) (w : World) (hA : Acts w a l) (h : l.length ≤ 80) (he : 0 ≤ each ∧ each ≤ 128) :
    Calls Try.prog 4 #[.int .i64 each, .slice a l.length cap] w fun e w' => e = .returned (.bool true) ∧ Step [] w w' := by
  have HA := Lib.hid hA
  obtain ⟨n, hn⟩ : ∃ n, l.length = n := ⟨_, rfl⟩
  have HN := Lib.hid hn
  rw [hn] at h ⊢
  have q1 : ((80 : Int) < (n : Int)) = False := by simp; omega
  obtain ⟨W0, eb, rb, hW0, heb, hrb, hbe, hbr, hs0⟩ := qplays_w0 w each
  have HW := Lib.hid (And.intro hW0 (And.intro heb hrb))
  have HB := Lib.hid (And.intro hbe (And.intro hbr hs0))
  have HE := Lib.hid he
  clear hA hn hW0 heb hrb hbe hbr hs0 he
  refine calls_of_wp_marks Try.func4 rfl ?_
  simp only [Try.ntmps4, List.size_toArray, List.length_cons, List.length_nil, Nat.reduceAdd, Nat.reduceSub, Array.replicate_succ, Array.replicate_zero, List.push_toArray, List.append_toArray, List.nil_append, List.cons_append]
  go_wp2_with (rw [HW.out.1, HW.out.2.2, HW.out.2.1])
  refine (lives_any _).mono ?_
  rintro e w1 ⟨rfl, hs⟩
  have HS := Lib.hid hs
  have c0 := (HB.out.1.step hs (by simp)).cell 0
  simp only [List.getElem?_toArray, List.getElem?_cons_zero] at c0
  clear hs
  go_wp2_with fail
  refine (new_yes each w1 HE.out.1 HE.out.2).mono ?_
  rintro e w2 ⟨tb, hb, mb, rfl, hL, hs, o1, o2, o3⟩
  have HL := Lib.hid (And.intro hL (And.intro hs (And.intro o1 (And.intro o2 o3))))
  have c0 := ((HB.out.1.step HS.out (by simp)).step hs (by simp)).cell 0
  simp only [List.getElem?_toArray, List.getElem?_cons_zero] at c0
  have p1 : ¬ each < 0 := by have := HE.out; omega
  have p2 : ¬ 128 < each := by have := HE.out; omega
  clear hL hs o1 o2 o3
  have hmm := @run_makeMap Try.prog
  go_wp2_with fail
  obtain ⟨B, e1, e2, e3, e4, e5, e6, e7, e8, hkb, hrb, hwr, hQ⟩ := qplays_start HB.out.2.2 HB.out.1 HB.out.2.1 HW.out.2.1 HW.out.2.2 HS.out HL.out.2.1 HL.out.1 HL.out.2.2.1 HL.out.2.2.2.1 HL.out.2.2.2.2
  rw [show ((((w2.alloc (.cells #[.slice none 0 0] 33)).alloc (.map #[] 0)).alloc (.map #[] 0)).alloc (.cells #[.map (some (w2.heap.size + 1))] 34)).alloc (.cells #[.map (some (w2.heap.size + 2))] 34) = qW3 w2 from rfl]
  obtain ⟨W3, hW3⟩ : ∃ W, qW3 w2 = W := ⟨_, rfl⟩
  rw [hW3] at hQ ⊢
  rw [← e5, show B.xb + 1 = B.yb from by rw [e5, e6], ← e2, ← e1, ← e7, ← e8]
  have HQ := Lib.hid hQ
  have HKB := Lib.hid (And.intro hkb (And.intro hrb hwr))
  clear hQ hkb hrb hwr e1 e2 e3 e4 e5 e6 e7 e8 hW3 HL HS HB HW c0 p1 p2
  go_loopw [55] (fun y wr => ∃ (i : Nat) (f fm g : ByteArray → Option Int) (L : List ByteArray) (v : Value), y = .int .i64 (i : Int) ∧ i ≤ n ∧ QK w B each (2 * i) f g fm g L v [] wr ∧ Inv i f fm g L) (fun y _ => n - (intOf y).toNat)
  case atStart => exact ⟨0, _, _, _, _, _, rfl, Nat.zero_le _, HQ.out, Inv.start⟩
  case round =>
    obtain ⟨i, f, fm, g, L, v, rfl, hi, hQ, hI⟩ := hrel
    have HI := Lib.hid hI
    by_cases hlt : i < n
    · obtain ⟨b, off, rfl, hbl, c0, c1, c2, hsz⟩ := HA.out i (by rw [HN.out]; exact hlt)
      obtain ⟨x, hx⟩ : ∃ x, l.getD i ac0 = x := ⟨_, rfl⟩
      rw [hx] at c0 c1 c2 hsz
      obtain ⟨kind, num, name⟩ := x
      dsimp only at c0 c1 c2 hsz
      have d0 := (hQ.st.cell hbl (by simp)).trans c0
      have d1 := (hQ.st.cell hbl (by simp)).trans c1
      have d2 := (hQ.st.cell hbl (by simp)).trans c2
      have p1 : (i : Int) < (n : Int) := by omega
      have hbk := Blk.new wr #[.int .i64 kind, .int .i64 num, .string name] 36
      have hQ2 := hQ.add ((Step.refl [] wr).alloc (.cells #[.int .i64 kind, .int .i64 num, .string name] 36)) (Nat.le_refl _) hbk
      obtain ⟨W, hW⟩ : ∃ W, wr.alloc (.cells #[.int .i64 kind, .int .i64 num, .string name] 36) = W := ⟨_, rfl⟩
      obtain ⟨ab, hab⟩ : ∃ b, wr.heap.size = b := ⟨_, rfl⟩
      have hrbl : B.rb < ab := by rw [← hab]; exact hQ.rbox.lt
      have hkbl : B.kb < ab := by rw [← hab]; exact hQ.kbox.lt
      rw [hW, hab] at hQ2
      have HQ2 := Lib.hid hQ2
      have HWW := Lib.hid (And.intro hW hab)
      have HSZ := Lib.hid hsz
      clear c0 c1 c2 hx hbk hQ2 hW hab hQ HQ hsz
      obtain ⟨F, hM⟩ := HQ2.out.mo
      obtain ⟨ao, cm, rfl⟩ := hM.form
      obtain ⟨N, hNN⟩ : ∃ N, L.length = N := ⟨_, rfl⟩
      have HNN := Lib.hid hNN
      have HM := Lib.hid hM
      obtain ⟨k0, x0, y0, z0, z1, z2⟩ := HQ2.out.cells
      rw [hNN] at k0
      clear hM hNN hI
      by_cases h40 : 40 < name.size
      · have hr0 := HQ2.out.rbox.cell 0
        have hrf := HQ2.out.rbox.free 0
        simp only [List.getElem?_toArray, List.getElem?_cons_zero] at hr0
        have hb3 := (HQ2.out.rbox.set 0 (.bool true)).cell 0
        have p4 : (40 : Int) < (name.size : Int) := by omega
        go_wp2_with (rw [HWW.out.1, HWW.out.2])
        exact ⟨.bool true, qplays_res rfl hb3, rfl, HQ2.out.st.then ((Step.refl [B.rb] W).setCell (.inl (by simp)) 0 _) (fun k hk => .inr (by simp at hk; have := HKB.out.2.2; omega))⟩
      · have p4 : ¬ (40 : Int) < (name.size : Int) := by omega
        go_wp2_with (rw [HWW.out.1, HWW.out.2])
        clear d0 d1 d2 HWW
        have h16 : N ≤ 16 := by rw [← HNN.out]; exact HI.out.l16
        go_loopw [13, 65] (fun k y wx => ∃ (j : Nat) (q : Bool), y = .int .i64 (j : Int) ∧ j ≤ N ∧ wx = W ∧ k = .bool q ∧ (q = true ↔ name ∈ L.take j)) (fun _ y _ => N - (intOf y).toNat)
        case atStart => exact ⟨0, false, rfl, Nat.zero_le _, rfl, rfl, by simp⟩
        case round =>
          obtain ⟨j, q, rfl, hj, hwx, rfl, hq⟩ := hrel
          have HQQ := Lib.hid hq
          clear hq
          rw [hwx]
          clear hwx
          by_cases hjl : j < N
          · obtain ⟨b', rfl, hc⟩ := HM.out.at rfl j (by rw [HNN.out]; exact hjl)
            obtain ⟨s, hs⟩ : ∃ s, L.getD j ⟨#[]⟩ = s := ⟨_, rfl⟩
            have HMem := Lib.hid (take_mem (t := name) (by rw [HNN.out]; exact hjl) hs)
            rw [hs] at hc
            have hse := str_eq s name
            have q1 : (j : Int) < (N : Int) := by omega
            have q2 : (0 : Int) ≤ (j : Int) := by omega
            cases q with
            | true =>
              clear hse hs
              go_wp2_with fail
              go_roundw
              case rel => exact ⟨j + 1, true, by go_num, hjl, by trivial, rfl, by rw [HMem.out, ← HQQ.out]; simp⟩
              case measure => simp [intOf]; omega
            | false =>
              obtain ⟨q, hq⟩ : ∃ q, decide (s = name) = q := ⟨_, rfl⟩
              rw [hq] at hse
              have HD := Lib.hid hq
              clear hs hq
              go_wp2_with fail
              go_roundw
              case rel => exact ⟨j + 1, q, by go_num, hjl, by trivial, rfl, by rw [HMem.out, ← HQQ.out, ← HD.out]; simp⟩
              case measure => simp [intOf]; omega
          · obtain rfl : N = j := by omega
            have q1 : ¬ (N : Int) < (N : Int) := by omega
            have HKN := Lib.hid (show q = true ↔ name ∈ L from by rw [HQQ.out, show L.take N = L from by rw [← HNN.out]; exact List.take_length])
            clear HQQ
            go_upto_block 4 with fail
            have hlo : N < 16 → q = false → name ∉ L := fun _ h hm => by have := HKN.out.2 hm; rw [h] at this; cases this
            have HLO := Lib.hid hlo
            have hgn : q = false → g name = none := fun h => by
              cases e : g name with
              | none => rfl
              | some z => have := HKN.out.2 ((HI.out.told.mem name).1 (by rw [e]; simp)); rw [h] at this; cases this
            have HGN := Lib.hid hgn
            have hgy : q = true → g name = none → L.length < 16 := fun h e => absurd ((HI.out.told.mem name).2 (HKN.out.1 h)) (by rw [e]; simp)
            have HGY := Lib.hid hgy
            clear hlo hgn hgy
            go_cut [16, 17] from 79 to 166 (fun _ _ wx => ∃ (f' fm' g' : ByteArray → Option Int) (L' : List ByteArray) (v' : Value), QK w B each (2 * (i + 1)) f' g' fm' g' L' v' [(ab, .cells #[.int .i64 kind, .int .i64 num, .string name] 36 (0, 0))] wx ∧ Inv (i + 1) f' fm' g' L')
            case first =>
              by_cases hk0 : kind = 0
              · subst hk0
                by_cases hgood : 0 ≤ num ∧ num ≤ 128
                · cases q with
                  | true =>
                    go_wp2_with (first
                      | (at_mapUpdate; refine wpList_store sK elN rfl _ _ _ 34 3 rfl Try.underlying34 rfl HM.out.most (by unfold maxLen; omega) name rfl HSZ.out num rfl ?_; intro w4 hm4 hs4
                         have HQ4 := Lib.hid (HQ2.out.mostStored (m := 2 * i + 1) (by omega) hm4 hs4)
                         obtain ⟨k4, x4, y4, z40, z41, z42⟩ := HQ4.out.cells)
                      | (go_at_call 13; refine (lset_any name num L w4 HQ4.out.lg HI.out.told HSZ.out hgood.1 hgood.2 (HGY.out (by trivial)) (by omega)).mono ?_; rintro e w7 ⟨rfl, hl7, hs7⟩
                         have HQ7 := Lib.hid (HQ4.out.led (F := [B.mb]) (by simp) hs7 (by omega) hl7)))
                    go_meet
                    exact ⟨_, _, _, _, _, HQ7.out, (HI.out.mono (by omega)).set num (HKN.out.1 (by trivial))⟩
                  | false =>
                    by_cases h16f : 16 ≤ N
                    · have HS := Lib.hid (lset_full name num L W HQ2.out.lg HI.out.told HSZ.out hgood.1 hgood.2 (HGN.out (by trivial)) (by rw [HNN.out]; exact h16f))
                      have q3 : (16 : Int) ≤ (N : Int) := by omega
                      go_wp2_with (go_at_call 13; refine HS.out.mono ?_; rintro e w7 ⟨rfl, rfl⟩)
                      go_meet
                      exact ⟨_, _, _, _, _, HQ2.out.mono (by omega), HI.out.mono (by omega)⟩
                    · obtain ⟨i0, hi0, hz0, hz1, hz2⟩ := info_parts Try.infoStr
                      have q3 : ¬ (16 : Int) ≤ (N : Int) := by omega
                      have hsr := (Blk.new W #[.string name] 9)
                      have HSrc := Lib.hid (show ∀ ad : Addr, (some (⟨W.heap.size, 0, none⟩ : Addr)) = some ad → ∀ (j : Nat) (u : Value), [Value.string name][j]? = some u → (W.alloc (.cells #[.string name] 9)).cell? (ad.add j) = some u from by
                        intro ad he j u hu
                        injection he with he
                        subst he
                        rw [add_plain, Nat.zero_add, hsr.cell j]
                        simpa using hu)
                      have hlow := HQ2.out.st.size
                      have HRow := Lib.hid (show W.ownsRow w.heap.size 9 1 (.slice ao N cm) N (L.map Value.string) from by have := HM.out.row; rwa [HNN.out] at this)
                      clear hsr
                      go_wp2_with (at_builtin; go_loud (refine wpList_append_sep rfl (.tmp 108) (.tmp 111) 33 rfl w.heap.size 9 i0 _ 1 16 Try.underlying33 hi0 hz0 hz1 hz2 rfl (by decide) _ N (L.map Value.string) rfl (HRow.out.alloc _) (some ⟨W.heap.size, 0, none⟩) 1 1 [.string name] rfl (fun h => by cases h) rfl HSrc.out (by simp [Value.oneCell']) (by unfold maxLen; omega) (by omega) (by rw [World.size_alloc]; omega) ?_))
                      intro v7 w7 ho7 hg7 hf7
                      obtain ⟨a7, c7, rfl⟩ : ∃ a c, v7 = .slice a (N + 1) c := by
                        rcases ho7.2 with ⟨h1, h2⟩ | ⟨g, c, cur, h1, _⟩
                        · omega
                        · exact ⟨_, c, h1⟩
                      have hG := HQ2.out.grow (by
                        intro hm
                        simp only [List.mem_cons, List.map_cons, List.map_nil, List.not_mem_nil, or_false] at hm
                        have h1 := HKB.out.1
                        simp only [List.mem_cons, List.not_mem_nil, or_false] at h1
                        rcases hm with h | h | h | h | h
                        · exact h1 (.inl h)
                        · exact h1 (.inr (.inl h))
                        · exact h1 (.inr (.inr (.inl h)))
                        · exact h1 (.inr (.inr (.inr h)))
                        · omega) ((Step.refl [] W).alloc (.cells #[.string name] 9)) (by rw [HNN.out]; exact ho7) (by rw [HNN.out]; exact hg7) (by rw [HNN.out]; exact hf7)
                      have k7 := hG.1.cell 0
                      have f7 := hG.1.free 0
                      simp only [List.getElem?_toArray, List.getElem?_cons_zero] at k7
                      obtain ⟨W8, hW8⟩ : ∃ W8, w7.setCell ⟨B.kb, 0, none⟩ (.slice a7 (N + 1) c7) = W8 := ⟨_, rfl⟩
                      rw [hW8] at hG
                      have HQ8 := Lib.hid hG.2
                      have HW8 := Lib.hid hW8
                      obtain ⟨k8, x8, y8, z80, z81, z82⟩ := hG.2.cells
                      obtain ⟨F8, hM8⟩ := hG.2.mo
                      have HM8 := Lib.hid hM8
                      clear hG hW8 hM8 ho7 hg7 hf7 HRow HSrc k0 x0 y0 z0 z1 z2
                      go_wp2_with (first
                        | rw [HW8.out]
                        | (at_mapUpdate; refine wpList_store sK elN rfl _ _ _ 34 3 rfl Try.underlying34 rfl HM8.out.most (by unfold maxLen; omega) name rfl HSZ.out num rfl ?_; intro w4 hm4 hs4
                           have HQ4 := Lib.hid (HQ8.out.mostStored (m := 2 * i + 1) (by omega) hm4 hs4)
                           obtain ⟨k4, x4, y4, z40, z41, z42⟩ := HQ4.out.cells)
                        | (go_at_call 13; refine (lset_any name num L w4 HQ4.out.lg HI.out.told HSZ.out hgood.1 hgood.2 (fun _ => by rw [HNN.out]; omega) (by omega)).mono ?_; rintro e w7 ⟨rfl, hl7, hs7⟩
                           have HQ7 := Lib.hid (HQ4.out.led (F := [B.mb]) (by simp) hs7 (by omega) hl7)))
                      go_meet
                      exact ⟨_, _, _, _, _, HQ7.out, (HI.out.mono (by omega)).tell num (HLO.out (by omega) (by trivial)) HSZ.out (by rw [HNN.out]; omega)⟩
                · have HS := Lib.hid (lset_bad (tb := B.tb) name num W hgood)
                  by_cases hneg : num < 0
                  · go_wp2_with (go_at_call 13; refine HS.out.mono ?_; rintro e w7 ⟨rfl, rfl⟩)
                    go_meet
                    exact ⟨_, _, _, _, _, HQ2.out.mono (by omega), HI.out.mono (by omega)⟩
                  · have hpos : 128 < num := by omega
                    go_wp2_with (go_at_call 13; refine HS.out.mono ?_; rintro e w7 ⟨rfl, rfl⟩)
                    go_meet
                    exact ⟨_, _, _, _, _, HQ2.out.mono (by omega), HI.out.mono (by omega)⟩
              · by_cases hk12 : kind = 1 ∨ kind = 2
                · have hnn : Nonempty (ClsW (Step [] W.drew)) := ⟨⟨_, Step.refl _ _⟩⟩
                  have HCls := Lib.hid (fun y : ClsW (Step [] W.drew) => HQ2.out.step ((Step.refl [] W).drew.then y.ok (by simp)))
                  have hMoC : ∀ y : ClsW (Step [] W.drew), Mo y.val F w.heap.size (.slice ao L.length cm) B.hx B.my (2 * i) L fm g := fun y => HM.out.step ((Step.refl [] W).drew.then y.ok (by simp)) (fun k _ => List.not_mem_nil)
                  have hMC := fun y : ClsW (Step [] W.drew) => may_any name y.val B.kb B.yb B.eb each (HCls.out y).kbox (HCls.out y).ybox (HCls.out y).ebox (hMoC y) HI.out.told HI.out.l16 HSZ.out
                  have hk := fun y : ClsW (Step [] W.drew) => (hMoC y).look name HSZ.out
                  obtain ⟨X, hX⟩ : ∃ X, hasV fm name = X := ⟨_, rfl⟩
                  obtain ⟨Y, hY⟩ : ∃ Y, mayV each g name = Y := ⟨_, rfl⟩
                  have b0 : 0 ≤ X := by rw [← hX]; exact HI.out.nn name
                  have b1 : X ≤ 80 := by have := HI.out.bd name; rw [hX] at this; omega
                  have hfX : hasV f name = X := by rw [HI.out.same, hX]
                  rw [hX] at hk
                  rw [hY] at hMC
                  have HMC := Lib.hid hMC
                  have HX := Lib.hid (And.intro hX (And.intro hY hfX))
                  have xC := fun y : ClsW (Step [] W.drew) => (HCls.out y).cells.2.1
                  have zC := fun y : ClsW (Step [] W.drew) => (HCls.out y).cells.2.2.2.2.2
                  clear hX hY hfX hMC hMoC
                  by_cases hYX : Y ≤ X
                  · rcases hk12 with rfl | rfl
                    all_goals
                      go_upto_region 37 with fail
                      refine region_cls (G := Step [] W.drew) (by kernel_rfl) (by kernel_rfl) (Step.refl _ _) ?_
                      repeat (go_big_quiet_step ((go_at_call 12; exact cls_call ((HMC.out _).mono fun e w3 h => ⟨h.1, h.2 ▸ ClsW.ok _⟩))))
                      refine wpQuiet_nil ?_
                      rintro w5 ⟨⟨w5i, hw5⟩, he⟩
                      have he' : w5 = w5i := he
                      subst he'
                      clear he
                      have HQ5 := Lib.hid (HQ2.out.step ((Step.refl [] W).drew.then hw5 (by simp)))
                      obtain ⟨k5, x5, y5, z50, z51, z52⟩ := HQ5.out.cells
                      go_wp2_with (go_at_call 10; refine (ltake_no name _ HQ5.out.lg HSZ.out (by rw [HX.out.2.2, HX.out.2.1]; omega)).mono ?_; rintro e w7 ⟨rfl, rfl⟩)
                      go_meet
                      exact ⟨_, _, _, _, _, HQ5.out.mono (by omega), HI.out.mono (by omega)⟩
                  · rcases hk12 with rfl | rfl
                    all_goals
                      go_upto_region 37 with fail
                      refine region_cls (G := Step [] W.drew) (by kernel_rfl) (by kernel_rfl) (Step.refl _ _) ?_
                      repeat (go_big_quiet_step ((go_at_call 12; exact cls_call ((HMC.out _).mono fun e w3 h => ⟨h.1, h.2 ▸ ClsW.ok _⟩))))
                      refine wpQuiet_nil ?_
                      rintro w5 ⟨⟨w5i, hw5⟩, he⟩
                      have he' : w5 = w5i := he
                      subst he'
                      clear he
                      have HQ5 := Lib.hid (HQ2.out.step ((Step.refl [] W).drew.then hw5 (by simp)))
                      obtain ⟨k5, x5, y5, z50, z51, z52⟩ := HQ5.out.cells
                      obtain ⟨F5, hM5⟩ := HQ5.out.mo
                      have HM5 := Lib.hid hM5
                      have hk5 := hM5.look name HSZ.out
                      rw [HX.out.1] at hk5
                      clear hM5
                      go_wp2_with (first
                        | (at_mapUpdate; refine wpList_store sK elN rfl _ _ _ 34 3 rfl Try.underlying34 rfl HM5.out.has (by unfold maxLen; omega) name rfl HSZ.out (X + 1) rfl ?_; intro w4 hm4 hs4
                           have HQ4 := Lib.hid (HQ5.out.hasStored (m := 2 * i + 1) (by omega) hm4 hs4)
                           obtain ⟨k4, x4, y4, z40, z41, z42⟩ := HQ4.out.cells)
                        | (go_at_call 10; refine (ltake_any name _ HQ4.out.lg HSZ.out (by omega) (by rw [HX.out.2.2]; exact b0) (by rw [HX.out.2.2]; omega) (by rw [HX.out.2.2, HX.out.2.1]; omega)).mono ?_; rintro e w7 ⟨rfl, hl7, hs7⟩
                           have HQ7 := Lib.hid (HQ4.out.led (F := [B.hb]) (by simp) hs7 (by omega) hl7)))
                      go_meet
                      exact ⟨_, _, _, _, _, HQ7.out, by have := HI.out.take name; rwa [HX.out.1] at this⟩
                · by_cases hk3 : kind = 3
                  · subst hk3
                    have hk := HM.out.look name HSZ.out
                    obtain ⟨X, hX⟩ : ∃ X, hasV fm name = X := ⟨_, rfl⟩
                    have b0 : 0 ≤ X := by rw [← hX]; exact HI.out.nn name
                    have b1 : X ≤ 80 := by have := HI.out.bd name; rw [hX] at this; omega
                    have hfX : hasV f name = X := by rw [HI.out.same, hX]
                    rw [hX] at hk
                    have HX := Lib.hid (And.intro hX hfX)
                    clear hX hfX
                    by_cases hX0 : X = 0
                    · subst hX0
                      go_wp2_with (go_at_call 11; refine (lgive_no name _ HQ2.out.lg HSZ.out HX.out.2).mono ?_; rintro e w7 ⟨rfl, rfl⟩)
                      go_meet
                      exact ⟨_, _, _, _, _, HQ2.out.mono (by omega), HI.out.mono (by omega)⟩
                    · have hX1 : (X == 0) = false := by simpa using hX0
                      go_wp2_with (first
                        | (at_mapUpdate; refine wpList_store sK elN rfl _ _ _ 34 3 rfl Try.underlying34 rfl HM.out.has (by unfold maxLen; omega) name rfl HSZ.out (X - 1) rfl ?_; intro w4 hm4 hs4
                           have HQ4 := Lib.hid (HQ2.out.hasStored (m := 2 * i + 1) (by omega) hm4 hs4)
                           obtain ⟨k4, x4, y4, z40, z41, z42⟩ := HQ4.out.cells)
                        | (go_at_call 11; refine (lgive_any name _ HQ4.out.lg HSZ.out (by omega) (by rw [HX.out.2]; omega) (by rw [HX.out.2]; omega)).mono ?_; rintro e w7 ⟨rfl, hl7, hs7⟩
                           have HQ7 := Lib.hid (HQ4.out.led (F := [B.hb]) (by simp) hs7 (by omega) hl7)))
                      go_meet
                      exact ⟨_, _, _, _, _, HQ7.out, by have := (HI.out.mono (j := i + 1) (by omega)).give name (by rw [HX.out.1]; exact hX0); rwa [HX.out.1] at this⟩
                  · have e0 : (kind == 0) = false := by simpa using hk0
                    have e1 : (kind == 1) = false := by simp; exact fun e => hk12 (.inl e)
                    have e2 : (kind == 2) = false := by simp; exact fun e => hk12 (.inr e)
                    have e3 : (kind == 3) = false := by simpa using hk3
                    have b0 := HI.out.nn name
                    have b1 := HI.out.bd name
                    have hse := HI.out.same name
                    go_wp2_with (first
                      | (go_at_call 14; refine (lcopy_any _ _ _ _ _ _ _ _ HQ2.out.lg).mono ?_; rintro e w7 ⟨tc, hc, mc, rfl, hl7, hs7, o1, o2, o3⟩
                         have HQ7 := Lib.hid (HQ2.out.step hs7)
                         obtain ⟨k7, x7, y7, z70, z71, z72⟩ := HQ7.out.cells)
                      | (go_at_call 10; refine (ltake_some name _ hl7 HSZ.out (by omega) (by omega) (by omega)).mono ?_; rintro e w8 ⟨x8, f8, rfl, hl8, hs8⟩
                         have hS8 := hs7.then hs8 (fun k hk => .inr (by simp at hk; omega))
                         have HQ8 := Lib.hid (HQ2.out.step hS8)
                         obtain ⟨k8, x8, y8, z80, z81, z82⟩ := HQ8.out.cells)
                      | (go_at_call 13; refine (lset_some name 0 _ hl8 HI.out.told HSZ.out (by omega) (by omega) (by omega)).mono ?_; rintro e w9 ⟨x9, g9, rfl, hl9, hs9⟩
                         have HQ9 := Lib.hid (HQ2.out.step (hS8.then hs9 (fun k hk => .inr (by simp at hk; omega))))))
                    go_meet
                    exact ⟨_, _, _, _, _, HQ9.out.mono (by omega), HI.out.mono (by omega)⟩
            case rest =>
              obtain ⟨f', fm', g', L', v', hQc, hIc⟩ := hcut
              have HQc := Lib.hid hQc
              have HIc := Lib.hid hIc
              have hnn := hQc.clsne
              have HAt := Lib.hid (hQc.at48 hIc HSZ.out)
              have xC := fun y => (HAt.out y).1
              have zC := fun y => (HAt.out y).2.1
              have hk := fun y => (HAt.out y).2.2.1
              clear hQc hIc k0 x0 y0 z0 z1 z2 HM HQ2 HI
              obtain ⟨X, hX⟩ : ∃ X, hasV fm' name = X := ⟨_, rfl⟩
              obtain ⟨Y, hY⟩ : ∃ Y, mayV each g' name = Y := ⟨_, rfl⟩
              rw [hX] at hk HAt
              rw [hY] at HAt
              go_upto_region 48 with fail
              refine region_cls (G := Step [] (World.drew _)) (by kernel_rfl) (by kernel_rfl) (Step.refl _ _) ?_
              repeat (go_big_quiet_step ((first
                | (go_at_call 9; exact (HAt.out _).2.2.2.1)
                | (go_at_call 15; exact (HAt.out _).2.2.2.2.1)
                | (go_at_call 12; exact (HAt.out _).2.2.2.2.2))))
              refine wpQuiet_nil ?_
              rintro w5 ⟨⟨w5i, hw5⟩, he⟩
              have he' : w5 = w5i := he
              subst he'
              clear he
              have HQ5 := Lib.hid (HQc.out.step ((Step.refl [] _).drew.then hw5 (by simp)))
              clear xC zC hk HAt hnn
              go_wp2_with fail
              go_roundw
              case rel => exact ⟨i + 1, _, _, _, _, _, by go_num, hlt, HQ5.out.drop, HIc.out⟩
              case measure => simp [intOf]; omega
    · obtain rfl : n = i := by omega
      have p1 : ¬ (n : Int) < (n : Int) := by omega
      obtain ⟨F, hM⟩ := hQ.mo
      obtain ⟨ks, hks⟩ := hQ.lg.keys
      have HM := Lib.hid hM
      have HQ2 := Lib.hid hQ
      have HK := Lib.hid hks
      have x0 : wr.cell? ⟨B.xb, 0, none⟩ = some (.map (some B.hx)) := hQ.xbox.cell 0
      clear hM hQ hks hI HQ HA
      have hxl := HM.out.has.lt
      go_wp2_with (at_range; refine wpList_rng sK elN rfl _ _ 3 rfl Try.underlying34 rfl HM.out.has ?_; intro w3 cnt3 hR3 hs3)
      go_loopw [18] (fun s wx => ∃ (left : ByteArray → Bool) (c : Nat), MapR sK elN wx B.hx wr.heap.size (2 * n) fm left c ∧ s = .int .i64 (cq left ks : Int) ∧ Step [] wr wx) (fun _ wx => wx.rangeLeft B.hx wr.heap.size)
      case atStart =>
        refine ⟨_, cnt3, hR3, ?_, hs3⟩
        rw [cq_start (fun x hx => ?_)]
        · rfl
        · have := (ks_has HI.out HK.out x hx).1
          unfold hasV at this
          cases e : fm ⟨x.toArray⟩ with
          | none => rw [e] at this; simp at this
          | some z => rfl
      case round =>
        obtain ⟨left, c, hR, rfl, hs⟩ := hrel
        have HR := Lib.hid hR
        have HS := Lib.hid hs
        clear hR hs hR3 hs3
        go_wp2_with (at_next; refine wpList_nxt sK elN rfl _ rfl rfl HR.out ?_ ?_)
        · intro _ hl0
          have hce := cq_end (left := left) (ks := ks) (fun x hx => hl0 ⟨x.toArray⟩ (ks_has HI.out HK.out x hx).2)
          rw [hce]
          clear hl0 hce
          have HQ3 := Lib.hid (HQ2.out.step HS.out)
          clear HM HQ2 HR HS
          have hlk := len_le HQ3.out.lg HK.out
          obtain ⟨N, hN⟩ : ∃ N, ks.length = N := ⟨_, rfl⟩
          have HNN := Lib.hid hN
          rw [hN] at hlk ⊢
          clear hN
          obtain ⟨lb, w4, hlb, hw4, hPre, hLive, hQ0, hsw4, hrb4, hFacts⟩ := qi_start HQ3.out
          have HW4 := Lib.hid (And.intro hlb hw4)
          have HPre := Lib.hid hPre
          have HFa := Lib.hid (And.intro hLive (And.intro hQ0 (And.intro hsw4 hrb4)))
          have HFx := Lib.hid hFacts
          clear hlb hw4 hPre hLive hQ0 hsw4 hrb4 hFacts x0 hxl
          go_wp2_with fail
          refine (qall_box _ _).mono ?_
          rintro e w5 ⟨rfl, hw5⟩
          rw [HW4.out.2] at hw5
          subst hw5
          rw [World.size_alloc, World.size_alloc, HW4.out.1]
          go_wp2_with fail
          refine (wpIn_wide (n := 7)).1 ?_
          refine wpIn_range_sepG (gf := 19) (lb := #[.pointer (some ⟨lb + 2, 0, none⟩)]) rfl (by omega) rfl trivial (enters_of Try.func19 (by kernel_rfl) rfl)
            (qall_sep 6 (by omega) (lb + 2) B.tb B.hb B.mb (2 * n) (by omega) each f g ks HK.out) HPre.out (fun _ => rfl) HFa.out.1
            (QI [lb + 2, B.tb, B.hb, B.mb] lb (lb + 1) w5) (fun _ _ _ _ => False) (fun _ _ _ _ _ h hs hd => h.step hs hd) (fun _ _ _ h => h.live) (fun _ _ _ h => h.dj) (fun _ _ _ _ _ _ h => h.elim) (fun _ _ _ _ h => h.elim)
            _ HFa.out.2.1 ?gA ?assign ?body ?done (fun _ _ _ _ _ _ _ _ h => h.elim)
          case assign =>
            rintro l pre x A C K hI hK
            gi_wp2
            exact hK _ (Step.refl [] A)
          case body =>
            rintro l pre x A C hrec hlC hV hI
            obtain ⟨x0, fx2, fx3, fx4⟩ := HFx.out _ _ _ hI
            have hxk : x ∈ ks := hV.subset (by simp)
            obtain ⟨hpos, hsz⟩ := ks_has HI.out HK.out x hxk
            have hlk2 := fx2 ⟨x.toArray⟩ hsz
            have hsame := HI.out.same ⟨x.toArray⟩
            have HNx := Lib.hid (hI.next x)
            obtain ⟨hC, hst, hno, hcb, last, hlb, hlast⟩ := hI
            have c1 := hcb.cell 0
            have g1 := hcb.free 0
            have l0 := hlb.cell 0
            have g0 := hlb.free 0
            simp only [List.getElem?_toArray, List.getElem?_cons_zero] at c1 l0
            have hles : 0 < pre.length → (Op.bytesLess (⟨x.toArray⟩ : ByteArray).toList (⟨last.toArray⟩ : ByteArray).toList || (⟨x.toArray⟩ : ByteArray).toList == (⟨last.toArray⟩ : ByteArray).toList) = false := fun hp => by
              rcases List.eq_nil_or_concat pre with rfl | ⟨p, y, rfl⟩
              · simp at hp
              · rw [Lib.toList_data, Lib.toList_data, hlast p y (by simp)]
                exact lt_last HK.out hV p (by simp)
            have hKb : pre.length ≤ ks.length := by have := hV.length_le; simp at this; omega
            rw [HNN.out] at hKb
            rw [hsame]
            obtain ⟨z, hz⟩ : ∃ z, hasV fm ⟨x.toArray⟩ = z := ⟨_, rfl⟩
            rw [hz] at hlk2 hpos ⊢
            obtain ⟨K, hK⟩ : ∃ K, pre.length = K := ⟨_, rfl⟩
            rw [hK] at c1 hles HNx hKb
            obtain ⟨sx, hsx⟩ : ∃ s, (⟨x.toArray⟩ : ByteArray) = s := ⟨_, rfl⟩
            obtain ⟨sl, hsl⟩ : ∃ s, (⟨last.toArray⟩ : ByteArray) = s := ⟨_, rfl⟩
            rw [hsx] at hlk2 hles HNx
            rw [show encStr x = Value.string sx from congrArg Value.string hsx]
            rw [hsl] at l0 hles
            have z0 : (z == 0) = false := by simp; omega
            have cne : lb ≠ lb + 1 := by omega
            clear hsx hsl hK hz hsame hC hst hno hcb hlb hlast hV hxk fx2 fx3 fx4 hsz
            by_cases hK0 : 0 < K
            · have hle2 := hles hK0
              have k1 : (0 : Int) < (K : Int) := by omega
              clear hles
              gi_wp2
              exact ⟨C, HNx.out.1, HNx.out.2, fun k hk => .inl hk⟩
            · have k1 : ¬ (0 : Int) < (K : Int) := by omega
              clear hles
              gi_wp2
              exact ⟨C, HNx.out.1, HNx.out.2, fun k hk => .inl hk⟩
          case done =>
            rintro D xs B' C hD hDC hxs hI hK
            subst hxs
            obtain ⟨x0, fx2, fx3, fx4⟩ := HFx.out _ _ _ hI
            obtain ⟨hC, hst, hno, hcb, last, hlb, hlast⟩ := hI
            have c1 := hcb.cell 0
            have r0 := fx3.cell 0
            have rf := fx3.free 0
            simp only [List.getElem?_toArray, List.getElem?_cons_zero] at c1 r0
            rw [HNN.out] at c1
            have HR3 := Lib.hid fx3
            have HS4 := Lib.hid fx4
            have HKK := Lib.hid hK
            have HD := Lib.hid hD
            clear hC hst hno hcb hlb hlast fx2 fx3 fx4 hK hD hDC x0
            go_wp2_with fail
            have hDr : D ≠ B.rb := by have := HD.out; have := HFa.out.2.2.2; omega
            have sA : Step [B.rb] B' (B'.setCell ⟨B.rb, 0, none⟩ (.bool true)) := (Step.refl _ B').setCell (.inl (by simp)) 0 _
            have hK' : (B'.setCell ⟨B.rb, 0, none⟩ (.bool true)).heap[D]? = some (.deferred (some [])) := (sA.block D (Array.getElem?_eq_some_iff.1 HKK.out).1 (by simpa using hDr)).trans HKK.out
            have hb3 := HR3.out.set 0 (.bool true)
            have sB : Step [D] (B'.setCell ⟨B.rb, 0, none⟩ (.bool true)) ((B'.setCell ⟨B.rb, 0, none⟩ (.bool true)).putObj D (.deferred none)) := step_put _
            have hc5 := (hb3.step sB (by simpa using fun e => hDr e.symm)).cell 0
            have hzw := HFa.out.2.2.1.size
            refine ⟨by simp, .inl ⟨_, _, rfl, run_takeDeferred hK', ?_⟩⟩
            refine ⟨.bool true, qplays_res rfl hc5, rfl, (HS4.out.then sA (fun k hk => .inr ?_)).then sB (fun k hk => .inr ?_)⟩
            · simp at hk
              have := HKB.out.2.2
              omega
            · simp at hk
              have := HD.out
              omega
        · intro x z w2 cnt2 hgx hlx hfx hR2 hlt2 hs2 hen
          rw [show elN.val z = Value.int .i64 z from rfl] at hen ⊢
          have HR2 := Lib.hid hR2
          have HS2 := Lib.hid (HS.out.then hs2 (fun k hk => by simp at hk; exact .inr (by omega)))
          have hle := cq_le left ks
          have hlk := len_le HQ2.out.lg HK.out
          have hzx : hasV fm x = z := by simp [hasV, hfx]
          have hp := ks_pos HI.out HK.out x hgx
          rw [hzx] at hp
          by_cases hz : 0 < z
          · have hc := cq_pop left x hlx HK.out.nodup (hp.2 hz)
            have HC := Lib.hid hc
            generalize cq left ks = y at *
            clear hR2 hs2 HS hp hc
            go_wp2_with fail
            go_roundw
            case rel => exact ⟨_, cnt2, HR2.out, by rw [HC.out]; simp, HS2.out⟩
            case measure => rw [HR2.out.cnt_eq, HR.out.cnt_eq]; exact hlt2
          · have hc := cq_skip left x (ks := ks) (fun h => hz (hp.1 h))
            have HC := Lib.hid hc
            generalize cq left ks = y at *
            clear hR2 hs2 HS hp hc
            go_wp2_with fail
            go_roundw
            case rel => exact ⟨_, cnt2, HR2.out, by rw [HC.out], HS2.out⟩
            case measure => rw [HR2.out.cnt_eq, HR.out.cnt_eq]; exact hlt2
end Go.Proofs.Ythdagklibmdglaa
