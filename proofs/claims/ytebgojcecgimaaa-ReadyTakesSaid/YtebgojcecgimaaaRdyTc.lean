/- ReadyTakes: the law's walk. -/
import Derived.Test.YtebgojcecgimaaaRdyTb
import Derived.Test.YtebgojcecgimaaaRelV
import Derived.Test.YtebgojcecgimaaaNums
import Derived.StillTailTactics
namespace Go.Proofs.Ytebgojcecgimaaa
set_option linter.unusedVariables false
set_option linter.unusedSimpArgs false
open Go.RowKit Go.Shelf
namespace Rd
theorem u16r {x : Int} (h : (Lit.int .u16 x).wf = true) : 0 ≤ x ∧ x ≤ 65535 := by
  simp [Lit.wf, IntKind.min, IntKind.max, IntKind.bits, IntKind.signed] at h
  omega
theorem quo4 {v : Int} (h0 : 0 ≤ v) (h1 : v ≤ 65535) : IntKind.u64.wrap (IntKind.u16.wrap (v.tdiv 4)) = v / 4 := by
  rw [Int.tdiv_eq_ediv_of_nonneg h0, IntKind.wrap_u16, IntKind.wrap_u64]
  omega
theorem tk_store {w8 w9 : World} {bl bo : Nat} {C : Array Value} {T : TypeId} (hB : Blk w9 bl C T) (hs : Step [] w8 w9) (hlo : w8.heap.size ≤ bo) (hne : bl ≠ bo) (a b c : Value) :
    Blk (((w9.setCell ⟨bo, 0, none⟩ a).setCell ⟨bo, 1, none⟩ b).setCell ⟨bo, 2, none⟩ c) bl C T ∧ Step [bl] w8 (((w9.setCell ⟨bo, 0, none⟩ a).setCell ⟨bo, 1, none⟩ b).setCell ⟨bo, 2, none⟩ c) :=
  ⟨((hB.set_ne bo 0 a hne).set_ne bo 1 b hne).set_ne bo 2 c hne, (((hs.mono (by simp)).setCell (.inr hlo) 0 a).setCell (.inr hlo) 1 b).setCell (.inr hlo) 2 c⟩
/-- a new variable for one -/
def SpOne (B : Nat) (v : Value) (w : World) : Prop := ∃ b, v = .pointer (some ⟨b, 0, none⟩) ∧ Blk w b #[.string ByteArray.empty, .int .i64 0, .int .u64 0] 33 ∧ B ≤ b
theorem SpOne.step {B : Nat} {v : Value} {w w' : World} (h : SpOne B v w) (hs : Step [] w w') : SpOne B v w' := by
  obtain ⟨b, h1, h2, h3⟩ := h
  exact ⟨b, h1, h2.step hs (by simp), h3⟩
theorem Try.alloc_one (ev : Operand → Value) (d : Option Tmp) (ty : TypeId) (pos : String) (aft : Array Edge) (g : Option (Nat × Bool)) (w : World) :
    oVal ((execOp ev ⟨d, .alloc 33, ty, pos, aft, g⟩).run Try.prog w) = some (.pointer (some ⟨w.heap.size, 0, none⟩), w.alloc (.cells #[.string ByteArray.empty, .int .i64 0, .int .u64 0] 33)) := by kernel_rfl
set_option maxRecDepth 100000 in
set_option maxHeartbeats 4000000 in
theorem takes_in (a : Option Addr) (cap : Nat) (z : List Int) (w : World) (hz : Nums .u16 w a z) (wz : ∀ x ∈ z, (Lit.int .u16 x).wf = true) (hlen : z.length ≤ 60) :
    Calls Try.prog 3 #[.slice a z.length cap] w fun e w' => e = .returned (.bool true) ∧ Step [] w w' := by
  have hg : ∀ i, i < z.length → 0 ≤ z.getD i 0 ∧ z.getD i 0 ≤ 65535 := fun i hi => u16r (wz _ (by rw [List.getD_eq_getElem?_getD, List.getElem?_eq_getElem hi]; simp))
  have HZ := Lib.hid (And.intro hz hg)
  obtain ⟨n, hn⟩ : ∃ n, z.length = n := ⟨_, rfl⟩
  have HN := Lib.hid hn
  rw [hn] at hlen ⊢
  clear hz wz hg hn
  have q1 : ((60 : Int) < (n : Int)) = False := by simp; omega
  go_enter Try.func3, Try.ntmps3
  go_wp2_with fail
  refine (lives_any w).mono ?_
  rintro e w1 ⟨rfl, hs⟩
  have HS := Lib.hid hs
  clear hs
  go_wp2_with fail
  refine (new_n w1).mono ?_
  rintro e w2 ⟨ra, rfl, h2⟩
  have H2 := Lib.hid h2
  clear h2
  go_wp2_with fail
  refine (new_n w2).mono ?_
  rintro e w3 ⟨rb, rfl, h3⟩
  have H3 := Lib.hid (Two.made H2.out h3)
  clear h3
  go_wp2_with fail
  go_loopw [30] (fun s wr => ∃ (i : Nat) (S T : Nat → List It) (Ix Jx : List Nat), s = .int .i64 (i : Int) ∧ i ≤ n ∧ Two w1 ra rb S T [] wr ∧ Puts z Ix S ∧ Puts z Jx T ∧ (∀ j, j ∈ Ix ↔ j < i) ∧ (∀ j, j ∈ Jx ↔ j < n ∧ n ≤ j + i) ∧ Ix.length = i ∧ Jx.length = i) (fun s _ => n - (intOf s).toNat)
  case atStart => exact ⟨0, _, _, [], [], rfl, Nat.zero_le _, H3.out, Puts.nil z, Puts.nil z, (fun j => by simp), (fun j => ⟨fun h => by simp at h, fun h => by omega⟩), rfl, rfl⟩
  case round =>
    obtain ⟨i, S, T, Ix, Jx, rfl, hi, hT, hA, hB, hI, hJ, hli, hlj⟩ := hrel
    have HT := Lib.hid hT
    have HA := Lib.hid (And.intro hA (And.intro hI hli))
    have HB := Lib.hid (And.intro hB (And.intro hJ hlj))
    clear hT hA hB hI hJ hli hlj
    by_cases hlt : i < n
    · obtain ⟨b, off, ha, hblt, hcell⟩ := (HZ.out.1.step (HS.out.then HT.out.st (by simp))) i (by rw [HN.out]; exact hlt)
      have hv := HZ.out.2 i (by rw [HN.out]; exact hlt)
      have hpe := prio_eq z i
      obtain ⟨v, hvv⟩ : ∃ v, z.getD i 0 = v := ⟨_, rfl⟩
      rw [hvv] at hcell hv hpe
      obtain ⟨v0, v1⟩ := hv
      have HPE := Lib.hid hpe
      have HVV := Lib.hid hvv
      have p1 : (i : Int) < (n : Int) := by omega
      subst ha
      clear hpe hvv
      go_wp2_with fail
      refine (name_any i (by omega) _).mono ?_
      rintro e w4 ⟨rfl, hs4⟩
      have HS4 := Lib.hid hs4
      clear hs4
      go_wp2_with fail
      rw [quo4 v0 v1]
      have HP := Lib.hid ((HT.out.step HS4.out).put (nm2 i) (prio z i) (v / 4) (prio_lt z i) (good_little (by rw [nm2_size]; omega)) (HA.out.1.has (by omega) (fun j hj => by have := (HA.out.2.1 j).1 hj; omega) (fun hm => by have := (HA.out.2.1 i).1 hm; omega))
        (by have := len_le (S := S) (prio_lt z i); have := HA.out.1.len; have := HA.out.2.2; omega))
      rw [HPE.out] at HP
      refine HP.out.mono ?_
      rintro e w5 ⟨rfl, h5, -⟩
      have ha5 := HA.out.1.add (i := i) (by omega) (fun j hj => by have := (HA.out.2.1 j).1 hj; omega) (fun hm => by have := (HA.out.2.1 i).1 hm; omega)
      rw [HVV.out] at ha5
      have H5 := Lib.hid (And.intro h5 ha5)
      clear h5 ha5 HP HS4
      -- the other row, from the end
      obtain ⟨b2, off2, ha2, hblt2, hcell2⟩ := (HZ.out.1.step (HS.out.then H5.out.1.st (by simp))) (n - 1 - i) (by rw [HN.out]; omega)
      cases ha2
      have hv2 := HZ.out.2 (n - 1 - i) (by rw [HN.out]; omega)
      have hpe2 := prio_eq z (n - 1 - i)
      obtain ⟨k, hk⟩ : ∃ k, n - 1 - i = k := ⟨_, rfl⟩
      rw [hk] at hv2 hpe2 hcell2
      obtain ⟨v2, hvv2⟩ : ∃ v, z.getD k 0 = v := ⟨_, rfl⟩
      rw [hvv2] at hcell2 hv2 hpe2
      obtain ⟨v20, v21⟩ := hv2
      have hkk : (n : Int) - 1 - (i : Int) = (k : Int) := by omega
      have hkn : (k : Int) < (n : Int) := by omega
      have HPE2 := Lib.hid (And.intro hpe2 (And.intro hvv2 hk))
      clear hpe2 hvv2 hk hcell hblt
      go_wp2_with fail
      have hne : Nonempty (ClsW (Step [] w5.drew)) := ⟨⟨_, Step.refl _ _⟩⟩
      have d1 : ∀ y : ClsW (Step [] w5.drew), y.val.cell? ⟨b, off + k, none⟩ = some (.int .u16 v2) := fun y => (y.ok.cell hblt2 (by simp)).trans hcell2
      refine wp_region_rel_tail (spV_law (.string (nm2 k))) 16 (by kernel_rfl) (by kernel_rfl) ?_
      simp only [List.take_succ_cons, List.take_zero, List.drop_succ_cons, List.drop_zero]
      refine wpR_pre (spV_law (.string (nm2 k))) anti_tail 3 _ _ _ ?_ rfl
      simp only [List.take_succ_cons, List.take_zero, List.drop_succ_cons, List.drop_zero]
      repeat (go_big_quiet_step (fail))
      refine wpQuiet_nil ?_
      refine wpR_callV 8 _ _ _ rfl (by rfl) rfl Try.func8 (by kernel_rfl) (by kernel_rfl) #[.int .i64 (k : Int)] (by simp [Act.eval]) (fun w1 hg => (name_any k (by omega) w1).mono (fun e w'' h => ⟨_, h.1, rfl, h.2⟩)) ?_
      rintro v3 ⟨_, _, hv3⟩
      unfold SpV at hv3
      subst hv3
      refine wpR_pre (spV_law (.string (nm2 k))) anti_tail 12 _ _ _ ?_ rfl
      simp only [List.take_succ_cons, List.take_zero, List.drop_succ_cons, List.drop_zero]
      go_simp
      repeat (go_big_quiet_step (fail))
      refine wpQuiet_nil ?_
      unfold wpR
      intro w7 hs7 hF7
      have HS7 := Lib.hid ((Step.refl [] w5).drew.then hs7 (by simp))
      clear hne hs7 hF7 d1 hcell2 hblt2
      have HP := Lib.hid ((H5.out.1.symm.step HS7.out).put (nm2 k) (prio z k) (v2 / 4) (prio_lt z k) (good_little (by rw [nm2_size]; omega)) (HB.out.1.has (by omega) (fun j hj => by have := (HB.out.2.1 j).1 hj; omega) (fun hm => by have := (HB.out.2.1 k).1 hm; omega))
        (by have := len_le (S := T) (prio_lt z k); have := HB.out.1.len; have := HB.out.2.2; omega))
      have e4 := quo4 v20 v21
      have HE4 := Lib.hid e4
      rw [HPE2.out.1] at HP
      go_wp2_with fail
      rw [HE4.out]
      refine HP.out.mono ?_
      rintro e w8 ⟨rfl, h8, -⟩
      have hb8 := HB.out.1.add (i := k) (by omega) (fun j hj => by have := (HB.out.2.1 j).1 hj; omega) (fun hm => by have := (HB.out.2.1 k).1 hm; omega)
      rw [HPE2.out.2.1] at hb8
      have H8 := Lib.hid (And.intro h8.symm hb8)
      clear h8 hb8 HP e4
      go_wp2_with fail
      go_roundw
      case rel =>
        have hkq := HPE2.out.2.2
        refine ⟨i + 1, _, _, i :: Ix, k :: Jx, by go_num, by omega, H8.out.1, H5.out.2, H8.out.2, fun j => ?_, fun j => ?_, by simp [HA.out.2.2], by simp [HB.out.2.2]⟩
        · rw [List.mem_cons, HA.out.2.1 j]; omega
        · rw [List.mem_cons, HB.out.2.1 j]; omega
      case measure => simp [intOf]; omega
    · obtain rfl : n = i := by omega
      have p1 : ¬ (n : Int) < (n : Int) := by omega
      have hpa : Puts z (List.range n) S := HA.out.1.congr (fun j => by rw [HA.out.2.1 j, List.mem_range]) (by rw [HA.out.2.2, List.length_range])
      have hpb : Puts z (List.range n) T := HB.out.1.congr (fun j => by rw [HB.out.2.1 j, List.mem_range]; omega) (by rw [HB.out.2.2, List.length_range])
      have hsm := hpa.same hpb (fun _ => Iff.rfl) HT.out.srt.1 HT.out.srt.2
      have HTk := Lib.hid (And.intro (Takes.first hpa HT.out.srt.1) hsm)
      clear hpa hpb hsm H3
      obtain ⟨bl, hbl⟩ : ∃ b, wr.heap.size = b := ⟨_, rfl⟩
      have hbk := Blk.new wr #[.string ByteArray.empty, .int .i64 (-1), .int .u64 0] 33
      have hs1 := (Step.refl [] wr).alloc (.cells #[.string ByteArray.empty, .int .i64 (-1), .int .u64 0] 33)
      have hT2 := HT.out.add hs1 (Nat.le_refl _) (by rw [World.size_alloc]; omega)
      rw [hbl] at hbk hT2
      have HK := Lib.hid (And.intro hT2 hbk)
      have HBL := Lib.hid hbl
      clear hbk hs1 hT2 hbl HA HB HT
      go_wp2_with fail
      rw [HBL.out]
      clear p1
      go_loopw [72] (fun s wr => ∃ (q : Nat) (S T : Nat → List It) (lp : Int) (lx : It), s = .int .i64 (q : Int) ∧ q ≤ n ∧ Two w1 ra rb S T [bl] wr ∧ (∀ p, p < 4 → S p = T p) ∧ Takes z n q S lp lx ∧ (-1 ≤ lp ∧ lp ≤ 3) ∧ Blk wr bl #[.string lx.1, .int .i64 lp, .int .u64 lx.2] 33) (fun s _ => n - (intOf s).toNat)
      case atStart => exact ⟨0, S, T, -1, (ByteArray.empty, 0), rfl, Nat.zero_le _, HK.out.1, HTk.out.2, HTk.out.1, by omega, HK.out.2⟩
      case round =>
        obtain ⟨q, S, T, lp, lx, rfl, hq, hT, hsm, hTk, hlp, hB⟩ := hrel
        have HQ := Lib.hid (And.intro hT (And.intro hsm (And.intro hTk (And.intro hlp hB))))
        clear hT hsm hTk hlp hB HTk HK
        by_cases hqn : q < n
        · have p1 : (q : Int) < (n : Int) := by omega
          have hqq := hqn
          clear hqn
          go_wp2_with fail
          refine (HQ.out.1.takeT HQ.out.2.2.1 hqq).mono ?_
          rintro e w5 ⟨i0, S', hi0, hhd, rfl, hTk', hah, htk, hT', hX⟩
          have hB5 : Blk w5 bl #[.string lx.1, .int .i64 lp, .int .u64 lx.2] 33 := (hX bl (by simp)).trans HQ.out.2.2.2.2
          have hTB := hT'.symm.take
          rw [← same_all HQ.out.2.1, hhd] at hTB
          have HTB := Lib.hid hTB
          have H5 := Lib.hid (And.intro hTk' (And.intro hah (And.intro htk hB5)))
          clear hhd hTk' hah htk hT' hX hB5 hTB
          go_wp2_with fail
          refine HTB.out.mono ?_
          rintro e w6 ⟨rfl, T', htk2, hT6, hX6⟩
          have H6 := Lib.hid (And.intro hT6.symm (And.intro (same_taken HQ.out.2.1 H5.out.2.2.1 htk2) ((hX6 bl (by simp)).trans H5.out.2.2.2 : Blk w6 bl #[.string lx.1, .int .i64 lp, .int .u64 lx.2] 33)))
          clear hT6 hX6 htk2 HTB
          go_wp2_with fail
          go_loopw [14] (fun s wr => ∃ m : Nat, s = .int .i64 (m : Int) ∧ m ≤ i0 ∧ Step [] w6 wr) (fun s _ => i0 - (intOf s).toNat)
          case atStart => exact ⟨0, rfl, Nat.zero_le _, Step.refl _ _⟩
          case round =>
            obtain ⟨m, rfl, hm, hs7⟩ := hrel
            have HS7 := Lib.hid hs7
            clear hs7
            have pm : (m : Int) < (n : Int) := by omega
            by_cases hmi : m < i0
            · have hne : ((nm2 m).toList == (nm2 i0).toList) = false := by
                rw [beq_eq_false_iff_ne]
                intro e
                rw [ByteArray.toList_eq, ByteArray.toList_eq] at e
                have := nm2_inj (i := m) (j := i0) (by omega) (by omega) (by
                  have h2 := congrArg List.toArray e
                  simp only [Array.toArray_toList] at h2
                  exact ByteArray.ext h2)
                omega
              go_wp2_with fail
              refine (name_any m (by omega) _).mono ?_
              rintro e w8 ⟨rfl, hs8⟩
              have HS8 := Lib.hid (HS7.out.then hs8 (by simp))
              clear hs8
              go_wp2_with fail
              go_roundw
              case rel => exact ⟨m + 1, by go_num, by omega, HS8.out⟩
              case measure => simp [intOf]; omega
            · obtain rfl : i0 = m := by omega
              go_wp2_with fail
              refine (name_any i0 (by omega) _).mono ?_
              rintro e w8 ⟨rfl, hs8⟩
              have HS8 := Lib.hid (HS7.out.then hs8 (by simp))
              clear hs8
              go_wp2_with fail
              obtain ⟨b, off, ha, hblt, hcell⟩ := (HZ.out.1.step (HS.out.then (H6.out.1.st.then HS8.out (by simp)) (by simp))) i0 (by rw [HN.out]; exact hi0)
              subst ha
              have hv := HZ.out.2 i0 (by rw [HN.out]; exact hi0)
              have hpe := prio_eq z i0
              obtain ⟨v, hvv⟩ : ∃ v, z.getD i0 0 = v := ⟨_, rfl⟩
              rw [hvv] at hcell hv hpe
              obtain ⟨v0, v1⟩ := hv
              have HPE := Lib.hid (And.intro hpe (And.intro hvv (quo4 v0 v1)))
              clear hpe hvv
              have hB8 : Blk w8 bl #[.string lx.1, .int .i64 lp, .int .u64 lx.2] 33 := Blk.step (show Blk w6 bl _ _ from H6.out.2.2) HS8.out (by simp)
              have k0 := hB8.cell 0
              have k1 := hB8.cell 1
              have k2 := hB8.cell 2
              have g0 := hB8.free 0
              have g1 := hB8.free 1
              have g2 := hB8.free 2
              have hblt2 := hB8.lt
              simp only [List.getElem?_toArray, List.getElem?_cons_zero, List.getElem?_cons_succ] at k0 k1 k2
              have HB8 := Lib.hid hB8
              have hlp := HQ.out.2.2.2.1
              have HLP := Lib.hid hlp
              clear hB8 hlp
              by_cases h0 : 0 ≤ lp
              · have p0 : decide (0 ≤ lp) = true := by simpa using h0
                have HAh := Lib.hid (H5.out.2.1 h0)
                have hne : Nonempty (ClsW (Step [] w8.drew)) := ⟨⟨_, Step.refl _ _⟩⟩
                have d1 : ∀ y : ClsW (Step [] w8.drew), y.val.cell? ⟨b, off + i0, none⟩ = some (.int .u16 v) := fun y => (y.ok.cell hblt (by simp)).trans hcell
                refine wp_region_rel_tail (spV_law undef) 15 (by kernel_rfl) (by kernel_rfl) ?_
                simp only [List.take_succ_cons, List.take_zero, List.drop_succ_cons, List.drop_zero]
                refine wpR_pre (spV_law undef) anti_tail 14 _ _ _ ?_ rfl
                simp only [List.take_succ_cons, List.take_zero, List.drop_succ_cons, List.drop_zero]
                repeat (go_big_quiet_step (fail))
                refine wpQuiet_nil ?_
                refine wpR_make (spV_law undef) anti_tail (SpOne w8.heap.size) (by rfl) (fun w1 hg => ⟨_, _, Try.alloc_one _ _ _ _ _ _ w1, (Step.refl [] w1).alloc _, ⟨_, rfl, Blk.new _ _ _, hg.size⟩⟩) (fun v w w' h hs => h.step hs) ?_
                rintro v9 hv9
                obtain ⟨bo, rfl⟩ : ∃ b, v9 = .pointer (some ⟨b, 0, none⟩) := by
                  obtain ⟨_, _, b, h, _⟩ := hv9
                  exact ⟨b, h⟩
                clear hv9
                unfold wpR
                intro w9 hs9 hF9
                obtain ⟨bo', hbo', hBo, hlo⟩ := hF9.2
                cases hbo'
                have s9 := (Step.refl [] w8).drew.then hs9 (by simp)
                have HB9 := Lib.hid (HB8.out.step s9 (by simp))
                have hne9 : bl ≠ bo := by omega
                have o0 := hBo.cell 0
                have o1 := hBo.cell 1
                have o2 := hBo.cell 2
                have f0 := hBo.free 0
                have f1 := hBo.free 1
                have f2 := hBo.free 2
                simp only [List.getElem?_toArray, List.getElem?_cons_zero, List.getElem?_cons_succ] at o0 o1 o2
                have HS9 := Lib.hid (And.intro s9 (And.intro hBo (And.intro hlo hne9)))
                clear hne hs9 hF9 d1 s9 hBo hlo k0 k1 k2 g0 g1 g2
                have k0 := HB9.out.cell 0
                have k1 := HB9.out.cell 1
                have k2 := HB9.out.cell 2
                have g0 := HB9.out.free 0
                have g1 := HB9.out.free 1
                have g2 := HB9.out.free 2
                simp only [List.getElem?_toArray, List.getElem?_cons_zero, List.getElem?_cons_succ] at k0 k1 k2
                have hne9' : bo ≠ bl := hne9.symm
                go_wp2_with fail
                rw [HPE.out.2.2]
                have hah := HAh.out
                rw [HPE.out.1, show item z i0 = (nm2 i0, v / 4) by unfold item; rw [HPE.out.2.1]] at hah
                have HW := Lib.hid (tk_store HB9.out HS9.out.1 HS9.out.2.2.1 HS9.out.2.2.2 (.string (nm2 i0)) (.int .i64 (v % 4)) (.int .u64 (v / 4)))
                obtain ⟨W10, hW10⟩ : ∃ W, ((w9.setCell ⟨bo, 0, none⟩ (.string (nm2 i0))).setCell ⟨bo, 1, none⟩ (.int .i64 (v % 4))).setCell ⟨bo, 2, none⟩ (.int .u64 (v / 4)) = W := ⟨_, rfl⟩
                have hbo : Blk W10 bo #[.string (nm2 i0), .int .i64 (v % 4), .int .u64 (v / 4)] 33 := by
                  rw [← hW10]
                  exact (((HS9.out.2.1.set 0 (.string (nm2 i0))).set 1 (.int .i64 (v % 4))).set 2 (.int .u64 (v / 4)))
                rw [hW10] at HW ⊢
                have HBO := Lib.hid hbo
                clear hW10 hbo k0 k1 k2 g0 g1 g2 o0 o1 o2 f0 f1 f2
                refine (ahead_any lp lx (v % 4) (nm2 i0, v / 4) _ hah).mono ?_
                rintro e w11 ⟨rfl, hs11⟩
                clear hah
                have HS11 := Lib.hid hs11
                have hbl11 := HW.out.1.step hs11 (by simp)
                have HBL11 := Lib.hid hbl11
                have g0 := hbl11.free 0
                have g1 := hbl11.free 1
                have g2 := hbl11.free 2
                have b0 := hbl11.cell 0
                have b1 := hbl11.cell 1
                have b2 := hbl11.cell 2
                have hbo11 := HBO.out.step hs11 (by simp)
                have o0 := hbo11.cell 0
                have o1 := hbo11.cell 1
                have o2 := hbo11.cell 2
                simp only [List.getElem?_toArray, List.getElem?_cons_zero, List.getElem?_cons_succ] at o0 o1 o2 b0 b1 b2
                clear hs11 hbl11 hbo11
                go_wp2_with fail
                go_roundw
                case rel =>
                  refine ⟨q + 1, S', T', _, _, by go_num, by omega, H6.out.1.stepX ((HS8.out.mono (by simp)).then (((HW.out.2.then (HS11.out.mono (G := [bl]) (by simp)) (fun k hk => .inl hk)).setCell (.inl (by simp)) 0 (.string (nm2 i0))).setCell (.inl (by simp)) 1 (.int .i64 (v % 4)) |>.setCell (.inl (by simp)) 2 (.int .u64 (v / 4))) (fun k hk => .inl hk)), H6.out.2.1, H5.out.1, by have := prio_lt z i0; omega, ?_⟩
                  rw [HPE.out.1, show item z i0 = (nm2 i0, v / 4) by unfold item; rw [HPE.out.2.1]]
                  exact (((HBL11.out.set 0 (.string (nm2 i0))).set 1 (.int .i64 (v % 4))).set 2 (.int .u64 (v / 4)))
                case measure => simp [intOf]; omega
              · have p0 : decide (0 ≤ lp) = false := by simpa using h0
                have hne : Nonempty (ClsW (Step [] w8.drew)) := ⟨⟨_, Step.refl _ _⟩⟩
                have d1 : ∀ y : ClsW (Step [] w8.drew), y.val.cell? ⟨b, off + i0, none⟩ = some (.int .u16 v) := fun y => (y.ok.cell hblt (by simp)).trans hcell
                refine wp_region_rel_tail (spV_law undef) 15 (by kernel_rfl) (by kernel_rfl) ?_
                simp only [List.take_succ_cons, List.take_zero, List.drop_succ_cons, List.drop_zero]
                refine wpR_pre (spV_law undef) anti_tail 14 _ _ _ ?_ rfl
                simp only [List.take_succ_cons, List.take_zero, List.drop_succ_cons, List.drop_zero]
                repeat (go_big_quiet_step (fail))
                refine wpQuiet_nil ?_
                refine wpR_make (spV_law undef) anti_tail (SpOne w8.heap.size) (by rfl) (fun w1 hg => ⟨_, _, Try.alloc_one _ _ _ _ _ _ w1, (Step.refl [] w1).alloc _, ⟨_, rfl, Blk.new _ _ _, hg.size⟩⟩) (fun v w w' h hs => h.step hs) ?_
                rintro v9 hv9
                obtain ⟨bo, rfl⟩ : ∃ b, v9 = .pointer (some ⟨b, 0, none⟩) := by
                  obtain ⟨_, _, b, h, _⟩ := hv9
                  exact ⟨b, h⟩
                clear hv9
                unfold wpR
                intro w9 hs9 hF9
                obtain ⟨bo', hbo', hBo, hlo⟩ := hF9.2
                cases hbo'
                have s9 := (Step.refl [] w8).drew.then hs9 (by simp)
                have HB9 := Lib.hid (HB8.out.step s9 (by simp))
                have hne9 : bl ≠ bo := by omega
                have o0 := hBo.cell 0
                have o1 := hBo.cell 1
                have o2 := hBo.cell 2
                have f0 := hBo.free 0
                have f1 := hBo.free 1
                have f2 := hBo.free 2
                simp only [List.getElem?_toArray, List.getElem?_cons_zero, List.getElem?_cons_succ] at o0 o1 o2
                have HS9 := Lib.hid (And.intro s9 (And.intro hBo (And.intro hlo hne9)))
                clear hne hs9 hF9 d1 s9 hBo hlo k0 k1 k2 g0 g1 g2
                have k0 := HB9.out.cell 0
                have k1 := HB9.out.cell 1
                have k2 := HB9.out.cell 2
                have g0 := HB9.out.free 0
                have g1 := HB9.out.free 1
                have g2 := HB9.out.free 2
                simp only [List.getElem?_toArray, List.getElem?_cons_zero, List.getElem?_cons_succ] at k0 k1 k2
                have hne9' : bo ≠ bl := hne9.symm
                go_wp2_with fail
                go_roundw
                case rel =>
                  have HW := tk_store HB9.out HS9.out.1 HS9.out.2.2.1 HS9.out.2.2.2 (.string (nm2 i0)) (.int .i64 (v % 4)) (.int .u64 (IntKind.u64.wrap (IntKind.u16.wrap (v.tdiv 4))))
                  refine ⟨q + 1, S', T', _, _, by go_num, by omega, H6.out.1.stepX ((HS8.out.mono (by simp)).then (((HW.2.setCell (.inl (by simp)) 0 (.string (nm2 i0))).setCell (.inl (by simp)) 1 (.int .i64 (v % 4))).setCell (.inl (by simp)) 2 (.int .u64 (IntKind.u64.wrap (IntKind.u16.wrap (v.tdiv 4))))) (fun k hk => .inl hk)), H6.out.2.1, H5.out.1, by have := prio_lt z i0; omega, ?_⟩
                  have hb := ((HW.1.set 0 (.string (nm2 i0))).set 1 (.int .i64 (v % 4))).set 2 (.int .u64 (IntKind.u64.wrap (IntKind.u16.wrap (v.tdiv 4))))
                  rw [HPE.out.1, show item z i0 = (nm2 i0, v / 4) by unfold item; rw [HPE.out.2.1]]
                  have hq := HPE.out.2.2
                  rw [hq] at hb ⊢
                  exact hb
                case measure => simp [intOf]; omega
        · obtain rfl : n = q := by omega
          have p1 : ¬ (n : Int) < (n : Int) := by omega
          have hnil : allS S = [] := List.eq_nil_of_length_eq_zero (by rw [HQ.out.2.2.1.len]; omega)
          have HTK := HQ.out.1.take
          rw [hnil] at HTK
          simp only [hdA] at HTK
          have HTk := Lib.hid HTK
          clear HTK hnil
          go_wp2_with fail
          refine HTk.out.mono ?_
          rintro e w5 ⟨rfl, S', htk, hT', -⟩
          have HF := Lib.hid hT'.st
          clear htk hT'
          go_wp2_with fail
          go_ret
          exact ⟨rfl, HS.out.then HF.out (by simp)⟩
theorem takes_any (a : Option Addr) (cap : Nat) (z : List Int) (w : World) (hz : Nums .u16 w a z) (wz : ∀ x ∈ z, (Lit.int .u16 x).wf = true) :
    Calls Try.prog 3 #[.slice a z.length cap] w fun e w' => e = .returned (.bool true) ∧ Step [] w w' := by
  by_cases hlen : z.length ≤ 60
  · exact takes_in a cap z w hz wz hlen
  · obtain ⟨n, hn⟩ : ∃ n, z.length = n := ⟨_, rfl⟩
    rw [hn] at hlen ⊢
    clear hz wz hn
    have q1 : decide ((60 : Int) < (n : Int)) = true := by simp; omega
    go_enter Try.func3, Try.ntmps3
    go_wp2_with fail
    refine (lives_any w).mono ?_
    rintro e w1 ⟨rfl, hs⟩
    have HS := Lib.hid hs
    clear hs
    go_wp2_with fail
    refine (lives_any w1).mono ?_
    rintro e w2 ⟨rfl, hs⟩
    have HS2 := Lib.hid (HS.out.then hs (by simp))
    clear hs
    go_wp2_with fail
    go_ret
    exact ⟨rfl, HS2.out⟩
end Rd
end Go.Proofs.Ytebgojcecgimaaa
