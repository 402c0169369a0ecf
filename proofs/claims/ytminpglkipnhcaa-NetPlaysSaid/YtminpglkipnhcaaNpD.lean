/- Several texts in one: DoG, DoH. -/
import Derived.Test.YtminpglkipnhcaaNpB
import Derived.Deep.CutBlock
import Derived.Deep.LoopGhost
section
namespace Go.Proofs.Ytminpglkipnhcaa
set_option linter.unusedVariables false
set_option linter.unusedSimpArgs false
open Go.RowKit
attribute [local go_sem ↓] exec_load_m exec_store_m
attribute [local go_sem] Try.load_m row_drew Try.store_m
section
variable {w0 w : World} {nb mb mo q : Nat} {T : List Tm} {X : List Ms} {n : Nat} {f : PK → Option Bool} {P : List (Int × Int)} {XO : List (Nat × Obj)}
set_option maxRecDepth 100000 in
set_option maxHeartbeats 4000000 in
theorem do_wall (k i j : Int) (u : Bool) (x : Ms) (M : PM) (h : Rd w0 nb mb mo q T X n f P XO w) (hx : Good w0 x M) (hk : k = 7) (hwi : (Lit.int .i64 i).wf = true) (hwj : (Lit.int .i64 j).wf = true) (hq : q ≤ 150) :
    Calls Try.prog 11 #[.pointer (some ⟨nb, 0, none⟩), .pointer (some ⟨mo, 0, none⟩), .agg (actC k i j u x).toArray] w fun e w' => e = .returned (.bool true) ∧ RdE w0 nb mb mo (q + 1) XO w' := by
  obtain ⟨N, hN⟩ : ∃ N, T.length = N := ⟨_, rfl⟩
  have HKK := Lib.hid hk
  clear hk
  have HH := Lib.hid h
  have hzv := zeroM
  unfold msV at hzv
  have hb := Blk.new w (actC k i j u x).toArray 43
  have hs := (Step.refl [] w).alloc (.cells (actC k i j u x).toArray 43)
  obtain ⟨W, hW⟩ : ∃ W, w.alloc (.cells (actC k i j u x).toArray 43) = W := ⟨_, rfl⟩
  obtain ⟨b5, hb5⟩ : ∃ b, w.heap.size = b := ⟨_, rfl⟩
  have HW := Lib.hid (And.intro hW hb5)
  rw [hW] at hb hs
  rw [hb5] at hb
  have hst := h.st.add hs [(b5, .cells (actC k i j u x).toArray 43 (0, 0))] (fun y hy => by
    simp only [List.mem_cons, List.not_mem_nil, or_false] at hy
    subst hy
    exact ⟨Nat.le_of_eq hb5, hb⟩)
  have hR : Rd w0 nb mb mo q T X n f P ([(b5, .cells (actC k i j u x).toArray 43 (0, 0))] ++ XO) W := ⟨hst, h.rx, h.wr, h.n64, h.nq, h.pq⟩
  have HR := Lib.hid hR
  have HBK := Lib.hid hb
  have HGX := Lib.hid hx
  obtain ⟨c0, c1, c2, c3, c5, c6⟩ := act_cells hb
  obtain ⟨am, cm, pv, hm⟩ := hR.mod
  have m0 := hm.cell 0
  simp only [List.getElem?_toArray, List.getElem?_cons_zero] at m0
  rw [hN] at m0
  have h64 := h.n64
  rw [hN] at h64
  have ltb := hb.lt
  have ltm := hm.lt
  have HNN := Lib.hid hN
  clear h hx hW hb5 hb hs hst hR hm hN
  go_enter Try.func11, Try.ntmps11
  go_wp2_with fail
  rw [HW.out.1, HW.out.2]
  go_cut [7] from 21 to 33 (fun a wx => ∃ th : Bool, a = .bool th ∧ (th = true → ∃ m : Nat, i = (m : Int) ∧ m < N) ∧ Step [] W wx)
  case first =>
    have hnn : Nonempty (ClsW (Step [] W.drew)) := ⟨⟨_, Step.refl _ _⟩⟩
    have d1 : ∀ y : ClsW (Step [] W.drew), y.val.cell? ⟨b5, 1, none⟩ = some (.int .i64 i) := fun y => (y.ok.cell ltb (by simp)).trans c1
    have d2 : ∀ y : ClsW (Step [] W.drew), y.val.cell? ⟨mo, 0, none⟩ = some (.slice am N cm) := fun y => (y.ok.cell ltm (by simp)).trans m0
    have hi : (∃ m : Nat, i = (m : Int) ∧ m < N) ∨ (0 ≤ i ∧ ¬ i < (N : Int)) ∨ (¬ 0 ≤ i) := by
      by_cases h1 : 0 ≤ i
      · by_cases h2 : i < (N : Int)
        · exact .inl ⟨i.toNat, by omega, by omega⟩
        · exact .inr (.inl ⟨h1, h2⟩)
      · exact .inr (.inr h1)
    rcases hi with ⟨m, rfl, hmN⟩ | ⟨hi1, hi2⟩ | hi1
    · have q1 : decide ((0 : Int) ≤ (m : Int)) = true := by simp
      have q2 : (m : Int) < (N : Int) := by omega
      refine region_cls (G := Step [] W.drew) (by kernel_rfl) (by kernel_rfl) (Step.refl _ _) ?_
      repeat (go_big_quiet_step (fail))
      refine wpQuiet_nil ?_
      rintro w2 ⟨⟨w2i, hw2⟩, he⟩
      have he' : w2 = w2i := he
      subst he'
      clear he
      go_wp2_with fail
      go_meet
      case rel => exact ⟨true, rfl, fun _ => ⟨m, rfl, hmN⟩, (Step.refl [] W).drew.then hw2 (by simp)⟩
    · have p1 : decide ((0 : Int) ≤ i) = true := by simpa using hi1
      have p2 : ¬ i < (N : Int) := hi2
      refine region_cls (G := Step [] W.drew) (by kernel_rfl) (by kernel_rfl) (Step.refl _ _) ?_
      repeat (go_big_quiet_step (fail))
      refine wpQuiet_nil ?_
      rintro w2 ⟨⟨w2i, hw2⟩, he⟩
      have he' : w2 = w2i := he
      subst he'
      clear he
      go_wp2_with fail
      go_meet
      case rel => exact ⟨false, rfl, fun h => (by cases h), (Step.refl [] W).drew.then hw2 (by simp)⟩
    · have p1 : decide ((0 : Int) ≤ i) = false := by simpa using hi1
      have p2 : ¬ (0 ≤ i) := hi1
      refine region_cls (G := Step [] W.drew) (by kernel_rfl) (by kernel_rfl) (Step.refl _ _) ?_
      repeat (go_big_quiet_step (fail))
      refine wpQuiet_nil ?_
      rintro w2 ⟨⟨w2i, hw2⟩, he⟩
      have he' : w2 = w2i := he
      subst he'
      clear he
      go_wp2_with fail
      go_meet
      case rel => exact ⟨false, rfl, fun h => (by cases h), (Step.refl [] W).drew.then hw2 (by simp)⟩
  case rest =>
    obtain ⟨th, rfl, hth, hw2⟩ := hcut
    obtain ⟨W3, hW3⟩ : ∃ W3, wc.alloc (.cells (msC ms0).toArray 31) = W3 := ⟨_, rfl⟩
    obtain ⟨b8, hb8⟩ : ∃ b, wc.heap.size = b := ⟨_, rfl⟩
    have H3 := Lib.hid (And.intro hW3 hb8)
    have HS2 := Lib.hid hw2
    have HTH := Lib.hid hth
    clear hW3 hb8 hw2 hth c0 c1 c2 c3 c5 c6 m0
    go_upto_if 34 with fail
    rw [H3.out.1, H3.out.2]
    go_cut [8] from 35 to 42 (fun a wx => a = .pointer (some ⟨b8, 0, none⟩) ∧ Rd w0 nb mb mo q T X n f P ((b5, .cells (actC k i j u x).toArray 43 (0, 0)) :: XO) wx)
    case first =>
      cases th with
      | false =>
        go_wp2_with fail
        go_meet
        case rel => exact ⟨rfl, HR.out.st.step (by rw [← H3.out.1]; exact HS2.out.alloc _), HR.out.rx, HR.out.wr, HR.out.n64, HR.out.nq, HR.out.pq⟩
      | true =>
        obtain ⟨m, hm, hmN⟩ := HTH.out rfl
        subst hm
        have q2 : (m : Int) < (N : Int) := by omega
        obtain ⟨xx, hxx⟩ : ∃ xx, X.getD m ms0 = xx := ⟨_, rfl⟩
        have hs3 : Step [] W W3 := by rw [← H3.out.1]; exact HS2.out.alloc _
        obtain ⟨hm3, hbm3, hsm3⟩ := box_m wc.drew xx
        have hst0 := Try.store_m _ _ _ xx hm3
        have hW3d : wc.drew.alloc (.cells (msC ms0).toArray 31) = W3.drew := by rw [← H3.out.1]; rfl
        have hb8d : wc.drew.heap.size = b8 := H3.out.2
        rw [hW3d, hb8d] at hst0 hbm3 hsm3
        obtain ⟨W4, hW4⟩ : ∃ W4, W3.drew.setCells b8 0 (msC xx) = W4 := ⟨_, rfl⟩
        rw [hW4] at hst0 hsm3 hbm3
        have hs4 : Step [] W W4 := (HS2.out.drew).then hsm3 (by simp)
        have HS4 := Lib.hid hs4
        obtain ⟨g, o, c, pv, hmo, hgl, hrow⟩ := HR.out.row m (by rw [HNN.out]; exact hmN)
        rw [hxx] at hrow
        have n0 := (hmo.step hs3 (by simp)).drew.cell 0
        simp only [List.getElem?_toArray, List.getElem?_cons_zero] at n0
        rw [HNN.out] at n0
        have n1 := (HBK.out.step hs3 (by simp)).drew.cell 1
        have n2 := row_step hrow hgl hs3.drew (by simp)
        clear hmo hrow hs4 hW4 hm3 hbm3 hsm3 hs3 hW3d hb8d hxx
        go_wp2_with fail
        refine wp_region_still_tail 8 (by kernel_rfl) (by kernel_rfl) ?_
        simp only [List.take_succ_cons, List.take_zero, List.drop_succ_cons, List.drop_zero]
        refine wpStill_of_quiet _ _ ?_
        have hne : Nonempty (ClsW (fun X => X = W3.drew)) := ⟨⟨_, rfl⟩⟩
        have d1 : ∀ x : ClsW (fun X => X = W3.drew), x.val.cell? ⟨mo, 0, none⟩ = some (.slice (some ⟨g, o, none⟩) N c) := fun x => by rw [x.ok]; exact n0
        have d4 : ∀ x : ClsW (fun X => X = W3.drew), x.val.cell? ⟨b5, 1, none⟩ = some (.int .i64 (m : Int)) := fun x => by rw [x.ok]; exact n1
        have d5 : ∀ x : ClsW (fun X => X = W3.drew), rowC x.val g (o + m * 11) 11 = some (msC xx) := fun x => by rw [x.ok]; exact n2
        have q3 : (0 : Int) ≤ (m : Int) := by omega
        repeat (go_big_quiet_step (fail))
        refine wpQuiet_nil ?_
        change wpList _ _ _ _ _ W3.drew
        clear hne d1 d4 d5 n0 n1 n2 hgl
        go_wp2_with fail
        go_meet
        case rel => exact ⟨rfl, HR.out.st.step HS4.out, HR.out.rx, HR.out.wr, HR.out.n64, HR.out.nq, HR.out.pq⟩
    case rest =>
      obtain ⟨rfl, hR4⟩ := hcut
      have HR4 := Lib.hid hR4
      obtain ⟨c0, c1, c2, c3, c5, c6⟩ := act_cells (HR4.out.st.blk (b := b5) (C := (actC k i j u x).toArray) (T' := 43) (.head _))
      have hltW4 := (HR4.out.st.blk (b := b5) (C := (actC k i j u x).toArray) (T' := 43) (.head _)).lt
      clear hR4 H3 HS2 HTH
      have hk := HKK.out
      subst hk
      have hcase : (1 ≤ i ∧ i ≤ 7 ∧ 1 ≤ j ∧ j ≤ 7 ∧ i ≠ j) ∨ (¬ 1 ≤ i) ∨ (1 ≤ i ∧ ¬ i ≤ 7) ∨ (1 ≤ i ∧ i ≤ 7 ∧ ¬ 1 ≤ j) ∨ (1 ≤ i ∧ i ≤ 7 ∧ 1 ≤ j ∧ ¬ j ≤ 7) ∨ (1 ≤ i ∧ i ≤ 7 ∧ 1 ≤ j ∧ j ≤ 7 ∧ i = j) := by omega
      rcases hcase with hgood | hbad
      rotate_left
      · have HCW := Lib.hid (wall_bad (nb := nb) i j u wc.drew (by omega))
        obtain ⟨R, hR⟩ : ∃ R, hasW P i j = R := ⟨_, rfl⟩
        have HCV := Lib.hid (fun W' (h : Step [] wc.drew W') => (HR4.out.st.step ((Step.refl [] wc).drew.then h (by simp))).walled i j hwi hwj)
        have HCM := Lib.hid (fun W' (h : Step [] wc.drew W') => (HR4.out.st.step ((Step.refl [] wc).drew.then h (by simp))).mwalled i j)
        rw [hR] at HCM
        simp only [← HR4.out.wr i j hwi hwj, hR] at HCV
        have HBW := Lib.hid (fun W' (h : Step [] wc.drew W') => wall_bad (nb := nb) i j u W' (by omega))
        clear hR HCW
        have hall : ∃ p1 p2 p3 p4 p5 : Bool, (p1 && p2 && p3 && p4 && p5) = false := ⟨false, false, false, false, false, rfl⟩
        clear hall
        rcases hbad with h1 | ⟨h1, h2⟩ | ⟨h1, h2, h3⟩ | ⟨h1, h2, h3, h4⟩ | ⟨h1, h2, h3, h4, h5⟩
        · have p1 : decide (1 ≤ i) = false := by simpa using h1
          clear h1
          go_wp2_with fail
          have hnn : Nonempty (ClsW (Step [] wc.drew)) := ⟨⟨_, Step.refl _ _⟩⟩
          have d1 : ∀ y : ClsW (Step [] wc.drew), y.val.cell? ⟨b5, 1, none⟩ = some (.int .i64 i) := fun y => (y.ok.cell hltW4 (by simp)).trans c1
          have d2 : ∀ y : ClsW (Step [] wc.drew), y.val.cell? ⟨b5, 2, none⟩ = some (.int .i64 j) := fun y => (y.ok.cell hltW4 (by simp)).trans c2
          have d3 : ∀ y : ClsW (Step [] wc.drew), y.val.cell? ⟨b5, 3, none⟩ = some (.bool u) := fun y => (y.ok.cell hltW4 (by simp)).trans c3
          refine region_cls (G := Step [] wc.drew) (by kernel_rfl) (by kernel_rfl) (Step.refl _ _) ?_
          repeat (go_big_quiet_step ((first
            | (go_at_call 18; exact cls_call ((HBW.out _ (ClsW.ok _)).mono fun e w3 h => ⟨h.1, by rw [← h.2]; exact ClsW.ok _⟩))
            | (go_at_call 21; exact cls_call ((HCV.out _ (ClsW.ok _)).mono fun e w3 h => ⟨h.1, Step.then (ClsW.ok _) h.2 (by simp)⟩))
            | (go_at_call 26; exact cls_call ((HCM.out _ (ClsW.ok _)).mono fun e w3 h => ⟨h.1, Step.then (ClsW.ok _) h.2 (by simp)⟩)))))
          refine wpQuiet_nil ?_
          rintro w9 ⟨⟨w9i, hw9⟩, he⟩
          have he' : w9 = w9i := he
          subst he'
          clear he
          have hS7 := HR4.out.st.step ((Step.refl [] wc).drew.then hw9 (by simp))
          have HF := Lib.hid (show RdE w0 nb mb mo (q + 1) XO w9 from ⟨_, _, _, _, _, ⟨hS7.less (fun y hy => .tail _ hy), HR4.out.rx, HR4.out.wr, HR4.out.n64, Nat.le_succ_of_le HR4.out.nq, Nat.le_succ_of_le HR4.out.pq⟩⟩)
          clear hS7 hnn d1 d2 d3 hw9
          go_wp2_with fail
          go_ret
          exact ⟨rfl, HF.out⟩
        · have p1 : decide (1 ≤ i) = true := by simpa using h1
          have p2 : decide (i ≤ 7) = false := by simpa using h2
          clear h1 h2
          go_wp2_with fail
          have hnn : Nonempty (ClsW (Step [] wc.drew)) := ⟨⟨_, Step.refl _ _⟩⟩
          have d1 : ∀ y : ClsW (Step [] wc.drew), y.val.cell? ⟨b5, 1, none⟩ = some (.int .i64 i) := fun y => (y.ok.cell hltW4 (by simp)).trans c1
          have d2 : ∀ y : ClsW (Step [] wc.drew), y.val.cell? ⟨b5, 2, none⟩ = some (.int .i64 j) := fun y => (y.ok.cell hltW4 (by simp)).trans c2
          have d3 : ∀ y : ClsW (Step [] wc.drew), y.val.cell? ⟨b5, 3, none⟩ = some (.bool u) := fun y => (y.ok.cell hltW4 (by simp)).trans c3
          refine region_cls (G := Step [] wc.drew) (by kernel_rfl) (by kernel_rfl) (Step.refl _ _) ?_
          repeat (go_big_quiet_step ((first
            | (go_at_call 18; exact cls_call ((HBW.out _ (ClsW.ok _)).mono fun e w3 h => ⟨h.1, by rw [← h.2]; exact ClsW.ok _⟩))
            | (go_at_call 21; exact cls_call ((HCV.out _ (ClsW.ok _)).mono fun e w3 h => ⟨h.1, Step.then (ClsW.ok _) h.2 (by simp)⟩))
            | (go_at_call 26; exact cls_call ((HCM.out _ (ClsW.ok _)).mono fun e w3 h => ⟨h.1, Step.then (ClsW.ok _) h.2 (by simp)⟩)))))
          refine wpQuiet_nil ?_
          rintro w9 ⟨⟨w9i, hw9⟩, he⟩
          have he' : w9 = w9i := he
          subst he'
          clear he
          have hS7 := HR4.out.st.step ((Step.refl [] wc).drew.then hw9 (by simp))
          have HF := Lib.hid (show RdE w0 nb mb mo (q + 1) XO w9 from ⟨_, _, _, _, _, ⟨hS7.less (fun y hy => .tail _ hy), HR4.out.rx, HR4.out.wr, HR4.out.n64, Nat.le_succ_of_le HR4.out.nq, Nat.le_succ_of_le HR4.out.pq⟩⟩)
          clear hS7 hnn d1 d2 d3 hw9
          go_wp2_with fail
          go_ret
          exact ⟨rfl, HF.out⟩
        · have p1 : decide (1 ≤ i) = true := by simpa using h1
          have p2 : decide (i ≤ 7) = true := by simpa using h2
          have p3 : decide (1 ≤ j) = false := by simpa using h3
          clear h1 h2 h3
          go_wp2_with fail
          have hnn : Nonempty (ClsW (Step [] wc.drew)) := ⟨⟨_, Step.refl _ _⟩⟩
          have d1 : ∀ y : ClsW (Step [] wc.drew), y.val.cell? ⟨b5, 1, none⟩ = some (.int .i64 i) := fun y => (y.ok.cell hltW4 (by simp)).trans c1
          have d2 : ∀ y : ClsW (Step [] wc.drew), y.val.cell? ⟨b5, 2, none⟩ = some (.int .i64 j) := fun y => (y.ok.cell hltW4 (by simp)).trans c2
          have d3 : ∀ y : ClsW (Step [] wc.drew), y.val.cell? ⟨b5, 3, none⟩ = some (.bool u) := fun y => (y.ok.cell hltW4 (by simp)).trans c3
          refine region_cls (G := Step [] wc.drew) (by kernel_rfl) (by kernel_rfl) (Step.refl _ _) ?_
          repeat (go_big_quiet_step ((first
            | (go_at_call 18; exact cls_call ((HBW.out _ (ClsW.ok _)).mono fun e w3 h => ⟨h.1, by rw [← h.2]; exact ClsW.ok _⟩))
            | (go_at_call 21; exact cls_call ((HCV.out _ (ClsW.ok _)).mono fun e w3 h => ⟨h.1, Step.then (ClsW.ok _) h.2 (by simp)⟩))
            | (go_at_call 26; exact cls_call ((HCM.out _ (ClsW.ok _)).mono fun e w3 h => ⟨h.1, Step.then (ClsW.ok _) h.2 (by simp)⟩)))))
          refine wpQuiet_nil ?_
          rintro w9 ⟨⟨w9i, hw9⟩, he⟩
          have he' : w9 = w9i := he
          subst he'
          clear he
          have hS7 := HR4.out.st.step ((Step.refl [] wc).drew.then hw9 (by simp))
          have HF := Lib.hid (show RdE w0 nb mb mo (q + 1) XO w9 from ⟨_, _, _, _, _, ⟨hS7.less (fun y hy => .tail _ hy), HR4.out.rx, HR4.out.wr, HR4.out.n64, Nat.le_succ_of_le HR4.out.nq, Nat.le_succ_of_le HR4.out.pq⟩⟩)
          clear hS7 hnn d1 d2 d3 hw9
          go_wp2_with fail
          go_ret
          exact ⟨rfl, HF.out⟩
        · have p1 : decide (1 ≤ i) = true := by simpa using h1
          have p2 : decide (i ≤ 7) = true := by simpa using h2
          have p3 : decide (1 ≤ j) = true := by simpa using h3
          have p4 : decide (j ≤ 7) = false := by simpa using h4
          clear h1 h2 h3 h4
          go_wp2_with fail
          have hnn : Nonempty (ClsW (Step [] wc.drew)) := ⟨⟨_, Step.refl _ _⟩⟩
          have d1 : ∀ y : ClsW (Step [] wc.drew), y.val.cell? ⟨b5, 1, none⟩ = some (.int .i64 i) := fun y => (y.ok.cell hltW4 (by simp)).trans c1
          have d2 : ∀ y : ClsW (Step [] wc.drew), y.val.cell? ⟨b5, 2, none⟩ = some (.int .i64 j) := fun y => (y.ok.cell hltW4 (by simp)).trans c2
          have d3 : ∀ y : ClsW (Step [] wc.drew), y.val.cell? ⟨b5, 3, none⟩ = some (.bool u) := fun y => (y.ok.cell hltW4 (by simp)).trans c3
          refine region_cls (G := Step [] wc.drew) (by kernel_rfl) (by kernel_rfl) (Step.refl _ _) ?_
          repeat (go_big_quiet_step ((first
            | (go_at_call 18; exact cls_call ((HBW.out _ (ClsW.ok _)).mono fun e w3 h => ⟨h.1, by rw [← h.2]; exact ClsW.ok _⟩))
            | (go_at_call 21; exact cls_call ((HCV.out _ (ClsW.ok _)).mono fun e w3 h => ⟨h.1, Step.then (ClsW.ok _) h.2 (by simp)⟩))
            | (go_at_call 26; exact cls_call ((HCM.out _ (ClsW.ok _)).mono fun e w3 h => ⟨h.1, Step.then (ClsW.ok _) h.2 (by simp)⟩)))))
          refine wpQuiet_nil ?_
          rintro w9 ⟨⟨w9i, hw9⟩, he⟩
          have he' : w9 = w9i := he
          subst he'
          clear he
          have hS7 := HR4.out.st.step ((Step.refl [] wc).drew.then hw9 (by simp))
          have HF := Lib.hid (show RdE w0 nb mb mo (q + 1) XO w9 from ⟨_, _, _, _, _, ⟨hS7.less (fun y hy => .tail _ hy), HR4.out.rx, HR4.out.wr, HR4.out.n64, Nat.le_succ_of_le HR4.out.nq, Nat.le_succ_of_le HR4.out.pq⟩⟩)
          clear hS7 hnn d1 d2 d3 hw9
          go_wp2_with fail
          go_ret
          exact ⟨rfl, HF.out⟩
        · have p1 : decide (1 ≤ i) = true := by simpa using h1
          have p2 : decide (i ≤ 7) = true := by simpa using h2
          have p3 : decide (1 ≤ j) = true := by simpa using h3
          have p4 : decide (j ≤ 7) = true := by simpa using h4
          subst h5
          clear h1 h2 h3 h4
          go_wp2_with fail
          have hnn : Nonempty (ClsW (Step [] wc.drew)) := ⟨⟨_, Step.refl _ _⟩⟩
          have d1 : ∀ y : ClsW (Step [] wc.drew), y.val.cell? ⟨b5, 1, none⟩ = some (.int .i64 i) := fun y => (y.ok.cell hltW4 (by simp)).trans c1
          have d2 : ∀ y : ClsW (Step [] wc.drew), y.val.cell? ⟨b5, 2, none⟩ = some (.int .i64 i) := fun y => (y.ok.cell hltW4 (by simp)).trans c2
          have d3 : ∀ y : ClsW (Step [] wc.drew), y.val.cell? ⟨b5, 3, none⟩ = some (.bool u) := fun y => (y.ok.cell hltW4 (by simp)).trans c3
          refine region_cls (G := Step [] wc.drew) (by kernel_rfl) (by kernel_rfl) (Step.refl _ _) ?_
          repeat (go_big_quiet_step ((first
            | (go_at_call 18; exact cls_call ((HBW.out _ (ClsW.ok _)).mono fun e w3 h => ⟨h.1, by rw [← h.2]; exact ClsW.ok _⟩))
            | (go_at_call 21; exact cls_call ((HCV.out _ (ClsW.ok _)).mono fun e w3 h => ⟨h.1, Step.then (ClsW.ok _) h.2 (by simp)⟩))
            | (go_at_call 26; exact cls_call ((HCM.out _ (ClsW.ok _)).mono fun e w3 h => ⟨h.1, Step.then (ClsW.ok _) h.2 (by simp)⟩)))))
          refine wpQuiet_nil ?_
          rintro w9 ⟨⟨w9i, hw9⟩, he⟩
          have he' : w9 = w9i := he
          subst he'
          clear he
          have hS7 := HR4.out.st.step ((Step.refl [] wc).drew.then hw9 (by simp))
          have HF := Lib.hid (show RdE w0 nb mb mo (q + 1) XO w9 from ⟨_, _, _, _, _, ⟨hS7.less (fun y hy => .tail _ hy), HR4.out.rx, HR4.out.wr, HR4.out.n64, Nat.le_succ_of_le HR4.out.nq, Nat.le_succ_of_le HR4.out.pq⟩⟩)
          clear hS7 hnn d1 d2 d3 hw9
          go_wp2_with fail
          go_ret
          exact ⟨rfl, HF.out⟩
      · obtain ⟨h1, h2, h3, h4, h5⟩ := hgood
        have HIJ := Lib.hid (show (1 ≤ i ∧ i ≤ 7) ∧ (1 ≤ j ∧ j ≤ 7) ∧ i ≠ j from ⟨⟨h1, h2⟩, ⟨h3, h4⟩, h5⟩)
        have p1 : decide (1 ≤ i) = true := by simpa using h1
        have p2 : decide (i ≤ 7) = true := by simpa using h2
        have p3 : decide (1 ≤ j) = true := by simpa using h3
        have p4 : decide (j ≤ 7) = true := by simpa using h4
        obtain ⟨base, xv, pv', hMd, -⟩ := HR4.out.st.md
        obtain ⟨pa, pc, rfl⟩ := owns_sl hMd.wal
        have m1 := hMd.blk.cell 1
        simp only [List.getElem?_toArray, List.getElem?_cons_zero, List.getElem?_cons_succ] at m1
        have HMd := Lib.hid hMd
        have hPq := HR4.out.pq
        obtain ⟨K, hK⟩ : ∃ K, P.length = K := ⟨_, rfl⟩
        have HKN := Lib.hid hK
        rw [hK] at m1 hPq
        obtain ⟨e0, j0, j1, j2, j3⟩ := info_parts Try.infoP
        have HI0 := Lib.hid (And.intro j0 (And.intro j1 (And.intro j2 j3)))
        clear j0 j1 j2 j3 hMd hK h1 h2 h3 h4
        go_wp2_with fail
        clear p1 p2 p3 p4 m1
        go_loopw [13, 176] (fun l s wr => ∃ r : Nat, s = .int .i64 (r : Int) ∧ r ≤ K ∧ Step [] wc wr ∧ wr.ownsRow wc.heap.size 65 2 l (keepW (P.take r) i j).length (flatP (keepW (P.take r) i j))) (fun _ s _ => K - (intOf s).toNat)
        case atStart => exact ⟨0, rfl, Nat.zero_le _, Step.refl _ _, World.ownsRow_nil _ _ _ _⟩
        case round =>
          obtain ⟨r, rfl, hr, hs, ho⟩ := hrel
          have HS := Lib.hid (And.intro hs ho)
          have k0 := (hs.cell hltW4 (by simp)).trans c0
          have k1 := (hs.cell hltW4 (by simp)).trans c1
          have k2 := (hs.cell hltW4 (by simp)).trans c2
          have k3 := (hs.cell hltW4 (by simp)).trans c3
          have hltr := Nat.lt_of_lt_of_le hltW4 hs.size
          clear c0 c1 c2 c3 c5 c6
          by_cases hlt : r < K
          · obtain ⟨g, c, hv, _⟩ := owns_form HMd.out.wal (by rw [HKN.out]; omega)
            injection hv with hv1 hv3 hv2
            subst hv1
            have hwal := HMd.out.wal
            rw [HKN.out] at hwal
            obtain ⟨w0', w1'⟩ := pair_cells (owns_step hwal hs (by simp)) r hlt
            obtain ⟨⟨y1, y2⟩, hxy⟩ : ∃ p, P.getD r (0, 0) = p := ⟨_, rfl⟩
            rw [hxy] at w0' w1'
            have hp : P[r]'(by rw [HKN.out]; exact hlt) = (y1, y2) := by
              rw [← hxy]
              simp [List.getD, show r < P.length by rw [HKN.out]; exact hlt]
            have hsn := keepW_snoc P i j r (by rw [HKN.out]; exact hlt)
            rw [hp] at hsn
            have q1 : (r : Int) < (K : Int) := by omega
            have q0 : (0 : Int) ≤ (r : Int) := by omega
            have he1 := fun w => eq_pair y1 y2 i j w
            have he2 := fun w => eq_pair y1 y2 j i w
            obtain ⟨r1, hr1⟩ : ∃ b, (y1 == i && y2 == j) = b := ⟨_, rfl⟩
            obtain ⟨r2, hr2⟩ : ∃ b, (y1 == j && y2 == i) = b := ⟨_, rfl⟩
            rw [hr1] at he1
            rw [hr2] at he2
            have hno : noW i j (y1, y2) = (!r1 && !r2) := by unfold noW; rw [hr1, hr2]
            rw [hno] at hsn
            obtain ⟨Lr, hLr⟩ : ∃ L, keepW (P.take r) i j = L := ⟨_, rfl⟩
            rw [hLr] at hsn HS
            have HSN := Lib.hid hsn
            have hlen : Lr.length ≤ r := by
              rw [← hLr]
              exact Nat.le_trans (keepW_le _ _ _) (by rw [List.length_take]; omega)
            have HLEN := Lib.hid hlen
            clear hs ho hv3 hv2 hxy hp hno hsn hLr hr1 hr2 hwal hlen
            obtain ⟨la, lc, hla⟩ := owns_sl HS.out.2
            subst hla
            obtain ⟨ln, hln⟩ : ∃ n, Lr.length = n := ⟨_, rfl⟩
            have HLN := Lib.hid hln
            have hls := HS.out.2
            rw [hln] at hls ⊢
            have HLS := Lib.hid hls
            have hb2 : ln ≤ r := by have := HLEN.out; have := HLN.out; omega
            clear hln hls
            cases r1 with
            | true =>
              go_wp2_with fail
              exact ⟨⟨r + 1, by go_num, hlt, HS.out.1.alloc _, by rw [HSN.out]; simpa [HLN.out] using HLS.out.alloc _⟩, by simp [intOf]; omega⟩
            | false =>
              cases r2 with
              | true =>
                go_wp2_with fail
                exact ⟨⟨r + 1, by go_num, hlt, HS.out.1.alloc _, by rw [HSN.out]; simpa [HLN.out] using HLS.out.alloc _⟩, by simp [intOf]; omega⟩
              | false =>
                have hsz := HS.out.1.size
                go_wp2_with (at_builtin; go_loud (refine wpList_append_sep rfl (.tmp 196) (.tmp 198) 39 rfl wc.heap.size 65 e0 _ 2 16 Try.underlying39 HI0.out.1 HI0.out.2.1 HI0.out.2.2.1 HI0.out.2.2.2 rfl (by decide) _ ln (flatP Lr) rfl ((HLS.out.alloc _).alloc _) (some ⟨wr.heap.size + 1, 0, none⟩) 1 1 [.int .i64 y1, .int .i64 y2] rfl (by intro h; cases h) rfl (fun ad h => by cases h; have := row_new2 (wr.alloc (.cells #[.int .i64 y1, .int .i64 y2] 65)) [.int .i64 y1, .int .i64 y2] 65; rw [World.size_alloc] at this; exact this) (by intro u hu; simp at hu; rcases hu with rfl | rfl <;> rfl) (by unfold maxLen; omega) (by omega) (by simp; omega) ?_))
                intro v8 w8 ho8 hg8 hf8
                have hs8 : Step [] wc w8 := ((HS.out.1.alloc _).alloc _).grown hg8 (fun k hk => .inr (owns_base HLS.out k (mem_foot.2 hk)))
                have ho9 : w8.ownsRow wc.heap.size 65 2 v8 (keepW (P.take (r + 1)) i j).length (flatP (keepW (P.take (r + 1)) i j)) := by
                  rw [HSN.out]
                  simp only [Bool.not_false, Bool.and_self, if_true, List.length_append, List.length_cons, List.length_nil, flatP_app, HLN.out]
                  exact ho8
                have HO9 := Lib.hid (And.intro hs8 ho9)
                clear ho8 hg8 hf8 hs8 ho9
                go_wp2_with fail
                exact ⟨⟨r + 1, by go_num, hlt, HO9.out.1, HO9.out.2⟩, by simp [intOf]; omega⟩
          · have hre : r = K := by omega
            subst hre
            rw [List.take_of_length_le (by rw [HKN.out]; exact Nat.le_refl _)] at ho
            obtain ⟨la, lc, rfl⟩ := owns_sl ho
            obtain ⟨hS5, hso, hfr⟩ := HR4.out.st.walls hs ho (Nat.le_trans (keepW_le _ _ _) (by rw [HKN.out]; omega))
            obtain ⟨ll, hll⟩ : ∃ l, (keepW P i j).length = l := ⟨_, rfl⟩
            rw [hll] at hS5 ⊢
            have HLL := Lib.hid hll
            clear hll
            obtain ⟨cv, hcv⟩ := Option.isSome_iff_exists.1 hso
            have HS5 := Lib.hid hS5
            have k1' := (hS5.blk (b := b5) (C := (actC 7 i j u x).toArray) (T' := 43) (.head _))
            have HB5 := Lib.hid k1'
            clear hs ho hlt hr hso hS5 k0 k1 k2 k3 k1'
            obtain ⟨W5, hW5⟩ : ∃ W5, wr.setCell ⟨mo, 1, none⟩ (.slice la ll lc) = W5 := ⟨_, rfl⟩
            have HW5 := Lib.hid hW5
            rw [hW5] at HS5 HB5
            have hmb : b5 ≠ mo := fun e => by
              have h1 := HB5.out
              obtain ⟨_, _, _, hMM, _⟩ := HS5.out.md
              rw [e] at h1
              have h2 := hMM.blk
              unfold Blk at h1 h2
              rw [h1] at h2
              cases h2
            have k3 := HB5.out.cell 3
            simp only [List.getElem?_toArray, actC, List.getElem?_cons_zero, List.getElem?_cons_succ] at k3
            rw [← hW5] at k3
            have HKK2 := Lib.hid (show (keepW P i j).length ≤ r from by have := keepW_le P i j; have := HKN.out; omega)
            clear hW5
            cases u with
            | false =>
              go_wp2_with fail
              rw [HW5.out]
              clear hcv hfr k3
              obtain ⟨W6, hW6⟩ : ∃ W6, W5 = W6 := ⟨_, rfl⟩
              obtain ⟨PP, hPP⟩ : ∃ PP, PP = keepW P i j := ⟨_, rfl⟩
              have HPP := Lib.hid hPP
              rw [hW6, ← hPP] at HS5
              have HS6 := HS5
              rw [hW6]
              have HPL := Lib.hid (show PP.length ≤ q + 1 from by rw [hPP]; have := HKK2.out; omega)
              clear hW6 hPP
              have HSd := Lib.hid (HS6.out.step ((Step.refl [] W6).drew))
              obtain ⟨-, k1, k2, k3, -, -⟩ := act_cells (HSd.out.blk (b := b5) (C := (actC 7 i j false x).toArray) (T' := 43) (.head _))
              have HCW := Lib.hid (HSd.out.wall_down i j HIJ.out.1 HIJ.out.2.1 HIJ.out.2.2 hwi hwj)
              obtain ⟨f', hf'⟩ : ∃ f', upd f (pk i j hwi hwj) none = f' := ⟨_, rfl⟩
              rw [hf'] at HCW
              have hwr := (walls_set HR4.out.wr i j hwi hwj).2
              rw [hf', ← HPP.out] at hwr
              have HWR := Lib.hid hwr
              obtain ⟨R, hR⟩ : ∃ R, hasW PP i j = R := ⟨_, rfl⟩
              have hRF := hwr i j hwi hwj
              rw [hR] at hRF
              have HRF := Lib.hid hRF.symm
              have HRM := Lib.hid hR
              clear hwr hR hRF hf'
              go_region_held3 (fun w' => w'.cell? ⟨b5, 1, none⟩ = some (.int .i64 i) ∧ w'.cell? ⟨b5, 2, none⟩ = some (.int .i64 j) ∧ w'.cell? ⟨b5, 3, none⟩ = some (.bool false)) (exact ⟨k1, k2, k3⟩) ((first
                | (go_at_call 18; refine HCW.out.mono ?_; rintro e w7 ⟨rfl, hS7⟩; obtain ⟨-, k1, k2, k3, -, -⟩ := act_cells (hS7.blk (b := b5) (C := (actC 7 i j false x).toArray) (T' := 43) (.head _)); have HS7 := Lib.hid hS7; clear hS7)
                | (go_at_call 21; have hcc := HS7.out.walled i j hwi hwj; rw [HRF.out] at hcc; refine hcc.mono ?_; clear hcc; rintro e w8 ⟨rfl, hs8⟩; have HS8 := Lib.hid (HS7.out.step hs8); obtain ⟨-, k1, k2, k3, -, -⟩ := act_cells (HS8.out.blk (b := b5) (C := (actC 7 i j false x).toArray) (T' := 43) (.head _)); clear hs8)
                | (go_at_call 26; have hcc := HS8.out.mwalled i j; rw [HRM.out] at hcc; refine hcc.mono ?_; clear hcc; rintro e w9 ⟨rfl, hs9⟩; have HS9 := Lib.hid (HS8.out.step hs9); obtain ⟨-, k1, k2, k3, -, -⟩ := act_cells (HS9.out.blk (b := b5) (C := (actC 7 i j false x).toArray) (T' := 43) (.head _)); clear hs9)))
              all_goals
                have HF := Lib.hid (show RdE w0 nb mb mo (q + 1) XO w9 from ⟨_, _, _, _, _, ⟨HS9.out.less (fun y hy => .tail _ hy), HR4.out.rx, HWR.out, HR4.out.n64, Nat.le_succ_of_le HR4.out.nq, HPL.out⟩⟩)
                clear k1 k2 k3
                go_wp2_with fail
                go_ret
                exact ⟨rfl, HF.out⟩

            | true =>
              obtain ⟨base2, xv2, pv2, hM2, hK2⟩ := HS5.out.wallApp (P8 := keepW P i j ++ [(i, j)])
              obtain ⟨qa, qc, rfl⟩ := owns_sl hM2.wal
              have m1 := hM2.blk.cell 1
              simp only [List.getElem?_toArray, List.getElem?_cons_zero, List.getElem?_cons_succ] at m1
              obtain ⟨kl, hkl⟩ : ∃ kl, (keepW P i j).length = kl := ⟨_, rfl⟩
              have HKL := Lib.hid hkl
              have hM2w := hM2.wal
              rw [hkl] at m1 hM2w hK2
              have HMW := Lib.hid hM2w
              have HK2 := Lib.hid hK2
              have HM2 := Lib.hid hM2
              have hklq : kl ≤ q := by have := HKK2.out; omega
              obtain ⟨-, k1, k2, -, -, -⟩ := act_cells HB5.out
              have hltb5 := HB5.out.lt
              have hltmo := hM2.blk.lt
              clear hkl hM2w hK2 hM2
              go_wp2_with fail
              rw [HW5.out]
              clear hcv hfr k3
              have hne0 : Nonempty (ClsW (fun _ => True)) := ⟨⟨W5, trivial⟩⟩
              have hne : Nonempty (ClsW (Step [] W5.drew)) := ⟨⟨_, Step.refl _ _⟩⟩
              have d1 : ∀ y : ClsW (Step [] W5.drew), y.val.cell? ⟨b5, 1, none⟩ = some (.int .i64 i) := fun y => (y.ok.cell hltb5 (by simp)).trans k1
              have d2 : ∀ y : ClsW (Step [] W5.drew), y.val.cell? ⟨b5, 2, none⟩ = some (.int .i64 j) := fun y => (y.ok.cell hltb5 (by simp)).trans k2
              have d3 : ∀ y : ClsW (Step [] W5.drew), y.val.cell? ⟨mo, 1, none⟩ = some (.slice qa kl qc) := fun y => (y.ok.cell hltmo (by simp)).trans m1
              refine wp_region_prt sp0_law 1 11 (by kernel_rfl) (by kernel_rfl) (fun c a d v w h => by cases d <;> exact h) ?_
              simp only [List.take_succ_cons, List.take_zero, List.drop_succ_cons, List.drop_zero]
              repeat (go_big_quiet_step (fail))
              refine wpQuiet_nil ?_
              refine wpR_pre sp0_law anti_tail 9 _ _ _ ?_ rfl
              simp only [List.take_succ_cons, List.take_zero, List.drop_succ_cons, List.drop_zero]
              repeat (go_big_quiet_step (fail))
              refine wpQuiet_nil ?_
              refine wpR_make sp0_law anti_tail (SpW W5.heap.size (i, j)) (by rfl) (fun w1 hg => ⟨.slice (some ⟨w1.heap.size, 0, none⟩) 1 1, w1.alloc (.cells (wC (i, j)).toArray 65), by rw [execOp_oneBig]; simp [Act.eval, one_p2, oVal], (Step.refl [] w1).alloc _, ⟨_, rfl, Blk.new _ _ _, hg.size⟩⟩) (spW_step _ _) ?_
              rintro v10 ⟨w10, hg10, b10, rfl, -, -⟩
              go_simp
              unfold wpR
              rintro w7 hs7 ⟨b10', hb10', hblk10, hlow10⟩
              have hbb : b10 = b10' := by simpa using hb10'
              subst hbb
              have hs70 : Step [] W5 w7 := (Step.refl [] W5).drew.then hs7 (by simp)
              have how := owns_step HMW.out hs70 (by simp)
              refine wpList_append_sep rfl (.tmp 211) (.tmp 217) 39 rfl base2 65 e0 _ 2 16 Try.underlying39 HI0.out.1 HI0.out.2.1 HI0.out.2.2.1 HI0.out.2.2.2 rfl (by decide) (.slice qa kl qc) kl (flatP (keepW P i j)) rfl how (some ⟨b10, 0, none⟩) 1 1 (wC (i, j)) rfl (by intro h; cases h) rfl (fun ad h => by cases h; intro jj v hv; rw [Go.Proofs.Ytminpglkipnhcaa.add_plain, hblk10.cell]; simpa using hv) (by intro v hv; simp [wC] at hv; rcases hv with rfl | rfl <;> rfl) (by unfold maxLen; omega) (by omega) (by have := HM2.out.low; have := HM2.out.blk.lt; have := hs70.size; omega) ?_
              intro v8 w8 ho8 hg8 hf8
              have hst8 : Step (foot (.slice qa kl qc)) W5 w8 := (hs70.mono (by simp)).grown hg8 (fun k hk => .inl (mem_foot.2 hk))
              have ho9 : w8.ownsRow base2 65 2 v8 (keepW P i j ++ [(i, j)]).length (flatP (keepW P i j ++ [(i, j)])) := by
                rw [List.length_append, flatP_app, HKL.out]
                exact ho8
              obtain ⟨g8, c8, rfl, -⟩ := owns_form ho8 (by omega)
              obtain ⟨hS6, z1, z2⟩ := HK2.out w8 _ hst8 ho9 (fun k hk => (hf8 k hk).imp id (fun h => Nat.le_trans hs70.size h)) (by rw [List.length_append, HKL.out]; simp; omega)
              obtain ⟨W6, hW6⟩ : ∃ W6, w8.setCell ⟨mo, 1, none⟩ (.slice (some ⟨g8, 0, none⟩) (kl + 1) c8) = W6 := ⟨_, rfl⟩
              have HW6 := Lib.hid hW6
              rw [hW6] at hS6
              obtain ⟨PP, hPP⟩ : ∃ PP, PP = keepW P i j ++ [(i, j)] := ⟨_, rfl⟩
              have HPP := Lib.hid hPP
              rw [← hPP] at hS6
              have HS6 := Lib.hid hS6
              have HPL := Lib.hid (show PP.length ≤ q + 1 from by rw [hPP, List.length_append, HKL.out]; simp; omega)
              clear hne0 hne d1 d2 d3 hg10 hs7 hb10' hblk10 hlow10 hs70 how ho8 hg8 hf8 hst8 ho9 hW6 hPP hS6 k1 k2 m1
              go_wp2_with fail
              rw [HW6.out]
              clear z1 z2
              have HSd := Lib.hid (HS6.out.step ((Step.refl [] W6).drew))
              obtain ⟨-, k1, k2, k3, -, -⟩ := act_cells (HSd.out.blk (b := b5) (C := (actC 7 i j true x).toArray) (T' := 43) (.head _))
              have HCW := Lib.hid (HSd.out.wall_up i j (Nat.le_trans HR4.out.nq (by omega)) HIJ.out.1 HIJ.out.2.1 HIJ.out.2.2 hwi hwj)
              obtain ⟨f', hf'⟩ : ∃ f', upd f (pk i j hwi hwj) (some true) = f' := ⟨_, rfl⟩
              rw [hf'] at HCW
              have hwr := (walls_set HR4.out.wr i j hwi hwj).1
              rw [hf', ← HPP.out] at hwr
              have HWR := Lib.hid hwr
              obtain ⟨R, hR⟩ : ∃ R, hasW PP i j = R := ⟨_, rfl⟩
              have hRF := hwr i j hwi hwj
              rw [hR] at hRF
              have HRF := Lib.hid hRF.symm
              have HRM := Lib.hid hR
              clear hwr hR hRF hf'
              go_region_held3 (fun w' => w'.cell? ⟨b5, 1, none⟩ = some (.int .i64 i) ∧ w'.cell? ⟨b5, 2, none⟩ = some (.int .i64 j) ∧ w'.cell? ⟨b5, 3, none⟩ = some (.bool true)) (exact ⟨k1, k2, k3⟩) ((first
                | (go_at_call 18; refine HCW.out.mono ?_; rintro e w7 ⟨rfl, hS7⟩; obtain ⟨-, k1, k2, k3, -, -⟩ := act_cells (hS7.blk (b := b5) (C := (actC 7 i j true x).toArray) (T' := 43) (.head _)); have HS7 := Lib.hid hS7; clear hS7)
                | (go_at_call 21; have hcc := HS7.out.walled i j hwi hwj; rw [HRF.out] at hcc; refine hcc.mono ?_; clear hcc; rintro e w8 ⟨rfl, hs8⟩; have HS8 := Lib.hid (HS7.out.step hs8); obtain ⟨-, k1, k2, k3, -, -⟩ := act_cells (HS8.out.blk (b := b5) (C := (actC 7 i j true x).toArray) (T' := 43) (.head _)); clear hs8)
                | (go_at_call 26; have hcc := HS8.out.mwalled i j; rw [HRM.out] at hcc; refine hcc.mono ?_; clear hcc; rintro e w9 ⟨rfl, hs9⟩; have HS9 := Lib.hid (HS8.out.step hs9); obtain ⟨-, k1, k2, k3, -, -⟩ := act_cells (HS9.out.blk (b := b5) (C := (actC 7 i j true x).toArray) (T' := 43) (.head _)); clear hs9)))
              all_goals
                have HF := Lib.hid (show RdE w0 nb mb mo (q + 1) XO w9 from ⟨_, _, _, _, _, ⟨HS9.out.less (fun y hy => .tail _ hy), HR4.out.rx, HWR.out, HR4.out.n64, Nat.succ_le_succ HR4.out.nq, HPL.out⟩⟩)
                clear k1 k2 k3
                go_wp2_with fail
                go_ret
                exact ⟨rfl, HF.out⟩
end
end Go.Proofs.Ytminpglkipnhcaa
end

section
namespace Go.Proofs.Ytminpglkipnhcaa
set_option linter.unusedVariables false
set_option linter.unusedSimpArgs false
open Go.RowKit
attribute [local go_sem ↓] exec_load_m exec_store_m
attribute [local go_sem] Try.load_m row_drew Try.store_m
section
variable {w0 w : World} {nb mb mo q : Nat} {T : List Tm} {X : List Ms} {n : Nat} {f : PK → Option Bool} {P : List (Int × Int)} {XO : List (Nat × Obj)}
attribute [local go_sem ↓] execOp_oneBig
attribute [local go_sem] one_m
set_option maxRecDepth 100000 in
set_option maxHeartbeats 4000000 in
theorem do_forget (k i j : Int) (u : Bool) (x : Ms) (M : PM) (h : Rd w0 nb mb mo q T X n f P XO w) (hx : Good w0 x M) (hk : k = 8) :
    Calls Try.prog 11 #[.pointer (some ⟨nb, 0, none⟩), .pointer (some ⟨mo, 0, none⟩), .agg (actC k i j u x).toArray] w fun e w' => e = .returned (.bool true) ∧ RdE w0 nb mb mo (q + 1) XO w' := by
  obtain ⟨N, hN⟩ : ∃ N, T.length = N := ⟨_, rfl⟩
  have HKK := Lib.hid hk
  clear hk
  have HH := Lib.hid h
  have hzv := zeroM
  unfold msV at hzv
  have hb := Blk.new w (actC k i j u x).toArray 43
  have hs := (Step.refl [] w).alloc (.cells (actC k i j u x).toArray 43)
  obtain ⟨W, hW⟩ : ∃ W, w.alloc (.cells (actC k i j u x).toArray 43) = W := ⟨_, rfl⟩
  obtain ⟨b5, hb5⟩ : ∃ b, w.heap.size = b := ⟨_, rfl⟩
  have HW := Lib.hid (And.intro hW hb5)
  rw [hW] at hb hs
  rw [hb5] at hb
  have hst := h.st.add hs [(b5, .cells (actC k i j u x).toArray 43 (0, 0))] (fun y hy => by
    simp only [List.mem_cons, List.not_mem_nil, or_false] at hy
    subst hy
    exact ⟨Nat.le_of_eq hb5, hb⟩)
  have hR : Rd w0 nb mb mo q T X n f P ([(b5, .cells (actC k i j u x).toArray 43 (0, 0))] ++ XO) W := ⟨hst, h.rx, h.wr, h.n64, h.nq, h.pq⟩
  have HR := Lib.hid hR
  have HBK := Lib.hid hb
  have HGX := Lib.hid hx
  obtain ⟨c0, c1, c2, c3, c5, c6⟩ := act_cells hb
  obtain ⟨am, cm, pv, hm⟩ := hR.mod
  have m0 := hm.cell 0
  simp only [List.getElem?_toArray, List.getElem?_cons_zero] at m0
  rw [hN] at m0
  have h64 := h.n64
  rw [hN] at h64
  have ltb := hb.lt
  have ltm := hm.lt
  have HNN := Lib.hid hN
  clear h hx hW hb5 hb hs hst hR hm hN
  go_enter Try.func11, Try.ntmps11
  go_wp2_with fail
  rw [HW.out.1, HW.out.2]
  go_cut [7] from 21 to 33 (fun a wx => ∃ th : Bool, a = .bool th ∧ (th = true → ∃ m : Nat, i = (m : Int) ∧ m < N) ∧ Step [] W wx)
  case first =>
    have hnn : Nonempty (ClsW (Step [] W.drew)) := ⟨⟨_, Step.refl _ _⟩⟩
    have d1 : ∀ y : ClsW (Step [] W.drew), y.val.cell? ⟨b5, 1, none⟩ = some (.int .i64 i) := fun y => (y.ok.cell ltb (by simp)).trans c1
    have d2 : ∀ y : ClsW (Step [] W.drew), y.val.cell? ⟨mo, 0, none⟩ = some (.slice am N cm) := fun y => (y.ok.cell ltm (by simp)).trans m0
    have hi : (∃ m : Nat, i = (m : Int) ∧ m < N) ∨ (0 ≤ i ∧ ¬ i < (N : Int)) ∨ (¬ 0 ≤ i) := by
      by_cases h1 : 0 ≤ i
      · by_cases h2 : i < (N : Int)
        · exact .inl ⟨i.toNat, by omega, by omega⟩
        · exact .inr (.inl ⟨h1, h2⟩)
      · exact .inr (.inr h1)
    rcases hi with ⟨m, rfl, hmN⟩ | ⟨hi1, hi2⟩ | hi1
    · have q1 : decide ((0 : Int) ≤ (m : Int)) = true := by simp
      have q2 : (m : Int) < (N : Int) := by omega
      refine region_cls (G := Step [] W.drew) (by kernel_rfl) (by kernel_rfl) (Step.refl _ _) ?_
      repeat (go_big_quiet_step (fail))
      refine wpQuiet_nil ?_
      rintro w2 ⟨⟨w2i, hw2⟩, he⟩
      have he' : w2 = w2i := he
      subst he'
      clear he
      go_wp2_with fail
      go_meet
      case rel => exact ⟨true, rfl, fun _ => ⟨m, rfl, hmN⟩, (Step.refl [] W).drew.then hw2 (by simp)⟩
    · have p1 : decide ((0 : Int) ≤ i) = true := by simpa using hi1
      have p2 : ¬ i < (N : Int) := hi2
      refine region_cls (G := Step [] W.drew) (by kernel_rfl) (by kernel_rfl) (Step.refl _ _) ?_
      repeat (go_big_quiet_step (fail))
      refine wpQuiet_nil ?_
      rintro w2 ⟨⟨w2i, hw2⟩, he⟩
      have he' : w2 = w2i := he
      subst he'
      clear he
      go_wp2_with fail
      go_meet
      case rel => exact ⟨false, rfl, fun h => (by cases h), (Step.refl [] W).drew.then hw2 (by simp)⟩
    · have p1 : decide ((0 : Int) ≤ i) = false := by simpa using hi1
      have p2 : ¬ (0 ≤ i) := hi1
      refine region_cls (G := Step [] W.drew) (by kernel_rfl) (by kernel_rfl) (Step.refl _ _) ?_
      repeat (go_big_quiet_step (fail))
      refine wpQuiet_nil ?_
      rintro w2 ⟨⟨w2i, hw2⟩, he⟩
      have he' : w2 = w2i := he
      subst he'
      clear he
      go_wp2_with fail
      go_meet
      case rel => exact ⟨false, rfl, fun h => (by cases h), (Step.refl [] W).drew.then hw2 (by simp)⟩
  case rest =>
    obtain ⟨th, rfl, hth, hw2⟩ := hcut
    obtain ⟨W3, hW3⟩ : ∃ W3, wc.alloc (.cells (msC ms0).toArray 31) = W3 := ⟨_, rfl⟩
    obtain ⟨b8, hb8⟩ : ∃ b, wc.heap.size = b := ⟨_, rfl⟩
    have H3 := Lib.hid (And.intro hW3 hb8)
    have HS2 := Lib.hid hw2
    have HTH := Lib.hid hth
    clear hW3 hb8 hw2 hth c0 c1 c2 c3 c5 c6 m0
    go_upto_if 34 with fail
    rw [H3.out.1, H3.out.2]
    go_cut [8] from 35 to 42 (fun a wx => a = .pointer (some ⟨b8, 0, none⟩) ∧ Rd w0 nb mb mo q T X n f P ((b5, .cells (actC k i j u x).toArray 43 (0, 0)) :: XO) wx)
    case first =>
      cases th with
      | false =>
        go_wp2_with fail
        go_meet
        case rel => exact ⟨rfl, HR.out.st.step (by rw [← H3.out.1]; exact HS2.out.alloc _), HR.out.rx, HR.out.wr, HR.out.n64, HR.out.nq, HR.out.pq⟩
      | true =>
        obtain ⟨m, hm, hmN⟩ := HTH.out rfl
        subst hm
        have q2 : (m : Int) < (N : Int) := by omega
        obtain ⟨xx, hxx⟩ : ∃ xx, X.getD m ms0 = xx := ⟨_, rfl⟩
        have hs3 : Step [] W W3 := by rw [← H3.out.1]; exact HS2.out.alloc _
        obtain ⟨hm3, hbm3, hsm3⟩ := box_m wc.drew xx
        have hst0 := Try.store_m _ _ _ xx hm3
        have hW3d : wc.drew.alloc (.cells (msC ms0).toArray 31) = W3.drew := by rw [← H3.out.1]; rfl
        have hb8d : wc.drew.heap.size = b8 := H3.out.2
        rw [hW3d, hb8d] at hst0 hbm3 hsm3
        obtain ⟨W4, hW4⟩ : ∃ W4, W3.drew.setCells b8 0 (msC xx) = W4 := ⟨_, rfl⟩
        rw [hW4] at hst0 hsm3 hbm3
        have hs4 : Step [] W W4 := (HS2.out.drew).then hsm3 (by simp)
        have HS4 := Lib.hid hs4
        obtain ⟨g, o, c, pv, hmo, hgl, hrow⟩ := HR.out.row m (by rw [HNN.out]; exact hmN)
        rw [hxx] at hrow
        have n0 := (hmo.step hs3 (by simp)).drew.cell 0
        simp only [List.getElem?_toArray, List.getElem?_cons_zero] at n0
        rw [HNN.out] at n0
        have n1 := (HBK.out.step hs3 (by simp)).drew.cell 1
        have n2 := row_step hrow hgl hs3.drew (by simp)
        clear hmo hrow hs4 hW4 hm3 hbm3 hsm3 hs3 hW3d hb8d hxx
        go_wp2_with fail
        refine wp_region_still_tail 8 (by kernel_rfl) (by kernel_rfl) ?_
        simp only [List.take_succ_cons, List.take_zero, List.drop_succ_cons, List.drop_zero]
        refine wpStill_of_quiet _ _ ?_
        have hne : Nonempty (ClsW (fun X => X = W3.drew)) := ⟨⟨_, rfl⟩⟩
        have d1 : ∀ x : ClsW (fun X => X = W3.drew), x.val.cell? ⟨mo, 0, none⟩ = some (.slice (some ⟨g, o, none⟩) N c) := fun x => by rw [x.ok]; exact n0
        have d4 : ∀ x : ClsW (fun X => X = W3.drew), x.val.cell? ⟨b5, 1, none⟩ = some (.int .i64 (m : Int)) := fun x => by rw [x.ok]; exact n1
        have d5 : ∀ x : ClsW (fun X => X = W3.drew), rowC x.val g (o + m * 11) 11 = some (msC xx) := fun x => by rw [x.ok]; exact n2
        have q3 : (0 : Int) ≤ (m : Int) := by omega
        repeat (go_big_quiet_step (fail))
        refine wpQuiet_nil ?_
        change wpList _ _ _ _ _ W3.drew
        clear hne d1 d4 d5 n0 n1 n2 hgl
        go_wp2_with fail
        go_meet
        case rel => exact ⟨rfl, HR.out.st.step HS4.out, HR.out.rx, HR.out.wr, HR.out.n64, HR.out.nq, HR.out.pq⟩
    case rest =>
      obtain ⟨rfl, hR4⟩ := hcut
      have HR4 := Lib.hid hR4
      obtain ⟨c0, c1, c2, c3, c5, c6⟩ := act_cells (HR4.out.st.blk (b := b5) (C := (actC k i j u x).toArray) (T' := 43) (.head _))
      have hltW4 := (HR4.out.st.blk (b := b5) (C := (actC k i j u x).toArray) (T' := 43) (.head _)).lt
      clear hR4 H3 HS2 HTH
      have hk := HKK.out
      subst hk
      obtain ⟨ma, mc, pv2, hmo⟩ := HR4.out.mod
      have m1 := hmo.cell 0
      simp only [List.getElem?_toArray, List.getElem?_cons_zero] at m1
      rw [HNN.out] at m1
      have hltmo := hmo.lt
      have HMO := Lib.hid hmo
      obtain ⟨e0, j0, j1, j2, j3⟩ := infoM_parts
      have HI0 := Lib.hid (And.intro j0 (And.intro j1 (And.intro j2 j3)))
      have HLX := Lib.hid (show X.length = N from by rw [HR4.out.lenX]; exact HNN.out)
      have hC0 : ¬ (msC ms0).toArray = #[] := by decide
      clear j0 j1 j2 j3 hmo
      go_wp2_with fail
      go_loopw [16, 254] (fun l s wr => ∃ r : Nat, s = .int .i64 (r : Int) ∧ r ≤ N ∧ Step [] wc wr ∧ wr.ownsRow wc.heap.size 31 11 l (keepT (X.take r) i).length (flatM (keepT (X.take r) i))) (fun _ s _ => N - (intOf s).toNat)
      case atStart => exact ⟨0, rfl, Nat.zero_le _, Step.refl _ _, World.ownsRow_nil _ _ _ _⟩
      case round =>
        obtain ⟨r, rfl, hr, hs, ho⟩ := hrel
        have HS := Lib.hid (And.intro hs ho)
        by_cases hlt : r < N
        · obtain ⟨g, o, c, pv3, hmo3, hgl, hrow⟩ := HR4.out.row r (by rw [HNN.out]; exact hlt)
          have hmae : ma = some ⟨g, o, none⟩ := by
            have h1 := hmo3.cell 0
            rw [HMO.out.cell 0] at h1
            simp at h1
            exact h1.1
          subst hmae
          obtain ⟨y, hy⟩ : ∃ y, X.getD r ms0 = y := ⟨_, rfl⟩
          have hsn := keepT_snoc X i r (by rw [HLX.out]; exact hlt)
          rw [hy] at hrow hsn
          have hrow := row_step hrow hgl hs (by simp)
          obtain ⟨bt, bb, bs⟩ := box_m wr y
          have hst0 := Try.store_m _ _ _ y bt
          obtain ⟨W2, hW2⟩ : ∃ W, (wr.alloc (.cells (msC ms0).toArray 31)).setCells wr.heap.size 0 (msC y) = W := ⟨_, rfl⟩
          obtain ⟨b18, hb18⟩ : ∃ b, wr.heap.size = b := ⟨_, rfl⟩
          rw [hW2] at bb bs hst0
          rw [hb18] at hst0 bb
          have r18 := msg_row bb
          obtain ⟨-, -, x2, -⟩ := msg_cells bb
          have k1 := ((hs.then bs (by simp)).cell hltW4 (by simp)).trans c1
          obtain ⟨Lr, hLr⟩ : ∃ L, keepT (X.take r) i = L := ⟨_, rfl⟩
          rw [hLr] at hsn HS
          have HSN := Lib.hid hsn
          have HLEN := Lib.hid (show Lr.length ≤ r from by
            rw [← hLr]
            exact Nat.le_trans (keepT_le _ _) (by rw [List.length_take]; omega))
          obtain ⟨la, lc, hla⟩ := owns_sl HS.out.2
          subst hla
          obtain ⟨ln, hln⟩ : ∃ n, Lr.length = n := ⟨_, rfl⟩
          have HLN := Lib.hid hln
          have hls := owns_step HS.out.2 bs (by simp)
          rw [hln] at hls ⊢
          have HLS := Lib.hid hls
          have HS2 := Lib.hid (HS.out.1.then bs (by simp))
          have HW2 := Lib.hid (And.intro hW2 hb18)
          have hb2 : ln ≤ r := by have := HLEN.out; have := HLN.out; omega
          have q1 : (r : Int) < (N : Int) := by omega
          have q0 : (0 : Int) ≤ (r : Int) := by omega
          clear hs ho hmo3 hgl hsn bt bb bs hW2 hLr hln hls hy c0 c1 c2 c3 c5 c6 m1
          by_cases ht : y.too = i
          · have ht2 : (y.too == i) = true := by simpa using ht
            rw [ht2] at HSN
            rw [ht] at x2
            clear ht ht2
            go_wp2_with (rw [HW2.out.2])
            exact ⟨⟨r + 1, by go_num, hlt, HS2.out, by rw [HSN.out]; simpa [HLN.out] using HLS.out⟩, by simp [intOf]; omega⟩
          · have ht2 : (y.too == i) = false := by simpa using ht
            rw [ht2] at HSN
            have hsz := HS2.out.size
            clear ht2
            go_wp2_with (first
              | rw [HW2.out.2]
              | (at_builtin; refine wpList_append_sep rfl (.tmp 263) (.tmp 265) 38 rfl wc.heap.size 31 e0 _ 11 136 Try.underlying38 HI0.out.1 HI0.out.2.1 HI0.out.2.2.1 HI0.out.2.2.2 rfl (by decide) _ ln (flatM Lr) rfl (HLS.out.alloc _) (some ⟨W2.heap.size, 0, none⟩) 1 1 (msC y) rfl (by intro h; cases h) rfl (fun ad h => by cases h; exact row_new2 W2 (msC y) 31) (msC_one y) (by unfold maxLen; omega) (by omega) (by simp; omega) ?_))
            intro v8 w8 ho8 hg8 hf8
            have hs8 : Step [] wc w8 := ((HS2.out.alloc _)).grown hg8 (fun k hk => .inr (owns_base HLS.out k (mem_foot.2 hk)))
            have ho9 : w8.ownsRow wc.heap.size 31 11 v8 (keepT (X.take (r + 1)) i).length (flatM (keepT (X.take (r + 1)) i)) := by
              rw [HSN.out]
              simp only [Bool.false_eq_true, if_false, List.length_append, List.length_cons, List.length_nil, flatM_app, HLN.out]
              simpa [flatM] using ho8
            have HO9 := Lib.hid (And.intro hs8 ho9)
            clear ho8 hg8 hf8 hs8 ho9
            go_wp2_with fail
            exact ⟨⟨r + 1, by go_num, hlt, HO9.out.1, HO9.out.2⟩, by simp [intOf]; omega⟩
        · have hre : r = N := by omega
          subst hre
          rw [List.take_of_length_le (by rw [HLX.out]; exact Nat.le_refl _)] at ho
          obtain ⟨la, lc, rfl⟩ := owns_sl ho
          obtain ⟨hS5, hso, hfr⟩ := HR4.out.st.msgs hs ho (Nat.le_trans (keepT_le _ _) (by rw [HLX.out]; omega))
          obtain ⟨ll, hll⟩ : ∃ l, (keepT X i).length = l := ⟨_, rfl⟩
          rw [hll] at hS5 ⊢
          have hle : ll ≤ r := by rw [← hll, ← HLX.out]; exact keepT_le _ _
          have HLL := Lib.hid hll
          have m2 := (hs.cell hltmo (by simp)).trans m1
          obtain ⟨W5, hW5⟩ : ∃ W5, wr.setCell ⟨mo, 0, none⟩ (.slice la ll lc) = W5 := ⟨_, rfl⟩
          have HW5 := Lib.hid hW5
          rw [hW5] at hS5
          have HS5 := Lib.hid hS5
          have HCF := Lib.hid (hS5.forget i)
          rw [HNN.out, keep_same HR4.out.rx i, HLL.out] at HCF
          have ew : IntKind.i64.wrap ((r : Int) - (ll : Int)) = (r : Int) - (ll : Int) := by rw [IntKind.wrap_i64]; omega
          have hB5 := hS5.blk (b := b5) (C := (actC 8 i j u x).toArray) (T' := 43) (.head _)
          have k1 := hB5.cell 1
          simp only [List.getElem?_toArray, actC, List.getElem?_cons_zero, List.getElem?_cons_succ] at k1
          have hmb : b5 ≠ mo := fun e => by
            have h1 := hB5
            obtain ⟨_, _, _, hMM, _⟩ := hS5.md
            rw [e] at h1
            have h2 := hMM.blk
            unfold Blk at h1 h2
            rw [h1] at h2
            cases h2
          clear hs ho hll hlt hr hS5 hW5 hB5 hso m1 c0 c1 c2 c3 c5 c6
          go_wp2_with (rw [HW5.out])
          refine HCF.out.mono ?_
          rintro e w7 ⟨rfl, hS7⟩
          have HF := Lib.hid (show RdE w0 nb mb mo (q + 1) XO w7 from ⟨_, _, _, _, _, ⟨hS7.less (fun y hy => .tail _ hy), by rw [keepU_M]; exact HR4.out.rx.keep i, HR4.out.wr, Nat.le_trans (List.length_filter_le _ _) HR4.out.n64, Nat.le_succ_of_le HR4.out.nq, Nat.le_succ_of_le HR4.out.pq⟩⟩)
          clear hS7 m2 k1 hfr hmb
          go_wp2_with fail
          go_ret
          exact ⟨rfl, HF.out⟩
end
end Go.Proofs.Ytminpglkipnhcaa
end
