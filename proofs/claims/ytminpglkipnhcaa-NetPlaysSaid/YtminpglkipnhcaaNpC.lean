/- Several texts in one: DoC, DoD, DoE. -/
import Derived.Test.YtminpglkipnhcaaNpB
section
namespace Go.Proofs.Ytminpglkipnhcaa
set_option linter.unusedVariables false
set_option linter.unusedSimpArgs false
open Go.RowKit
attribute [local go_sem ↓] exec_load_m exec_store_m
attribute [local go_sem] Try.load_m row_drew Try.store_m
section
variable {w0 w : World} {nb mb mo q : Nat} {T : List Tm} {X : List Ms} {n : Nat} {f : PK → Option Bool} {P : List (Int × Int)} {XO : List (Nat × Obj)}
set_option maxRecDepth 100000 in
set_option maxHeartbeats 4000000 in
theorem do_send (k i j : Int) (u : Bool) (x : Ms) (M : PM) (h : Rd w0 nb mb mo q T X n f P XO w) (hx : Good w0 x M) (hk : k = 0 ∨ k = 1 ∨ k = 2) :
    Calls Try.prog 11 #[.pointer (some ⟨nb, 0, none⟩), .pointer (some ⟨mo, 0, none⟩), .agg (actC k i j u x).toArray] w fun e w' => e = .returned (.bool true) ∧ RdE w0 nb mb mo (q + 1) XO w' := by
  obtain ⟨N, hN⟩ : ∃ N, T.length = N := ⟨_, rfl⟩
  have HKK := Lib.hid hk
  clear hk
  have HH := Lib.hid h
  have hzv := zeroM
  unfold msV at hzv
  have hb := Blk.new w (actC k i j u x).toArray 43
  have hs := (Step.refl [] w).alloc (.cells (actC k i j u x).toArray 43)
  obtain ⟨W, hW⟩ : ∃ W, w.alloc (.cells (actC k i j u x).toArray 43) = W := ⟨_, rfl⟩
  obtain ⟨b5, hb5⟩ : ∃ b, w.heap.size = b := ⟨_, rfl⟩
  have HW := Lib.hid (And.intro hW hb5)
  rw [hW] at hb hs
  rw [hb5] at hb
  have hst := h.st.add hs [(b5, .cells (actC k i j u x).toArray 43 (0, 0))] (fun y hy => by
    simp only [List.mem_cons, List.not_mem_nil, or_false] at hy
    subst hy
    exact ⟨Nat.le_of_eq hb5, hb⟩)
  have hR : Rd w0 nb mb mo q T X n f P ([(b5, .cells (actC k i j u x).toArray 43 (0, 0))] ++ XO) W := ⟨hst, h.rx, h.wr, h.n64, h.nq, h.pq⟩
  have HR := Lib.hid hR
  have HBK := Lib.hid hb
  have HGX := Lib.hid hx
  obtain ⟨c0, c1, c2, c3, c5, c6⟩ := act_cells hb
  obtain ⟨am, cm, pv, hm⟩ := hR.mod
  have m0 := hm.cell 0
  simp only [List.getElem?_toArray, List.getElem?_cons_zero] at m0
  rw [hN] at m0
  have h64 := h.n64
  rw [hN] at h64
  have ltb := hb.lt
  have ltm := hm.lt
  have HNN := Lib.hid hN
  clear h hx hW hb5 hb hs hst hR hm hN
  go_enter Try.func11, Try.ntmps11
  go_wp2_with fail
  rw [HW.out.1, HW.out.2]
  have hnn : Nonempty (ClsW (Step [] W.drew)) := ⟨⟨_, Step.refl _ _⟩⟩
  have d1 : ∀ y : ClsW (Step [] W.drew), y.val.cell? ⟨b5, 1, none⟩ = some (.int .i64 i) := fun y => (y.ok.cell ltb (by simp)).trans c1
  have d2 : ∀ y : ClsW (Step [] W.drew), y.val.cell? ⟨mo, 0, none⟩ = some (.slice am N cm) := fun y => (y.ok.cell ltm (by simp)).trans m0
  have hi : (∃ m : Nat, i = (m : Int) ∧ m < N) ∨ (0 ≤ i ∧ ¬ i < (N : Int)) ∨ (¬ 0 ≤ i) := by
    by_cases h1 : 0 ≤ i
    · by_cases h2 : i < (N : Int)
      · exact .inl ⟨i.toNat, by omega, by omega⟩
      · exact .inr (.inl ⟨h1, h2⟩)
    · exact .inr (.inr h1)
  rcases hi with ⟨m, rfl, hmN⟩ | ⟨hi1, hi2⟩ | hi1
  · have q1 : decide ((0 : Int) ≤ (m : Int)) = true := by simp
    have q2 : (m : Int) < (N : Int) := by omega
    refine region_cls (G := Step [] W.drew) (by kernel_rfl) (by kernel_rfl) (Step.refl _ _) ?_
    repeat (go_big_quiet_step (fail))
    refine wpQuiet_nil ?_
    rintro w2 ⟨⟨w2i, hw2⟩, he⟩
    have he' : w2 = w2i := he
    subst he'
    clear he
    obtain ⟨W3, hW3⟩ : ∃ W3, w2.alloc (.cells (msC ms0).toArray 31) = W3 := ⟨_, rfl⟩
    obtain ⟨b8, hb8⟩ : ∃ b, w2.heap.size = b := ⟨_, rfl⟩
    obtain ⟨xx, hxx⟩ : ∃ xx, X.getD m ms0 = xx := ⟨_, rfl⟩
    have hs3 : Step [] W W3 := by rw [← hW3]; exact ((Step.refl [] W).drew.then hw2 (by simp)).alloc _
    obtain ⟨hm3, hbm3, hsm3⟩ := box_m w2.drew xx
    have hst0 := Try.store_m _ _ _ xx hm3
    have hW3d : w2.drew.alloc (.cells (msC ms0).toArray 31) = W3.drew := by rw [← hW3]; rfl
    have hb8d : w2.drew.heap.size = b8 := hb8
    rw [hW3d, hb8d] at hst0 hbm3 hsm3
    have H3 := Lib.hid (And.intro hW3 hb8)
    obtain ⟨W4, hW4⟩ : ∃ W4, W3.drew.setCells b8 0 (msC xx) = W4 := ⟨_, rfl⟩
    rw [hW4] at hst0 hsm3 hbm3
    have hs4 : Step [] W W4 := (((Step.refl [] W).drew.then hw2 (by simp)).drew).then hsm3 (by simp)
    have hR4 : Rd w0 nb mb mo q T X n f P ((b8, .cells (msC xx).toArray 31 (0, 0)) :: (b5, .cells (actC k (m : Int) j u x).toArray 43 (0, 0)) :: XO) W4 := ⟨HR.out.st.add hs4 [(b8, .cells (msC xx).toArray 31 (0, 0))] (fun y hy => by
      simp only [List.mem_cons, List.not_mem_nil, or_false] at hy
      subst hy
      exact ⟨by have := (((Step.refl [] W).drew.then hw2 (by simp))).size; show W.heap.size ≤ b8; omega, hbm3⟩), HR.out.rx, HR.out.wr, HR.out.n64, HR.out.nq, HR.out.pq⟩
    have HR4 := Lib.hid hR4
    have HLB := Lib.hid (show W.heap.size ≤ b8 by have := (((Step.refl [] W).drew.then hw2 (by simp))).size; show W.heap.size ≤ b8; omega)
    obtain ⟨g, o, c, pv, hmo, hgl, hrow⟩ := HR.out.row m (by rw [HNN.out]; exact hmN)
    rw [hxx] at hrow
    have n0 := (hmo.step hs3 (by simp)).drew.cell 0
    simp only [List.getElem?_toArray, List.getElem?_cons_zero] at n0
    rw [HNN.out] at n0
    have n1 := (HBK.out.step hs3 (by simp)).drew.cell 1
    have n2 := row_step hrow hgl hs3.drew (by simp)
    have HXX := Lib.hid hxx
    clear hnn d1 d2 hW3 hb8 hmo hrow hs4 hR4 hW4 hm3 hbm3 hsm3 hs3 hW3d hb8d hw2 c0 c1 c2 c3 c5 c6 m0 hxx
    go_wp2_with (rw [H3.out.1, H3.out.2])
    refine wp_region_still_tail 8 (by kernel_rfl) (by kernel_rfl) ?_
    simp only [List.take_succ_cons, List.take_zero, List.drop_succ_cons, List.drop_zero]
    refine wpStill_of_quiet _ _ ?_
    have hne : Nonempty (ClsW (fun X => X = W3.drew)) := ⟨⟨_, rfl⟩⟩
    have d1 : ∀ x : ClsW (fun X => X = W3.drew), x.val.cell? ⟨mo, 0, none⟩ = some (.slice (some ⟨g, o, none⟩) N c) := fun x => by rw [x.ok]; exact n0
    have d4 : ∀ x : ClsW (fun X => X = W3.drew), x.val.cell? ⟨b5, 1, none⟩ = some (.int .i64 (m : Int)) := fun x => by rw [x.ok]; exact n1
    have d5 : ∀ x : ClsW (fun X => X = W3.drew), rowC x.val g (o + m * 11) 11 = some (msC xx) := fun x => by rw [x.ok]; exact n2
    have q3 : (0 : Int) ≤ (m : Int) := by omega
    repeat (go_big_quiet_step (fail))
    refine wpQuiet_nil ?_
    change wpList _ _ _ _ _ W3.drew
    obtain ⟨c0, c1, c2, c3, c5, c6⟩ := act_cells (HR4.out.st.blk (b := b5) (C := (actC k (m : Int) j u x).toArray) (T' := 43) (.tail _ (.head _)))
    have hltW4 := (HR4.out.st.blk (b := b5) (C := (actC k (m : Int) j u x).toArray) (T' := 43) (.tail _ (.head _))).lt
    clear hne d1 d4 d5 n0 n1 n2 hgl
    have hrow := act_row (HR4.out.st.blk (b := b5) (C := (actC k (m : Int) j u x).toArray) (T' := 43) (.tail _ (.head _)))
    obtain ⟨R, hR⟩ : ∃ R, hasW P x.fr x.too = R := ⟨_, rfl⟩
    have HCW := Lib.hid (HR4.out.st.mwalled x.fr x.too)
    rw [hR] at HCW
    have HRR := Lib.hid hR
    clear hR
    rcases HKK.out with rfl | rfl | rfl
    all_goals
      go_wp2_with fail
      refine HCW.out.mono ?_
      rintro e w5 ⟨rfl, hs5⟩
      have e6 := row_step hrow hltW4 hs5 (by simp)
      have HR5 := Lib.hid (HR4.out.st.step hs5)
      clear c0 c1 c2 c3 c5 c6 hrow hs5 HCW
      cases R with
      | false =>
        go_wp2_with fail
        refine (HR5.out.put x (by rw [HR4.out.lenX]; exact HR4.out.n64)).mono ?_
        rintro e w6 ⟨rfl, hS6⟩
        have hrow := act_row (hS6.blk (b := b5) (C := (actC _ (m : Int) j u x).toArray) (T' := 43) (.tail _ (.head _)))
        have HS6 := Lib.hid hS6
        obtain ⟨D, hD⟩ := HGX.out.ok
        have HCS := Lib.hid (hS6.send_yes x M D (hD.step hS6.st (fun k _ => List.not_mem_nil)) HGX.out.few HR4.out.n64 HGX.out.wa HGX.out.wb (by rw [← HR4.out.wr]; exact HRR.out))
        clear hS6 hD e6
        go_wp2_with fail
        refine HCS.out.mono ?_
        rintro e w7 ⟨rfl, t, ht, hS7⟩
        have HF := Lib.hid (show RdE w0 nb mb mo (q + 1) XO w7 from ⟨_, _, _, _, _, ⟨hS7.less (fun y hy => .tail _ (.tail _ hy)), HR4.out.rx.put (by rw [ht]; exact HGX.out), HR4.out.wr, putT_le HR4.out.n64 _, Nat.le_succ_of_le HR4.out.nq, Nat.le_succ_of_le HR4.out.pq⟩⟩)
        clear hS7 ht hrow HCS
        go_wp2_with fail
        go_ret
        exact ⟨rfl, HF.out⟩
      | true =>
        have HCS := Lib.hid (HR5.out.send_no x HGX.out.wa HGX.out.wb (by rw [← HR4.out.wr]; exact HRR.out))
        go_wp2_with fail
        refine HCS.out.mono ?_
        rintro e w7 ⟨rfl, hS7⟩
        have HF := Lib.hid (show RdE w0 nb mb mo (q + 1) XO w7 from ⟨_, _, _, _, _, ⟨hS7.less (fun y hy => .tail _ (.tail _ hy)), HR4.out.rx, HR4.out.wr, HR4.out.n64, Nat.le_succ_of_le HR4.out.nq, Nat.le_succ_of_le HR4.out.pq⟩⟩)
        clear hS7 HCS e6
        go_wp2_with fail
        go_ret
        exact ⟨rfl, HF.out⟩
  · have p1 : decide ((0 : Int) ≤ i) = true := by simpa using hi1
    have p2 : ¬ i < (N : Int) := hi2
    have HNO := Lib.hid (show hasI i N = false by unfold hasI; simp [hi1]; omega)
    refine region_cls (G := Step [] W.drew) (by kernel_rfl) (by kernel_rfl) (Step.refl _ _) ?_
    repeat (go_big_quiet_step (fail))
    refine wpQuiet_nil ?_
    rintro w2 ⟨⟨w2i, hw2⟩, he⟩
    have he' : w2 = w2i := he
    subst he'
    clear he
    obtain ⟨W4, hW4⟩ : ∃ W4, w2.alloc (.cells (msC ms0).toArray 31) = W4 := ⟨_, rfl⟩
    obtain ⟨b8, hb8⟩ : ∃ b, w2.heap.size = b := ⟨_, rfl⟩
    have H3 := Lib.hid (And.intro hW4 hb8)
    have hs2 : Step [] W w2 := (Step.refl [] W).drew.then hw2 (by simp)
    have hs4 : Step [] W W4 := by rw [← hW4]; exact hs2.alloc _
    have hbm4 : Blk W4 b8 (msC ms0).toArray 31 := by rw [← hW4, ← hb8]; exact Blk.new _ _ _
    have hR4 : Rd w0 nb mb mo q T X n f P ((b8, .cells (msC ms0).toArray 31 (0, 0)) :: (b5, .cells (actC k i j u x).toArray 43 (0, 0)) :: XO) W4 := ⟨HR.out.st.add hs4 [(b8, .cells (msC ms0).toArray 31 (0, 0))] (fun y hy => by
      simp only [List.mem_cons, List.not_mem_nil, or_false] at hy
      subst hy
      exact ⟨by rw [← hb8]; exact hs2.size, hbm4⟩), HR.out.rx, HR.out.wr, HR.out.n64, HR.out.nq, HR.out.pq⟩
    obtain ⟨xx, hxx⟩ : ∃ xx, ms0 = xx := ⟨_, rfl⟩
    have HXX := Lib.hid hxx
    rw [hxx] at hR4
    have HLB := Lib.hid (show W.heap.size ≤ b8 by rw [← hb8]; exact hs2.size)
    have HR4 := Lib.hid hR4
    clear hnn d1 d2 hb8 hs2 hs4 hbm4 hR4 hw2 c0 c1 c2 c3 c5 c6 m0 hxx
    obtain ⟨c0, c1, c2, c3, c5, c6⟩ := act_cells (HR4.out.st.blk (b := b5) (C := (actC k i j u x).toArray) (T' := 43) (.tail _ (.head _)))
    have hltW4 := (HR4.out.st.blk (b := b5) (C := (actC k i j u x).toArray) (T' := 43) (.tail _ (.head _))).lt
    clear hW4
    have hrow := act_row (HR4.out.st.blk (b := b5) (C := (actC k i j u x).toArray) (T' := 43) (.tail _ (.head _)))
    obtain ⟨R, hR⟩ : ∃ R, hasW P x.fr x.too = R := ⟨_, rfl⟩
    have HCW := Lib.hid (HR4.out.st.mwalled x.fr x.too)
    rw [hR] at HCW
    have HRR := Lib.hid hR
    clear hR
    rcases HKK.out with rfl | rfl | rfl
    all_goals
      go_wp2_with (rw [H3.out.1, H3.out.2])
      refine HCW.out.mono ?_
      rintro e w5 ⟨rfl, hs5⟩
      have e6 := row_step hrow hltW4 hs5 (by simp)
      have HR5 := Lib.hid (HR4.out.st.step hs5)
      clear c0 c1 c2 c3 c5 c6 hrow hs5 HCW
      cases R with
      | false =>
        go_wp2_with fail
        refine (HR5.out.put x (by rw [HR4.out.lenX]; exact HR4.out.n64)).mono ?_
        rintro e w6 ⟨rfl, hS6⟩
        have hrow := act_row (hS6.blk (b := b5) (C := (actC _ i j u x).toArray) (T' := 43) (.tail _ (.head _)))
        have HS6 := Lib.hid hS6
        obtain ⟨D, hD⟩ := HGX.out.ok
        have HCS := Lib.hid (hS6.send_yes x M D (hD.step hS6.st (fun k _ => List.not_mem_nil)) HGX.out.few HR4.out.n64 HGX.out.wa HGX.out.wb (by rw [← HR4.out.wr]; exact HRR.out))
        clear hS6 hD e6
        go_wp2_with fail
        refine HCS.out.mono ?_
        rintro e w7 ⟨rfl, t, ht, hS7⟩
        have HF := Lib.hid (show RdE w0 nb mb mo (q + 1) XO w7 from ⟨_, _, _, _, _, ⟨hS7.less (fun y hy => .tail _ (.tail _ hy)), HR4.out.rx.put (by rw [ht]; exact HGX.out), HR4.out.wr, putT_le HR4.out.n64 _, Nat.le_succ_of_le HR4.out.nq, Nat.le_succ_of_le HR4.out.pq⟩⟩)
        clear hS7 ht hrow HCS
        go_wp2_with fail
        go_ret
        exact ⟨rfl, HF.out⟩
      | true =>
        have HCS := Lib.hid (HR5.out.send_no x HGX.out.wa HGX.out.wb (by rw [← HR4.out.wr]; exact HRR.out))
        go_wp2_with fail
        refine HCS.out.mono ?_
        rintro e w7 ⟨rfl, hS7⟩
        have HF := Lib.hid (show RdE w0 nb mb mo (q + 1) XO w7 from ⟨_, _, _, _, _, ⟨hS7.less (fun y hy => .tail _ (.tail _ hy)), HR4.out.rx, HR4.out.wr, HR4.out.n64, Nat.le_succ_of_le HR4.out.nq, Nat.le_succ_of_le HR4.out.pq⟩⟩)
        clear hS7 HCS e6
        go_wp2_with fail
        go_ret
        exact ⟨rfl, HF.out⟩
  · have p1 : decide ((0 : Int) ≤ i) = false := by simpa using hi1
    have p2 : ¬ (0 ≤ i) := hi1
    have HNO := Lib.hid (show hasI i N = false by unfold hasI; simp [hi1])
    refine region_cls (G := Step [] W.drew) (by kernel_rfl) (by kernel_rfl) (Step.refl _ _) ?_
    repeat (go_big_quiet_step (fail))
    refine wpQuiet_nil ?_
    rintro w2 ⟨⟨w2i, hw2⟩, he⟩
    have he' : w2 = w2i := he
    subst he'
    clear he
    obtain ⟨W4, hW4⟩ : ∃ W4, w2.alloc (.cells (msC ms0).toArray 31) = W4 := ⟨_, rfl⟩
    obtain ⟨b8, hb8⟩ : ∃ b, w2.heap.size = b := ⟨_, rfl⟩
    have H3 := Lib.hid (And.intro hW4 hb8)
    have hs2 : Step [] W w2 := (Step.refl [] W).drew.then hw2 (by simp)
    have hs4 : Step [] W W4 := by rw [← hW4]; exact hs2.alloc _
    have hbm4 : Blk W4 b8 (msC ms0).toArray 31 := by rw [← hW4, ← hb8]; exact Blk.new _ _ _
    have hR4 : Rd w0 nb mb mo q T X n f P ((b8, .cells (msC ms0).toArray 31 (0, 0)) :: (b5, .cells (actC k i j u x).toArray 43 (0, 0)) :: XO) W4 := ⟨HR.out.st.add hs4 [(b8, .cells (msC ms0).toArray 31 (0, 0))] (fun y hy => by
      simp only [List.mem_cons, List.not_mem_nil, or_false] at hy
      subst hy
      exact ⟨by rw [← hb8]; exact hs2.size, hbm4⟩), HR.out.rx, HR.out.wr, HR.out.n64, HR.out.nq, HR.out.pq⟩
    obtain ⟨xx, hxx⟩ : ∃ xx, ms0 = xx := ⟨_, rfl⟩
    have HXX := Lib.hid hxx
    rw [hxx] at hR4
    have HLB := Lib.hid (show W.heap.size ≤ b8 by rw [← hb8]; exact hs2.size)
    have HR4 := Lib.hid hR4
    clear hnn d1 d2 hb8 hs2 hs4 hbm4 hR4 hw2 c0 c1 c2 c3 c5 c6 m0 hxx
    obtain ⟨c0, c1, c2, c3, c5, c6⟩ := act_cells (HR4.out.st.blk (b := b5) (C := (actC k i j u x).toArray) (T' := 43) (.tail _ (.head _)))
    have hltW4 := (HR4.out.st.blk (b := b5) (C := (actC k i j u x).toArray) (T' := 43) (.tail _ (.head _))).lt
    clear hW4
    have hrow := act_row (HR4.out.st.blk (b := b5) (C := (actC k i j u x).toArray) (T' := 43) (.tail _ (.head _)))
    obtain ⟨R, hR⟩ : ∃ R, hasW P x.fr x.too = R := ⟨_, rfl⟩
    have HCW := Lib.hid (HR4.out.st.mwalled x.fr x.too)
    rw [hR] at HCW
    have HRR := Lib.hid hR
    clear hR
    rcases HKK.out with rfl | rfl | rfl
    all_goals
      go_wp2_with (rw [H3.out.1, H3.out.2])
      refine HCW.out.mono ?_
      rintro e w5 ⟨rfl, hs5⟩
      have e6 := row_step hrow hltW4 hs5 (by simp)
      have HR5 := Lib.hid (HR4.out.st.step hs5)
      clear c0 c1 c2 c3 c5 c6 hrow hs5 HCW
      cases R with
      | false =>
        go_wp2_with fail
        refine (HR5.out.put x (by rw [HR4.out.lenX]; exact HR4.out.n64)).mono ?_
        rintro e w6 ⟨rfl, hS6⟩
        have hrow := act_row (hS6.blk (b := b5) (C := (actC _ i j u x).toArray) (T' := 43) (.tail _ (.head _)))
        have HS6 := Lib.hid hS6
        obtain ⟨D, hD⟩ := HGX.out.ok
        have HCS := Lib.hid (hS6.send_yes x M D (hD.step hS6.st (fun k _ => List.not_mem_nil)) HGX.out.few HR4.out.n64 HGX.out.wa HGX.out.wb (by rw [← HR4.out.wr]; exact HRR.out))
        clear hS6 hD e6
        go_wp2_with fail
        refine HCS.out.mono ?_
        rintro e w7 ⟨rfl, t, ht, hS7⟩
        have HF := Lib.hid (show RdE w0 nb mb mo (q + 1) XO w7 from ⟨_, _, _, _, _, ⟨hS7.less (fun y hy => .tail _ (.tail _ hy)), HR4.out.rx.put (by rw [ht]; exact HGX.out), HR4.out.wr, putT_le HR4.out.n64 _, Nat.le_succ_of_le HR4.out.nq, Nat.le_succ_of_le HR4.out.pq⟩⟩)
        clear hS7 ht hrow HCS
        go_wp2_with fail
        go_ret
        exact ⟨rfl, HF.out⟩
      | true =>
        have HCS := Lib.hid (HR5.out.send_no x HGX.out.wa HGX.out.wb (by rw [← HR4.out.wr]; exact HRR.out))
        go_wp2_with fail
        refine HCS.out.mono ?_
        rintro e w7 ⟨rfl, hS7⟩
        have HF := Lib.hid (show RdE w0 nb mb mo (q + 1) XO w7 from ⟨_, _, _, _, _, ⟨hS7.less (fun y hy => .tail _ (.tail _ hy)), HR4.out.rx, HR4.out.wr, HR4.out.n64, Nat.le_succ_of_le HR4.out.nq, Nat.le_succ_of_le HR4.out.pq⟩⟩)
        clear hS7 HCS e6
        go_wp2_with fail
        go_ret
        exact ⟨rfl, HF.out⟩
end
end Go.Proofs.Ytminpglkipnhcaa
end

section
namespace Go.Proofs.Ytminpglkipnhcaa
set_option linter.unusedVariables false
set_option linter.unusedSimpArgs false
open Go.RowKit
attribute [local go_sem ↓] exec_load_m exec_store_m
attribute [local go_sem] Try.load_m row_drew Try.store_m
section
variable {w0 w : World} {nb mb mo q : Nat} {T : List Tm} {X : List Ms} {n : Nat} {f : PK → Option Bool} {P : List (Int × Int)} {XO : List (Nat × Obj)}
set_option maxRecDepth 100000 in
set_option maxHeartbeats 4000000 in
theorem do_lose (k i j : Int) (u : Bool) (x : Ms) (M : PM) (h : Rd w0 nb mb mo q T X n f P XO w) (hx : Good w0 x M) (hk : k = 4) :
    Calls Try.prog 11 #[.pointer (some ⟨nb, 0, none⟩), .pointer (some ⟨mo, 0, none⟩), .agg (actC k i j u x).toArray] w fun e w' => e = .returned (.bool true) ∧ RdE w0 nb mb mo (q + 1) XO w' := by
  obtain ⟨N, hN⟩ : ∃ N, T.length = N := ⟨_, rfl⟩
  have HKK := Lib.hid hk
  clear hk
  have HH := Lib.hid h
  have hzv := zeroM
  unfold msV at hzv
  have hb := Blk.new w (actC k i j u x).toArray 43
  have hs := (Step.refl [] w).alloc (.cells (actC k i j u x).toArray 43)
  obtain ⟨W, hW⟩ : ∃ W, w.alloc (.cells (actC k i j u x).toArray 43) = W := ⟨_, rfl⟩
  obtain ⟨b5, hb5⟩ : ∃ b, w.heap.size = b := ⟨_, rfl⟩
  have HW := Lib.hid (And.intro hW hb5)
  rw [hW] at hb hs
  rw [hb5] at hb
  have hst := h.st.add hs [(b5, .cells (actC k i j u x).toArray 43 (0, 0))] (fun y hy => by
    simp only [List.mem_cons, List.not_mem_nil, or_false] at hy
    subst hy
    exact ⟨Nat.le_of_eq hb5, hb⟩)
  have hR : Rd w0 nb mb mo q T X n f P ([(b5, .cells (actC k i j u x).toArray 43 (0, 0))] ++ XO) W := ⟨hst, h.rx, h.wr, h.n64, h.nq, h.pq⟩
  have HR := Lib.hid hR
  have HBK := Lib.hid hb
  have HGX := Lib.hid hx
  obtain ⟨c0, c1, c2, c3, c5, c6⟩ := act_cells hb
  obtain ⟨am, cm, pv, hm⟩ := hR.mod
  have m0 := hm.cell 0
  simp only [List.getElem?_toArray, List.getElem?_cons_zero] at m0
  rw [hN] at m0
  have h64 := h.n64
  rw [hN] at h64
  have ltb := hb.lt
  have ltm := hm.lt
  have HNN := Lib.hid hN
  clear h hx hW hb5 hb hs hst hR hm hN
  go_enter Try.func11, Try.ntmps11
  go_wp2_with fail
  rw [HW.out.1, HW.out.2]
  have hnn : Nonempty (ClsW (Step [] W.drew)) := ⟨⟨_, Step.refl _ _⟩⟩
  have d1 : ∀ y : ClsW (Step [] W.drew), y.val.cell? ⟨b5, 1, none⟩ = some (.int .i64 i) := fun y => (y.ok.cell ltb (by simp)).trans c1
  have d2 : ∀ y : ClsW (Step [] W.drew), y.val.cell? ⟨mo, 0, none⟩ = some (.slice am N cm) := fun y => (y.ok.cell ltm (by simp)).trans m0
  have hi : (∃ m : Nat, i = (m : Int) ∧ m < N) ∨ (0 ≤ i ∧ ¬ i < (N : Int)) ∨ (¬ 0 ≤ i) := by
    by_cases h1 : 0 ≤ i
    · by_cases h2 : i < (N : Int)
      · exact .inl ⟨i.toNat, by omega, by omega⟩
      · exact .inr (.inl ⟨h1, h2⟩)
    · exact .inr (.inr h1)
  rcases hi with ⟨m, rfl, hmN⟩ | ⟨hi1, hi2⟩ | hi1
  · have q1 : decide ((0 : Int) ≤ (m : Int)) = true := by simp
    have q2 : (m : Int) < (N : Int) := by omega
    refine region_cls (G := Step [] W.drew) (by kernel_rfl) (by kernel_rfl) (Step.refl _ _) ?_
    repeat (go_big_quiet_step (fail))
    refine wpQuiet_nil ?_
    rintro w2 ⟨⟨w2i, hw2⟩, he⟩
    have he' : w2 = w2i := he
    subst he'
    clear he
    obtain ⟨W3, hW3⟩ : ∃ W3, w2.alloc (.cells (msC ms0).toArray 31) = W3 := ⟨_, rfl⟩
    obtain ⟨b8, hb8⟩ : ∃ b, w2.heap.size = b := ⟨_, rfl⟩
    obtain ⟨xx, hxx⟩ : ∃ xx, X.getD m ms0 = xx := ⟨_, rfl⟩
    have hs3 : Step [] W W3 := by rw [← hW3]; exact ((Step.refl [] W).drew.then hw2 (by simp)).alloc _
    obtain ⟨hm3, hbm3, hsm3⟩ := box_m w2.drew xx
    have hst0 := Try.store_m _ _ _ xx hm3
    have hW3d : w2.drew.alloc (.cells (msC ms0).toArray 31) = W3.drew := by rw [← hW3]; rfl
    have hb8d : w2.drew.heap.size = b8 := hb8
    rw [hW3d, hb8d] at hst0 hbm3 hsm3
    have H3 := Lib.hid (And.intro hW3 hb8)
    obtain ⟨W4, hW4⟩ : ∃ W4, W3.drew.setCells b8 0 (msC xx) = W4 := ⟨_, rfl⟩
    rw [hW4] at hst0 hsm3 hbm3
    have hs4 : Step [] W W4 := (((Step.refl [] W).drew.then hw2 (by simp)).drew).then hsm3 (by simp)
    have hR4 : Rd w0 nb mb mo q T X n f P ((b8, .cells (msC xx).toArray 31 (0, 0)) :: (b5, .cells (actC k (m : Int) j u x).toArray 43 (0, 0)) :: XO) W4 := ⟨HR.out.st.add hs4 [(b8, .cells (msC xx).toArray 31 (0, 0))] (fun y hy => by
      simp only [List.mem_cons, List.not_mem_nil, or_false] at hy
      subst hy
      exact ⟨by have := (((Step.refl [] W).drew.then hw2 (by simp))).size; show W.heap.size ≤ b8; omega, hbm3⟩), HR.out.rx, HR.out.wr, HR.out.n64, HR.out.nq, HR.out.pq⟩
    have HR4 := Lib.hid hR4
    have HLB := Lib.hid (show W.heap.size ≤ b8 by have := (((Step.refl [] W).drew.then hw2 (by simp))).size; show W.heap.size ≤ b8; omega)
    obtain ⟨g, o, c, pv, hmo, hgl, hrow⟩ := HR.out.row m (by rw [HNN.out]; exact hmN)
    rw [hxx] at hrow
    have n0 := (hmo.step hs3 (by simp)).drew.cell 0
    simp only [List.getElem?_toArray, List.getElem?_cons_zero] at n0
    rw [HNN.out] at n0
    have n1 := (HBK.out.step hs3 (by simp)).drew.cell 1
    have n2 := row_step hrow hgl hs3.drew (by simp)
    have HXX := Lib.hid hxx
    clear hnn d1 d2 hW3 hb8 hmo hrow hs4 hR4 hW4 hm3 hbm3 hsm3 hs3 hW3d hb8d hw2 c0 c1 c2 c3 c5 c6 m0 hxx
    go_wp2_with (rw [H3.out.1, H3.out.2])
    refine wp_region_still_tail 8 (by kernel_rfl) (by kernel_rfl) ?_
    simp only [List.take_succ_cons, List.take_zero, List.drop_succ_cons, List.drop_zero]
    refine wpStill_of_quiet _ _ ?_
    have hne : Nonempty (ClsW (fun X => X = W3.drew)) := ⟨⟨_, rfl⟩⟩
    have d1 : ∀ x : ClsW (fun X => X = W3.drew), x.val.cell? ⟨mo, 0, none⟩ = some (.slice (some ⟨g, o, none⟩) N c) := fun x => by rw [x.ok]; exact n0
    have d4 : ∀ x : ClsW (fun X => X = W3.drew), x.val.cell? ⟨b5, 1, none⟩ = some (.int .i64 (m : Int)) := fun x => by rw [x.ok]; exact n1
    have d5 : ∀ x : ClsW (fun X => X = W3.drew), rowC x.val g (o + m * 11) 11 = some (msC xx) := fun x => by rw [x.ok]; exact n2
    have q3 : (0 : Int) ≤ (m : Int) := by omega
    repeat (go_big_quiet_step (fail))
    refine wpQuiet_nil ?_
    change wpList _ _ _ _ _ W3.drew
    obtain ⟨c0, c1, c2, c3, c5, c6⟩ := act_cells (HR4.out.st.blk (b := b5) (C := (actC k (m : Int) j u x).toArray) (T' := 43) (.tail _ (.head _)))
    have hltW4 := (HR4.out.st.blk (b := b5) (C := (actC k (m : Int) j u x).toArray) (T' := 43) (.tail _ (.head _))).lt
    clear hne d1 d4 d5 n0 n1 n2 hgl
    have hk := HKK.out
    subst hk
    have hmT : m < T.length := by rw [HNN.out]; exact hmN
    have HMT := Lib.hid hmT
    have hgd := HR4.out.rx.at m (by rw [HR4.out.lenX]; exact hmT)
    rw [HXX.out, mapM_getD T m hmT] at hgd
    have HGD := Lib.hid hgd
    clear hgd hmT

    have HCC := Lib.hid (HR4.out.st.cut m (by rw [HR4.out.lenX]; exact HMT.out))
    go_wp2_with fail
    refine HCC.out.mono ?_
    rintro e w6 ⟨rfl, hS6⟩
    have HCL := Lib.hid (hS6.lose_yes m HMT.out)
    obtain ⟨-, k1, -⟩ := act_cells (hS6.blk (b := b5) (C := (actC 4 (m : Int) j u x).toArray) (T' := 43) (.tail _ (.head _)))
    clear hS6 HCC c0 c1 c2 c3 c5 c6
    go_wp2_with fail
    refine HCL.out.mono ?_
    rintro e w7 ⟨rfl, hS7⟩
    clear k1
    have HF := Lib.hid (show RdE w0 nb mb mo (q + 1) XO w7 from ⟨_, _, _, _, _, ⟨hS7.less (fun y hy => .tail _ (.tail _ hy)), (by rw [mapM_erase]; exact HR4.out.rx.erase m), HR4.out.wr, (by rw [List.length_eraseIdx]; have := HR4.out.n64; split <;> omega), Nat.le_succ_of_le HR4.out.nq, Nat.le_succ_of_le HR4.out.pq⟩⟩)
    clear hS7
    go_wp2_with fail
    go_ret
    exact ⟨rfl, HF.out⟩
  · have p1 : decide ((0 : Int) ≤ i) = true := by simpa using hi1
    have p2 : ¬ i < (N : Int) := hi2
    have HNO := Lib.hid (show hasI i N = false by unfold hasI; simp [hi1]; omega)
    refine region_cls (G := Step [] W.drew) (by kernel_rfl) (by kernel_rfl) (Step.refl _ _) ?_
    repeat (go_big_quiet_step (fail))
    refine wpQuiet_nil ?_
    rintro w2 ⟨⟨w2i, hw2⟩, he⟩
    have he' : w2 = w2i := he
    subst he'
    clear he
    obtain ⟨W4, hW4⟩ : ∃ W4, w2.alloc (.cells (msC ms0).toArray 31) = W4 := ⟨_, rfl⟩
    obtain ⟨b8, hb8⟩ : ∃ b, w2.heap.size = b := ⟨_, rfl⟩
    have H3 := Lib.hid (And.intro hW4 hb8)
    have hs2 : Step [] W w2 := (Step.refl [] W).drew.then hw2 (by simp)
    have hs4 : Step [] W W4 := by rw [← hW4]; exact hs2.alloc _
    have hbm4 : Blk W4 b8 (msC ms0).toArray 31 := by rw [← hW4, ← hb8]; exact Blk.new _ _ _
    have hR4 : Rd w0 nb mb mo q T X n f P ((b8, .cells (msC ms0).toArray 31 (0, 0)) :: (b5, .cells (actC k i j u x).toArray 43 (0, 0)) :: XO) W4 := ⟨HR.out.st.add hs4 [(b8, .cells (msC ms0).toArray 31 (0, 0))] (fun y hy => by
      simp only [List.mem_cons, List.not_mem_nil, or_false] at hy
      subst hy
      exact ⟨by rw [← hb8]; exact hs2.size, hbm4⟩), HR.out.rx, HR.out.wr, HR.out.n64, HR.out.nq, HR.out.pq⟩
    obtain ⟨xx, hxx⟩ : ∃ xx, ms0 = xx := ⟨_, rfl⟩
    have HXX := Lib.hid hxx
    rw [hxx] at hR4
    have HLB := Lib.hid (show W.heap.size ≤ b8 by rw [← hb8]; exact hs2.size)
    have HR4 := Lib.hid hR4
    clear hnn d1 d2 hb8 hs2 hs4 hbm4 hR4 hw2 c0 c1 c2 c3 c5 c6 m0 hxx
    obtain ⟨c0, c1, c2, c3, c5, c6⟩ := act_cells (HR4.out.st.blk (b := b5) (C := (actC k i j u x).toArray) (T' := 43) (.tail _ (.head _)))
    have hltW4 := (HR4.out.st.blk (b := b5) (C := (actC k i j u x).toArray) (T' := 43) (.tail _ (.head _))).lt
    clear hW4
    have hk := HKK.out
    subst hk
    have HCL := Lib.hid (HR4.out.st.lose_no i (by rw [HNN.out]; exact HNO.out))
    go_wp2_with (rw [H3.out.1, H3.out.2])
    refine HCL.out.mono ?_
    rintro e w7 ⟨rfl, rfl⟩
    have hS7 := HR4.out.st
    have HF := Lib.hid (show RdE w0 nb mb mo (q + 1) XO W4 from ⟨_, _, _, _, _, ⟨hS7.less (fun y hy => .tail _ (.tail _ hy)), HR4.out.rx, HR4.out.wr, HR4.out.n64, Nat.le_succ_of_le HR4.out.nq, Nat.le_succ_of_le HR4.out.pq⟩⟩)
    clear hS7
    go_wp2_with fail
    go_ret
    exact ⟨rfl, HF.out⟩
  · have p1 : decide ((0 : Int) ≤ i) = false := by simpa using hi1
    have p2 : ¬ (0 ≤ i) := hi1
    have HNO := Lib.hid (show hasI i N = false by unfold hasI; simp [hi1])
    refine region_cls (G := Step [] W.drew) (by kernel_rfl) (by kernel_rfl) (Step.refl _ _) ?_
    repeat (go_big_quiet_step (fail))
    refine wpQuiet_nil ?_
    rintro w2 ⟨⟨w2i, hw2⟩, he⟩
    have he' : w2 = w2i := he
    subst he'
    clear he
    obtain ⟨W4, hW4⟩ : ∃ W4, w2.alloc (.cells (msC ms0).toArray 31) = W4 := ⟨_, rfl⟩
    obtain ⟨b8, hb8⟩ : ∃ b, w2.heap.size = b := ⟨_, rfl⟩
    have H3 := Lib.hid (And.intro hW4 hb8)
    have hs2 : Step [] W w2 := (Step.refl [] W).drew.then hw2 (by simp)
    have hs4 : Step [] W W4 := by rw [← hW4]; exact hs2.alloc _
    have hbm4 : Blk W4 b8 (msC ms0).toArray 31 := by rw [← hW4, ← hb8]; exact Blk.new _ _ _
    have hR4 : Rd w0 nb mb mo q T X n f P ((b8, .cells (msC ms0).toArray 31 (0, 0)) :: (b5, .cells (actC k i j u x).toArray 43 (0, 0)) :: XO) W4 := ⟨HR.out.st.add hs4 [(b8, .cells (msC ms0).toArray 31 (0, 0))] (fun y hy => by
      simp only [List.mem_cons, List.not_mem_nil, or_false] at hy
      subst hy
      exact ⟨by rw [← hb8]; exact hs2.size, hbm4⟩), HR.out.rx, HR.out.wr, HR.out.n64, HR.out.nq, HR.out.pq⟩
    obtain ⟨xx, hxx⟩ : ∃ xx, ms0 = xx := ⟨_, rfl⟩
    have HXX := Lib.hid hxx
    rw [hxx] at hR4
    have HLB := Lib.hid (show W.heap.size ≤ b8 by rw [← hb8]; exact hs2.size)
    have HR4 := Lib.hid hR4
    clear hnn d1 d2 hb8 hs2 hs4 hbm4 hR4 hw2 c0 c1 c2 c3 c5 c6 m0 hxx
    obtain ⟨c0, c1, c2, c3, c5, c6⟩ := act_cells (HR4.out.st.blk (b := b5) (C := (actC k i j u x).toArray) (T' := 43) (.tail _ (.head _)))
    have hltW4 := (HR4.out.st.blk (b := b5) (C := (actC k i j u x).toArray) (T' := 43) (.tail _ (.head _))).lt
    clear hW4
    have hk := HKK.out
    subst hk
    have HCL := Lib.hid (HR4.out.st.lose_no i (by rw [HNN.out]; exact HNO.out))
    go_wp2_with (rw [H3.out.1, H3.out.2])
    refine HCL.out.mono ?_
    rintro e w7 ⟨rfl, rfl⟩
    have hS7 := HR4.out.st
    have HF := Lib.hid (show RdE w0 nb mb mo (q + 1) XO W4 from ⟨_, _, _, _, _, ⟨hS7.less (fun y hy => .tail _ (.tail _ hy)), HR4.out.rx, HR4.out.wr, HR4.out.n64, Nat.le_succ_of_le HR4.out.nq, Nat.le_succ_of_le HR4.out.pq⟩⟩)
    clear hS7
    go_wp2_with fail
    go_ret
    exact ⟨rfl, HF.out⟩
set_option maxRecDepth 100000 in
set_option maxHeartbeats 4000000 in
theorem do_twice (k i j : Int) (u : Bool) (x : Ms) (M : PM) (h : Rd w0 nb mb mo q T X n f P XO w) (hx : Good w0 x M) (hk : k = 5) :
    Calls Try.prog 11 #[.pointer (some ⟨nb, 0, none⟩), .pointer (some ⟨mo, 0, none⟩), .agg (actC k i j u x).toArray] w fun e w' => e = .returned (.bool true) ∧ RdE w0 nb mb mo (q + 1) XO w' := by
  obtain ⟨N, hN⟩ : ∃ N, T.length = N := ⟨_, rfl⟩
  have HKK := Lib.hid hk
  clear hk
  have HH := Lib.hid h
  have hzv := zeroM
  unfold msV at hzv
  have hb := Blk.new w (actC k i j u x).toArray 43
  have hs := (Step.refl [] w).alloc (.cells (actC k i j u x).toArray 43)
  obtain ⟨W, hW⟩ : ∃ W, w.alloc (.cells (actC k i j u x).toArray 43) = W := ⟨_, rfl⟩
  obtain ⟨b5, hb5⟩ : ∃ b, w.heap.size = b := ⟨_, rfl⟩
  have HW := Lib.hid (And.intro hW hb5)
  rw [hW] at hb hs
  rw [hb5] at hb
  have hst := h.st.add hs [(b5, .cells (actC k i j u x).toArray 43 (0, 0))] (fun y hy => by
    simp only [List.mem_cons, List.not_mem_nil, or_false] at hy
    subst hy
    exact ⟨Nat.le_of_eq hb5, hb⟩)
  have hR : Rd w0 nb mb mo q T X n f P ([(b5, .cells (actC k i j u x).toArray 43 (0, 0))] ++ XO) W := ⟨hst, h.rx, h.wr, h.n64, h.nq, h.pq⟩
  have HR := Lib.hid hR
  have HBK := Lib.hid hb
  have HGX := Lib.hid hx
  obtain ⟨c0, c1, c2, c3, c5, c6⟩ := act_cells hb
  obtain ⟨am, cm, pv, hm⟩ := hR.mod
  have m0 := hm.cell 0
  simp only [List.getElem?_toArray, List.getElem?_cons_zero] at m0
  rw [hN] at m0
  have h64 := h.n64
  rw [hN] at h64
  have ltb := hb.lt
  have ltm := hm.lt
  have HNN := Lib.hid hN
  clear h hx hW hb5 hb hs hst hR hm hN
  go_enter Try.func11, Try.ntmps11
  go_wp2_with fail
  rw [HW.out.1, HW.out.2]
  have hnn : Nonempty (ClsW (Step [] W.drew)) := ⟨⟨_, Step.refl _ _⟩⟩
  have d1 : ∀ y : ClsW (Step [] W.drew), y.val.cell? ⟨b5, 1, none⟩ = some (.int .i64 i) := fun y => (y.ok.cell ltb (by simp)).trans c1
  have d2 : ∀ y : ClsW (Step [] W.drew), y.val.cell? ⟨mo, 0, none⟩ = some (.slice am N cm) := fun y => (y.ok.cell ltm (by simp)).trans m0
  have hi : (∃ m : Nat, i = (m : Int) ∧ m < N) ∨ (0 ≤ i ∧ ¬ i < (N : Int)) ∨ (¬ 0 ≤ i) := by
    by_cases h1 : 0 ≤ i
    · by_cases h2 : i < (N : Int)
      · exact .inl ⟨i.toNat, by omega, by omega⟩
      · exact .inr (.inl ⟨h1, h2⟩)
    · exact .inr (.inr h1)
  rcases hi with ⟨m, rfl, hmN⟩ | ⟨hi1, hi2⟩ | hi1
  · have q1 : decide ((0 : Int) ≤ (m : Int)) = true := by simp
    have q2 : (m : Int) < (N : Int) := by omega
    refine region_cls (G := Step [] W.drew) (by kernel_rfl) (by kernel_rfl) (Step.refl _ _) ?_
    repeat (go_big_quiet_step (fail))
    refine wpQuiet_nil ?_
    rintro w2 ⟨⟨w2i, hw2⟩, he⟩
    have he' : w2 = w2i := he
    subst he'
    clear he
    obtain ⟨W3, hW3⟩ : ∃ W3, w2.alloc (.cells (msC ms0).toArray 31) = W3 := ⟨_, rfl⟩
    obtain ⟨b8, hb8⟩ : ∃ b, w2.heap.size = b := ⟨_, rfl⟩
    obtain ⟨xx, hxx⟩ : ∃ xx, X.getD m ms0 = xx := ⟨_, rfl⟩
    have hs3 : Step [] W W3 := by rw [← hW3]; exact ((Step.refl [] W).drew.then hw2 (by simp)).alloc _
    obtain ⟨hm3, hbm3, hsm3⟩ := box_m w2.drew xx
    have hst0 := Try.store_m _ _ _ xx hm3
    have hW3d : w2.drew.alloc (.cells (msC ms0).toArray 31) = W3.drew := by rw [← hW3]; rfl
    have hb8d : w2.drew.heap.size = b8 := hb8
    rw [hW3d, hb8d] at hst0 hbm3 hsm3
    have H3 := Lib.hid (And.intro hW3 hb8)
    obtain ⟨W4, hW4⟩ : ∃ W4, W3.drew.setCells b8 0 (msC xx) = W4 := ⟨_, rfl⟩
    rw [hW4] at hst0 hsm3 hbm3
    have hs4 : Step [] W W4 := (((Step.refl [] W).drew.then hw2 (by simp)).drew).then hsm3 (by simp)
    have hR4 : Rd w0 nb mb mo q T X n f P ((b8, .cells (msC xx).toArray 31 (0, 0)) :: (b5, .cells (actC k (m : Int) j u x).toArray 43 (0, 0)) :: XO) W4 := ⟨HR.out.st.add hs4 [(b8, .cells (msC xx).toArray 31 (0, 0))] (fun y hy => by
      simp only [List.mem_cons, List.not_mem_nil, or_false] at hy
      subst hy
      exact ⟨by have := (((Step.refl [] W).drew.then hw2 (by simp))).size; show W.heap.size ≤ b8; omega, hbm3⟩), HR.out.rx, HR.out.wr, HR.out.n64, HR.out.nq, HR.out.pq⟩
    have HR4 := Lib.hid hR4
    have HLB := Lib.hid (show W.heap.size ≤ b8 by have := (((Step.refl [] W).drew.then hw2 (by simp))).size; show W.heap.size ≤ b8; omega)
    obtain ⟨g, o, c, pv, hmo, hgl, hrow⟩ := HR.out.row m (by rw [HNN.out]; exact hmN)
    rw [hxx] at hrow
    have n0 := (hmo.step hs3 (by simp)).drew.cell 0
    simp only [List.getElem?_toArray, List.getElem?_cons_zero] at n0
    rw [HNN.out] at n0
    have n1 := (HBK.out.step hs3 (by simp)).drew.cell 1
    have n2 := row_step hrow hgl hs3.drew (by simp)
    have HXX := Lib.hid hxx
    clear hnn d1 d2 hW3 hb8 hmo hrow hs4 hR4 hW4 hm3 hbm3 hsm3 hs3 hW3d hb8d hw2 c0 c1 c2 c3 c5 c6 m0 hxx
    go_wp2_with (rw [H3.out.1, H3.out.2])
    refine wp_region_still_tail 8 (by kernel_rfl) (by kernel_rfl) ?_
    simp only [List.take_succ_cons, List.take_zero, List.drop_succ_cons, List.drop_zero]
    refine wpStill_of_quiet _ _ ?_
    have hne : Nonempty (ClsW (fun X => X = W3.drew)) := ⟨⟨_, rfl⟩⟩
    have d1 : ∀ x : ClsW (fun X => X = W3.drew), x.val.cell? ⟨mo, 0, none⟩ = some (.slice (some ⟨g, o, none⟩) N c) := fun x => by rw [x.ok]; exact n0
    have d4 : ∀ x : ClsW (fun X => X = W3.drew), x.val.cell? ⟨b5, 1, none⟩ = some (.int .i64 (m : Int)) := fun x => by rw [x.ok]; exact n1
    have d5 : ∀ x : ClsW (fun X => X = W3.drew), rowC x.val g (o + m * 11) 11 = some (msC xx) := fun x => by rw [x.ok]; exact n2
    have q3 : (0 : Int) ≤ (m : Int) := by omega
    repeat (go_big_quiet_step (fail))
    refine wpQuiet_nil ?_
    change wpList _ _ _ _ _ W3.drew
    obtain ⟨c0, c1, c2, c3, c5, c6⟩ := act_cells (HR4.out.st.blk (b := b5) (C := (actC k (m : Int) j u x).toArray) (T' := 43) (.tail _ (.head _)))
    have hltW4 := (HR4.out.st.blk (b := b5) (C := (actC k (m : Int) j u x).toArray) (T' := 43) (.tail _ (.head _))).lt
    clear hne d1 d4 d5 n0 n1 n2 hgl
    have hk := HKK.out
    subst hk
    have hmT : m < T.length := by rw [HNN.out]; exact hmN
    have HMT := Lib.hid hmT
    have hgd := HR4.out.rx.at m (by rw [HR4.out.lenX]; exact hmT)
    rw [HXX.out, mapM_getD T m hmT] at hgd
    have HGD := Lib.hid hgd
    clear hgd hmT

    have hr8 := msg_row (HR4.out.st.blk (b := b8) (C := (msC xx).toArray) (T' := 31) (.head _))
    have HCC := Lib.hid (HR4.out.st.put xx (by rw [HR4.out.lenX]; exact HR4.out.n64))
    go_wp2_with fail
    refine HCC.out.mono ?_
    rintro e w6 ⟨rfl, hS6⟩
    have HCL := Lib.hid (hS6.twice_yes m HMT.out HR4.out.n64)
    obtain ⟨-, k1, -⟩ := act_cells (hS6.blk (b := b5) (C := (actC 5 (m : Int) j u x).toArray) (T' := 43) (.tail _ (.head _)))
    clear hS6 HCC c0 c1 c2 c3 c5 c6 hr8
    go_wp2_with fail
    refine HCL.out.mono ?_
    rintro e w7 ⟨rfl, t, ht, hS7⟩
    clear k1
    have HF := Lib.hid (show RdE w0 nb mb mo (q + 1) XO w7 from ⟨_, _, _, _, _, ⟨hS7.less (fun y hy => .tail _ (.tail _ hy)), HR4.out.rx.put (by rw [ht]; exact HGD.out), HR4.out.wr, putT_le HR4.out.n64 _, Nat.le_succ_of_le HR4.out.nq, Nat.le_succ_of_le HR4.out.pq⟩⟩)
    clear hS7
    go_wp2_with fail
    go_ret
    exact ⟨rfl, HF.out⟩
  · have p1 : decide ((0 : Int) ≤ i) = true := by simpa using hi1
    have p2 : ¬ i < (N : Int) := hi2
    have HNO := Lib.hid (show hasI i N = false by unfold hasI; simp [hi1]; omega)
    refine region_cls (G := Step [] W.drew) (by kernel_rfl) (by kernel_rfl) (Step.refl _ _) ?_
    repeat (go_big_quiet_step (fail))
    refine wpQuiet_nil ?_
    rintro w2 ⟨⟨w2i, hw2⟩, he⟩
    have he' : w2 = w2i := he
    subst he'
    clear he
    obtain ⟨W4, hW4⟩ : ∃ W4, w2.alloc (.cells (msC ms0).toArray 31) = W4 := ⟨_, rfl⟩
    obtain ⟨b8, hb8⟩ : ∃ b, w2.heap.size = b := ⟨_, rfl⟩
    have H3 := Lib.hid (And.intro hW4 hb8)
    have hs2 : Step [] W w2 := (Step.refl [] W).drew.then hw2 (by simp)
    have hs4 : Step [] W W4 := by rw [← hW4]; exact hs2.alloc _
    have hbm4 : Blk W4 b8 (msC ms0).toArray 31 := by rw [← hW4, ← hb8]; exact Blk.new _ _ _
    have hR4 : Rd w0 nb mb mo q T X n f P ((b8, .cells (msC ms0).toArray 31 (0, 0)) :: (b5, .cells (actC k i j u x).toArray 43 (0, 0)) :: XO) W4 := ⟨HR.out.st.add hs4 [(b8, .cells (msC ms0).toArray 31 (0, 0))] (fun y hy => by
      simp only [List.mem_cons, List.not_mem_nil, or_false] at hy
      subst hy
      exact ⟨by rw [← hb8]; exact hs2.size, hbm4⟩), HR.out.rx, HR.out.wr, HR.out.n64, HR.out.nq, HR.out.pq⟩
    obtain ⟨xx, hxx⟩ : ∃ xx, ms0 = xx := ⟨_, rfl⟩
    have HXX := Lib.hid hxx
    rw [hxx] at hR4
    have HLB := Lib.hid (show W.heap.size ≤ b8 by rw [← hb8]; exact hs2.size)
    have HR4 := Lib.hid hR4
    clear hnn d1 d2 hb8 hs2 hs4 hbm4 hR4 hw2 c0 c1 c2 c3 c5 c6 m0 hxx
    obtain ⟨c0, c1, c2, c3, c5, c6⟩ := act_cells (HR4.out.st.blk (b := b5) (C := (actC k i j u x).toArray) (T' := 43) (.tail _ (.head _)))
    have hltW4 := (HR4.out.st.blk (b := b5) (C := (actC k i j u x).toArray) (T' := 43) (.tail _ (.head _))).lt
    clear hW4
    have hk := HKK.out
    subst hk
    have HCL := Lib.hid (HR4.out.st.twice_no i (by rw [HNN.out]; exact HNO.out))
    go_wp2_with (rw [H3.out.1, H3.out.2])
    refine HCL.out.mono ?_
    rintro e w7 ⟨rfl, rfl⟩
    have hS7 := HR4.out.st
    have HF := Lib.hid (show RdE w0 nb mb mo (q + 1) XO W4 from ⟨_, _, _, _, _, ⟨hS7.less (fun y hy => .tail _ (.tail _ hy)), HR4.out.rx, HR4.out.wr, HR4.out.n64, Nat.le_succ_of_le HR4.out.nq, Nat.le_succ_of_le HR4.out.pq⟩⟩)
    clear hS7
    go_wp2_with fail
    go_ret
    exact ⟨rfl, HF.out⟩
  · have p1 : decide ((0 : Int) ≤ i) = false := by simpa using hi1
    have p2 : ¬ (0 ≤ i) := hi1
    have HNO := Lib.hid (show hasI i N = false by unfold hasI; simp [hi1])
    refine region_cls (G := Step [] W.drew) (by kernel_rfl) (by kernel_rfl) (Step.refl _ _) ?_
    repeat (go_big_quiet_step (fail))
    refine wpQuiet_nil ?_
    rintro w2 ⟨⟨w2i, hw2⟩, he⟩
    have he' : w2 = w2i := he
    subst he'
    clear he
    obtain ⟨W4, hW4⟩ : ∃ W4, w2.alloc (.cells (msC ms0).toArray 31) = W4 := ⟨_, rfl⟩
    obtain ⟨b8, hb8⟩ : ∃ b, w2.heap.size = b := ⟨_, rfl⟩
    have H3 := Lib.hid (And.intro hW4 hb8)
    have hs2 : Step [] W w2 := (Step.refl [] W).drew.then hw2 (by simp)
    have hs4 : Step [] W W4 := by rw [← hW4]; exact hs2.alloc _
    have hbm4 : Blk W4 b8 (msC ms0).toArray 31 := by rw [← hW4, ← hb8]; exact Blk.new _ _ _
    have hR4 : Rd w0 nb mb mo q T X n f P ((b8, .cells (msC ms0).toArray 31 (0, 0)) :: (b5, .cells (actC k i j u x).toArray 43 (0, 0)) :: XO) W4 := ⟨HR.out.st.add hs4 [(b8, .cells (msC ms0).toArray 31 (0, 0))] (fun y hy => by
      simp only [List.mem_cons, List.not_mem_nil, or_false] at hy
      subst hy
      exact ⟨by rw [← hb8]; exact hs2.size, hbm4⟩), HR.out.rx, HR.out.wr, HR.out.n64, HR.out.nq, HR.out.pq⟩
    obtain ⟨xx, hxx⟩ : ∃ xx, ms0 = xx := ⟨_, rfl⟩
    have HXX := Lib.hid hxx
    rw [hxx] at hR4
    have HLB := Lib.hid (show W.heap.size ≤ b8 by rw [← hb8]; exact hs2.size)
    have HR4 := Lib.hid hR4
    clear hnn d1 d2 hb8 hs2 hs4 hbm4 hR4 hw2 c0 c1 c2 c3 c5 c6 m0 hxx
    obtain ⟨c0, c1, c2, c3, c5, c6⟩ := act_cells (HR4.out.st.blk (b := b5) (C := (actC k i j u x).toArray) (T' := 43) (.tail _ (.head _)))
    have hltW4 := (HR4.out.st.blk (b := b5) (C := (actC k i j u x).toArray) (T' := 43) (.tail _ (.head _))).lt
    clear hW4
    have hk := HKK.out
    subst hk
    have HCL := Lib.hid (HR4.out.st.twice_no i (by rw [HNN.out]; exact HNO.out))
    go_wp2_with (rw [H3.out.1, H3.out.2])
    refine HCL.out.mono ?_
    rintro e w7 ⟨rfl, rfl⟩
    have hS7 := HR4.out.st
    have HF := Lib.hid (show RdE w0 nb mb mo (q + 1) XO W4 from ⟨_, _, _, _, _, ⟨hS7.less (fun y hy => .tail _ (.tail _ hy)), HR4.out.rx, HR4.out.wr, HR4.out.n64, Nat.le_succ_of_le HR4.out.nq, Nat.le_succ_of_le HR4.out.pq⟩⟩)
    clear hS7
    go_wp2_with fail
    go_ret
    exact ⟨rfl, HF.out⟩
set_option maxRecDepth 100000 in
set_option maxHeartbeats 4000000 in
theorem do_last (k i j : Int) (u : Bool) (x : Ms) (M : PM) (h : Rd w0 nb mb mo q T X n f P XO w) (hx : Good w0 x M) (hk : k = 6) :
    Calls Try.prog 11 #[.pointer (some ⟨nb, 0, none⟩), .pointer (some ⟨mo, 0, none⟩), .agg (actC k i j u x).toArray] w fun e w' => e = .returned (.bool true) ∧ RdE w0 nb mb mo (q + 1) XO w' := by
  obtain ⟨N, hN⟩ : ∃ N, T.length = N := ⟨_, rfl⟩
  have HKK := Lib.hid hk
  clear hk
  have HH := Lib.hid h
  have hzv := zeroM
  unfold msV at hzv
  have hb := Blk.new w (actC k i j u x).toArray 43
  have hs := (Step.refl [] w).alloc (.cells (actC k i j u x).toArray 43)
  obtain ⟨W, hW⟩ : ∃ W, w.alloc (.cells (actC k i j u x).toArray 43) = W := ⟨_, rfl⟩
  obtain ⟨b5, hb5⟩ : ∃ b, w.heap.size = b := ⟨_, rfl⟩
  have HW := Lib.hid (And.intro hW hb5)
  rw [hW] at hb hs
  rw [hb5] at hb
  have hst := h.st.add hs [(b5, .cells (actC k i j u x).toArray 43 (0, 0))] (fun y hy => by
    simp only [List.mem_cons, List.not_mem_nil, or_false] at hy
    subst hy
    exact ⟨Nat.le_of_eq hb5, hb⟩)
  have hR : Rd w0 nb mb mo q T X n f P ([(b5, .cells (actC k i j u x).toArray 43 (0, 0))] ++ XO) W := ⟨hst, h.rx, h.wr, h.n64, h.nq, h.pq⟩
  have HR := Lib.hid hR
  have HBK := Lib.hid hb
  have HGX := Lib.hid hx
  obtain ⟨c0, c1, c2, c3, c5, c6⟩ := act_cells hb
  obtain ⟨am, cm, pv, hm⟩ := hR.mod
  have m0 := hm.cell 0
  simp only [List.getElem?_toArray, List.getElem?_cons_zero] at m0
  rw [hN] at m0
  have h64 := h.n64
  rw [hN] at h64
  have ltb := hb.lt
  have ltm := hm.lt
  have HNN := Lib.hid hN
  clear h hx hW hb5 hb hs hst hR hm hN
  go_enter Try.func11, Try.ntmps11
  go_wp2_with fail
  rw [HW.out.1, HW.out.2]
  have hnn : Nonempty (ClsW (Step [] W.drew)) := ⟨⟨_, Step.refl _ _⟩⟩
  have d1 : ∀ y : ClsW (Step [] W.drew), y.val.cell? ⟨b5, 1, none⟩ = some (.int .i64 i) := fun y => (y.ok.cell ltb (by simp)).trans c1
  have d2 : ∀ y : ClsW (Step [] W.drew), y.val.cell? ⟨mo, 0, none⟩ = some (.slice am N cm) := fun y => (y.ok.cell ltm (by simp)).trans m0
  have hi : (∃ m : Nat, i = (m : Int) ∧ m < N) ∨ (0 ≤ i ∧ ¬ i < (N : Int)) ∨ (¬ 0 ≤ i) := by
    by_cases h1 : 0 ≤ i
    · by_cases h2 : i < (N : Int)
      · exact .inl ⟨i.toNat, by omega, by omega⟩
      · exact .inr (.inl ⟨h1, h2⟩)
    · exact .inr (.inr h1)
  rcases hi with ⟨m, rfl, hmN⟩ | ⟨hi1, hi2⟩ | hi1
  · have q1 : decide ((0 : Int) ≤ (m : Int)) = true := by simp
    have q2 : (m : Int) < (N : Int) := by omega
    refine region_cls (G := Step [] W.drew) (by kernel_rfl) (by kernel_rfl) (Step.refl _ _) ?_
    repeat (go_big_quiet_step (fail))
    refine wpQuiet_nil ?_
    rintro w2 ⟨⟨w2i, hw2⟩, he⟩
    have he' : w2 = w2i := he
    subst he'
    clear he
    obtain ⟨W3, hW3⟩ : ∃ W3, w2.alloc (.cells (msC ms0).toArray 31) = W3 := ⟨_, rfl⟩
    obtain ⟨b8, hb8⟩ : ∃ b, w2.heap.size = b := ⟨_, rfl⟩
    obtain ⟨xx, hxx⟩ : ∃ xx, X.getD m ms0 = xx := ⟨_, rfl⟩
    have hs3 : Step [] W W3 := by rw [← hW3]; exact ((Step.refl [] W).drew.then hw2 (by simp)).alloc _
    obtain ⟨hm3, hbm3, hsm3⟩ := box_m w2.drew xx
    have hst0 := Try.store_m _ _ _ xx hm3
    have hW3d : w2.drew.alloc (.cells (msC ms0).toArray 31) = W3.drew := by rw [← hW3]; rfl
    have hb8d : w2.drew.heap.size = b8 := hb8
    rw [hW3d, hb8d] at hst0 hbm3 hsm3
    have H3 := Lib.hid (And.intro hW3 hb8)
    obtain ⟨W4, hW4⟩ : ∃ W4, W3.drew.setCells b8 0 (msC xx) = W4 := ⟨_, rfl⟩
    rw [hW4] at hst0 hsm3 hbm3
    have hs4 : Step [] W W4 := (((Step.refl [] W).drew.then hw2 (by simp)).drew).then hsm3 (by simp)
    have hR4 : Rd w0 nb mb mo q T X n f P ((b8, .cells (msC xx).toArray 31 (0, 0)) :: (b5, .cells (actC k (m : Int) j u x).toArray 43 (0, 0)) :: XO) W4 := ⟨HR.out.st.add hs4 [(b8, .cells (msC xx).toArray 31 (0, 0))] (fun y hy => by
      simp only [List.mem_cons, List.not_mem_nil, or_false] at hy
      subst hy
      exact ⟨by have := (((Step.refl [] W).drew.then hw2 (by simp))).size; show W.heap.size ≤ b8; omega, hbm3⟩), HR.out.rx, HR.out.wr, HR.out.n64, HR.out.nq, HR.out.pq⟩
    have HR4 := Lib.hid hR4
    have HLB := Lib.hid (show W.heap.size ≤ b8 by have := (((Step.refl [] W).drew.then hw2 (by simp))).size; show W.heap.size ≤ b8; omega)
    obtain ⟨g, o, c, pv, hmo, hgl, hrow⟩ := HR.out.row m (by rw [HNN.out]; exact hmN)
    rw [hxx] at hrow
    have n0 := (hmo.step hs3 (by simp)).drew.cell 0
    simp only [List.getElem?_toArray, List.getElem?_cons_zero] at n0
    rw [HNN.out] at n0
    have n1 := (HBK.out.step hs3 (by simp)).drew.cell 1
    have n2 := row_step hrow hgl hs3.drew (by simp)
    have HXX := Lib.hid hxx
    clear hnn d1 d2 hW3 hb8 hmo hrow hs4 hR4 hW4 hm3 hbm3 hsm3 hs3 hW3d hb8d hw2 c0 c1 c2 c3 c5 c6 m0 hxx
    go_wp2_with (rw [H3.out.1, H3.out.2])
    refine wp_region_still_tail 8 (by kernel_rfl) (by kernel_rfl) ?_
    simp only [List.take_succ_cons, List.take_zero, List.drop_succ_cons, List.drop_zero]
    refine wpStill_of_quiet _ _ ?_
    have hne : Nonempty (ClsW (fun X => X = W3.drew)) := ⟨⟨_, rfl⟩⟩
    have d1 : ∀ x : ClsW (fun X => X = W3.drew), x.val.cell? ⟨mo, 0, none⟩ = some (.slice (some ⟨g, o, none⟩) N c) := fun x => by rw [x.ok]; exact n0
    have d4 : ∀ x : ClsW (fun X => X = W3.drew), x.val.cell? ⟨b5, 1, none⟩ = some (.int .i64 (m : Int)) := fun x => by rw [x.ok]; exact n1
    have d5 : ∀ x : ClsW (fun X => X = W3.drew), rowC x.val g (o + m * 11) 11 = some (msC xx) := fun x => by rw [x.ok]; exact n2
    have q3 : (0 : Int) ≤ (m : Int) := by omega
    repeat (go_big_quiet_step (fail))
    refine wpQuiet_nil ?_
    change wpList _ _ _ _ _ W3.drew
    obtain ⟨c0, c1, c2, c3, c5, c6⟩ := act_cells (HR4.out.st.blk (b := b5) (C := (actC k (m : Int) j u x).toArray) (T' := 43) (.tail _ (.head _)))
    have hltW4 := (HR4.out.st.blk (b := b5) (C := (actC k (m : Int) j u x).toArray) (T' := 43) (.tail _ (.head _))).lt
    clear hne d1 d4 d5 n0 n1 n2 hgl
    have hk := HKK.out
    subst hk
    have hmT : m < T.length := by rw [HNN.out]; exact hmN
    have HMT := Lib.hid hmT
    have hgd := HR4.out.rx.at m (by rw [HR4.out.lenX]; exact hmT)
    rw [HXX.out, mapM_getD T m hmT] at hgd
    have HGD := Lib.hid hgd
    clear hgd hmT

    have HCC := Lib.hid (HR4.out.st.cut m (by rw [HR4.out.lenX]; exact HMT.out))
    go_wp2_with fail
    refine HCC.out.mono ?_
    rintro e w5 ⟨rfl, hS5⟩
    have hr8 := msg_row (hS5.blk (b := b8) (C := (msC xx).toArray) (T' := 31) (.head _))
    have HE8 := Lib.hid (show (X.eraseIdx m).length < 64 from by
      rw [List.length_eraseIdx, if_pos (by rw [HR4.out.lenX]; exact HMT.out), HR4.out.lenX]
      have := HR4.out.n64
      have := HMT.out
      omega)
    have HCP := Lib.hid (hS5.put xx (Nat.le_of_lt HE8.out))
    clear hS5 HCC c0 c1 c2 c3 c5 c6
    go_wp2_with fail
    refine HCP.out.mono ?_
    rintro e w6 ⟨rfl, hS6⟩
    rw [putL_of_lt HE8.out] at hS6
    have HCL := Lib.hid (hS6.last_yes m HMT.out HR4.out.n64)
    obtain ⟨-, k1, -⟩ := act_cells (hS6.blk (b := b5) (C := (actC 6 (m : Int) j u x).toArray) (T' := 43) (.tail _ (.head _)))
    clear hS6 HCP hr8
    go_wp2_with fail
    refine HCL.out.mono ?_
    rintro e w7 ⟨rfl, hS7⟩
    clear k1
    have HF := Lib.hid (show RdE w0 nb mb mo (q + 1) XO w7 from ⟨_, _, _, _, _, ⟨hS7.less (fun y hy => .tail _ (.tail _ hy)), (by rw [List.map_append, mapM_erase]; exact (HR4.out.rx.erase m).app (.cons HGD.out .nil)), HR4.out.wr, (by rw [List.length_append, List.length_eraseIdx, if_pos HMT.out]; have := HR4.out.n64; have := HMT.out; simp; omega), Nat.le_succ_of_le HR4.out.nq, Nat.le_succ_of_le HR4.out.pq⟩⟩)
    clear hS7
    go_wp2_with fail
    go_ret
    exact ⟨rfl, HF.out⟩
  · have p1 : decide ((0 : Int) ≤ i) = true := by simpa using hi1
    have p2 : ¬ i < (N : Int) := hi2
    have HNO := Lib.hid (show hasI i N = false by unfold hasI; simp [hi1]; omega)
    refine region_cls (G := Step [] W.drew) (by kernel_rfl) (by kernel_rfl) (Step.refl _ _) ?_
    repeat (go_big_quiet_step (fail))
    refine wpQuiet_nil ?_
    rintro w2 ⟨⟨w2i, hw2⟩, he⟩
    have he' : w2 = w2i := he
    subst he'
    clear he
    obtain ⟨W4, hW4⟩ : ∃ W4, w2.alloc (.cells (msC ms0).toArray 31) = W4 := ⟨_, rfl⟩
    obtain ⟨b8, hb8⟩ : ∃ b, w2.heap.size = b := ⟨_, rfl⟩
    have H3 := Lib.hid (And.intro hW4 hb8)
    have hs2 : Step [] W w2 := (Step.refl [] W).drew.then hw2 (by simp)
    have hs4 : Step [] W W4 := by rw [← hW4]; exact hs2.alloc _
    have hbm4 : Blk W4 b8 (msC ms0).toArray 31 := by rw [← hW4, ← hb8]; exact Blk.new _ _ _
    have hR4 : Rd w0 nb mb mo q T X n f P ((b8, .cells (msC ms0).toArray 31 (0, 0)) :: (b5, .cells (actC k i j u x).toArray 43 (0, 0)) :: XO) W4 := ⟨HR.out.st.add hs4 [(b8, .cells (msC ms0).toArray 31 (0, 0))] (fun y hy => by
      simp only [List.mem_cons, List.not_mem_nil, or_false] at hy
      subst hy
      exact ⟨by rw [← hb8]; exact hs2.size, hbm4⟩), HR.out.rx, HR.out.wr, HR.out.n64, HR.out.nq, HR.out.pq⟩
    obtain ⟨xx, hxx⟩ : ∃ xx, ms0 = xx := ⟨_, rfl⟩
    have HXX := Lib.hid hxx
    rw [hxx] at hR4
    have HLB := Lib.hid (show W.heap.size ≤ b8 by rw [← hb8]; exact hs2.size)
    have HR4 := Lib.hid hR4
    clear hnn d1 d2 hb8 hs2 hs4 hbm4 hR4 hw2 c0 c1 c2 c3 c5 c6 m0 hxx
    obtain ⟨c0, c1, c2, c3, c5, c6⟩ := act_cells (HR4.out.st.blk (b := b5) (C := (actC k i j u x).toArray) (T' := 43) (.tail _ (.head _)))
    have hltW4 := (HR4.out.st.blk (b := b5) (C := (actC k i j u x).toArray) (T' := 43) (.tail _ (.head _))).lt
    clear hW4
    have hk := HKK.out
    subst hk
    have HCL := Lib.hid (HR4.out.st.last_no i (by rw [HNN.out]; exact HNO.out))
    go_wp2_with (rw [H3.out.1, H3.out.2])
    refine HCL.out.mono ?_
    rintro e w7 ⟨rfl, rfl⟩
    have hS7 := HR4.out.st
    have HF := Lib.hid (show RdE w0 nb mb mo (q + 1) XO W4 from ⟨_, _, _, _, _, ⟨hS7.less (fun y hy => .tail _ (.tail _ hy)), HR4.out.rx, HR4.out.wr, HR4.out.n64, Nat.le_succ_of_le HR4.out.nq, Nat.le_succ_of_le HR4.out.pq⟩⟩)
    clear hS7
    go_wp2_with fail
    go_ret
    exact ⟨rfl, HF.out⟩
  · have p1 : decide ((0 : Int) ≤ i) = false := by simpa using hi1
    have p2 : ¬ (0 ≤ i) := hi1
    have HNO := Lib.hid (show hasI i N = false by unfold hasI; simp [hi1])
    refine region_cls (G := Step [] W.drew) (by kernel_rfl) (by kernel_rfl) (Step.refl _ _) ?_
    repeat (go_big_quiet_step (fail))
    refine wpQuiet_nil ?_
    rintro w2 ⟨⟨w2i, hw2⟩, he⟩
    have he' : w2 = w2i := he
    subst he'
    clear he
    obtain ⟨W4, hW4⟩ : ∃ W4, w2.alloc (.cells (msC ms0).toArray 31) = W4 := ⟨_, rfl⟩
    obtain ⟨b8, hb8⟩ : ∃ b, w2.heap.size = b := ⟨_, rfl⟩
    have H3 := Lib.hid (And.intro hW4 hb8)
    have hs2 : Step [] W w2 := (Step.refl [] W).drew.then hw2 (by simp)
    have hs4 : Step [] W W4 := by rw [← hW4]; exact hs2.alloc _
    have hbm4 : Blk W4 b8 (msC ms0).toArray 31 := by rw [← hW4, ← hb8]; exact Blk.new _ _ _
    have hR4 : Rd w0 nb mb mo q T X n f P ((b8, .cells (msC ms0).toArray 31 (0, 0)) :: (b5, .cells (actC k i j u x).toArray 43 (0, 0)) :: XO) W4 := ⟨HR.out.st.add hs4 [(b8, .cells (msC ms0).toArray 31 (0, 0))] (fun y hy => by
      simp only [List.mem_cons, List.not_mem_nil, or_false] at hy
      subst hy
      exact ⟨by rw [← hb8]; exact hs2.size, hbm4⟩), HR.out.rx, HR.out.wr, HR.out.n64, HR.out.nq, HR.out.pq⟩
    obtain ⟨xx, hxx⟩ : ∃ xx, ms0 = xx := ⟨_, rfl⟩
    have HXX := Lib.hid hxx
    rw [hxx] at hR4
    have HLB := Lib.hid (show W.heap.size ≤ b8 by rw [← hb8]; exact hs2.size)
    have HR4 := Lib.hid hR4
    clear hnn d1 d2 hb8 hs2 hs4 hbm4 hR4 hw2 c0 c1 c2 c3 c5 c6 m0 hxx
    obtain ⟨c0, c1, c2, c3, c5, c6⟩ := act_cells (HR4.out.st.blk (b := b5) (C := (actC k i j u x).toArray) (T' := 43) (.tail _ (.head _)))
    have hltW4 := (HR4.out.st.blk (b := b5) (C := (actC k i j u x).toArray) (T' := 43) (.tail _ (.head _))).lt
    clear hW4
    have hk := HKK.out
    subst hk
    have HCL := Lib.hid (HR4.out.st.last_no i (by rw [HNN.out]; exact HNO.out))
    go_wp2_with (rw [H3.out.1, H3.out.2])
    refine HCL.out.mono ?_
    rintro e w7 ⟨rfl, rfl⟩
    have hS7 := HR4.out.st
    have HF := Lib.hid (show RdE w0 nb mb mo (q + 1) XO W4 from ⟨_, _, _, _, _, ⟨hS7.less (fun y hy => .tail _ (.tail _ hy)), HR4.out.rx, HR4.out.wr, HR4.out.n64, Nat.le_succ_of_le HR4.out.nq, Nat.le_succ_of_le HR4.out.pq⟩⟩)
    clear hS7
    go_wp2_with fail
    go_ret
    exact ⟨rfl, HF.out⟩
end
end Go.Proofs.Ytminpglkipnhcaa
end

section
namespace Go.Proofs.Ytminpglkipnhcaa
set_option linter.unusedVariables false
set_option linter.unusedSimpArgs false
open Go.RowKit
attribute [local go_sem ↓] exec_load_m exec_store_m
attribute [local go_sem] Try.load_m row_drew Try.store_m
section
variable {w0 w : World} {nb mb mo q : Nat} {T : List Tm} {X : List Ms} {n : Nat} {f : PK → Option Bool} {P : List (Int × Int)} {XO : List (Nat × Obj)}
set_option maxRecDepth 100000 in
set_option maxHeartbeats 4000000 in
theorem do_take (k i j : Int) (u : Bool) (x : Ms) (M : PM) (h : Rd w0 nb mb mo q T X n f P XO w) (hx : Good w0 x M) (hk : k = 3) :
    Calls Try.prog 11 #[.pointer (some ⟨nb, 0, none⟩), .pointer (some ⟨mo, 0, none⟩), .agg (actC k i j u x).toArray] w fun e w' => e = .returned (.bool true) ∧ RdE w0 nb mb mo (q + 1) XO w' := by
  obtain ⟨N, hN⟩ : ∃ N, T.length = N := ⟨_, rfl⟩
  have HKK := Lib.hid hk
  clear hk
  have HH := Lib.hid h
  have hzv := zeroM
  unfold msV at hzv
  have hb := Blk.new w (actC k i j u x).toArray 43
  have hs := (Step.refl [] w).alloc (.cells (actC k i j u x).toArray 43)
  obtain ⟨W, hW⟩ : ∃ W, w.alloc (.cells (actC k i j u x).toArray 43) = W := ⟨_, rfl⟩
  obtain ⟨b5, hb5⟩ : ∃ b, w.heap.size = b := ⟨_, rfl⟩
  have HW := Lib.hid (And.intro hW hb5)
  rw [hW] at hb hs
  rw [hb5] at hb
  have hst := h.st.add hs [(b5, .cells (actC k i j u x).toArray 43 (0, 0))] (fun y hy => by
    simp only [List.mem_cons, List.not_mem_nil, or_false] at hy
    subst hy
    exact ⟨Nat.le_of_eq hb5, hb⟩)
  have hR : Rd w0 nb mb mo q T X n f P ([(b5, .cells (actC k i j u x).toArray 43 (0, 0))] ++ XO) W := ⟨hst, h.rx, h.wr, h.n64, h.nq, h.pq⟩
  have HR := Lib.hid hR
  have HBK := Lib.hid hb
  have HGX := Lib.hid hx
  obtain ⟨c0, c1, c2, c3, c5, c6⟩ := act_cells hb
  obtain ⟨am, cm, pv, hm⟩ := hR.mod
  have m0 := hm.cell 0
  simp only [List.getElem?_toArray, List.getElem?_cons_zero] at m0
  rw [hN] at m0
  have h64 := h.n64
  rw [hN] at h64
  have ltb := hb.lt
  have ltm := hm.lt
  have HNN := Lib.hid hN
  clear h hx hW hb5 hb hs hst hR hm hN
  go_enter Try.func11, Try.ntmps11
  go_wp2_with fail
  rw [HW.out.1, HW.out.2]
  have hnn : Nonempty (ClsW (Step [] W.drew)) := ⟨⟨_, Step.refl _ _⟩⟩
  have d1 : ∀ y : ClsW (Step [] W.drew), y.val.cell? ⟨b5, 1, none⟩ = some (.int .i64 i) := fun y => (y.ok.cell ltb (by simp)).trans c1
  have d2 : ∀ y : ClsW (Step [] W.drew), y.val.cell? ⟨mo, 0, none⟩ = some (.slice am N cm) := fun y => (y.ok.cell ltm (by simp)).trans m0
  have hi : (∃ m : Nat, i = (m : Int) ∧ m < N) ∨ (0 ≤ i ∧ ¬ i < (N : Int)) ∨ (¬ 0 ≤ i) := by
    by_cases h1 : 0 ≤ i
    · by_cases h2 : i < (N : Int)
      · exact .inl ⟨i.toNat, by omega, by omega⟩
      · exact .inr (.inl ⟨h1, h2⟩)
    · exact .inr (.inr h1)
  rcases hi with ⟨m, rfl, hmN⟩ | ⟨hi1, hi2⟩ | hi1
  · have q1 : decide ((0 : Int) ≤ (m : Int)) = true := by simp
    have q2 : (m : Int) < (N : Int) := by omega
    refine region_cls (G := Step [] W.drew) (by kernel_rfl) (by kernel_rfl) (Step.refl _ _) ?_
    repeat (go_big_quiet_step (fail))
    refine wpQuiet_nil ?_
    rintro w2 ⟨⟨w2i, hw2⟩, he⟩
    have he' : w2 = w2i := he
    subst he'
    clear he
    obtain ⟨W3, hW3⟩ : ∃ W3, w2.alloc (.cells (msC ms0).toArray 31) = W3 := ⟨_, rfl⟩
    obtain ⟨b8, hb8⟩ : ∃ b, w2.heap.size = b := ⟨_, rfl⟩
    obtain ⟨xx, hxx⟩ : ∃ xx, X.getD m ms0 = xx := ⟨_, rfl⟩
    have hs3 : Step [] W W3 := by rw [← hW3]; exact ((Step.refl [] W).drew.then hw2 (by simp)).alloc _
    obtain ⟨hm3, hbm3, hsm3⟩ := box_m w2.drew xx
    have hst0 := Try.store_m _ _ _ xx hm3
    have hW3d : w2.drew.alloc (.cells (msC ms0).toArray 31) = W3.drew := by rw [← hW3]; rfl
    have hb8d : w2.drew.heap.size = b8 := hb8
    rw [hW3d, hb8d] at hst0 hbm3 hsm3
    have H3 := Lib.hid (And.intro hW3 hb8)
    obtain ⟨W4, hW4⟩ : ∃ W4, W3.drew.setCells b8 0 (msC xx) = W4 := ⟨_, rfl⟩
    rw [hW4] at hst0 hsm3 hbm3
    have hs4 : Step [] W W4 := (((Step.refl [] W).drew.then hw2 (by simp)).drew).then hsm3 (by simp)
    have hR4 : Rd w0 nb mb mo q T X n f P ((b8, .cells (msC xx).toArray 31 (0, 0)) :: (b5, .cells (actC k (m : Int) j u x).toArray 43 (0, 0)) :: XO) W4 := ⟨HR.out.st.add hs4 [(b8, .cells (msC xx).toArray 31 (0, 0))] (fun y hy => by
      simp only [List.mem_cons, List.not_mem_nil, or_false] at hy
      subst hy
      exact ⟨by have := (((Step.refl [] W).drew.then hw2 (by simp))).size; show W.heap.size ≤ b8; omega, hbm3⟩), HR.out.rx, HR.out.wr, HR.out.n64, HR.out.nq, HR.out.pq⟩
    have HR4 := Lib.hid hR4
    have HLB := Lib.hid (show W.heap.size ≤ b8 by have := (((Step.refl [] W).drew.then hw2 (by simp))).size; show W.heap.size ≤ b8; omega)
    obtain ⟨g, o, c, pv, hmo, hgl, hrow⟩ := HR.out.row m (by rw [HNN.out]; exact hmN)
    rw [hxx] at hrow
    have n0 := (hmo.step hs3 (by simp)).drew.cell 0
    simp only [List.getElem?_toArray, List.getElem?_cons_zero] at n0
    rw [HNN.out] at n0
    have n1 := (HBK.out.step hs3 (by simp)).drew.cell 1
    have n2 := row_step hrow hgl hs3.drew (by simp)
    have HXX := Lib.hid hxx
    clear hnn d1 d2 hW3 hb8 hmo hrow hs4 hR4 hW4 hm3 hbm3 hsm3 hs3 hW3d hb8d hw2 c0 c1 c2 c3 c5 c6 m0 hxx
    go_wp2_with (rw [H3.out.1, H3.out.2])
    refine wp_region_still_tail 8 (by kernel_rfl) (by kernel_rfl) ?_
    simp only [List.take_succ_cons, List.take_zero, List.drop_succ_cons, List.drop_zero]
    refine wpStill_of_quiet _ _ ?_
    have hne : Nonempty (ClsW (fun X => X = W3.drew)) := ⟨⟨_, rfl⟩⟩
    have d1 : ∀ x : ClsW (fun X => X = W3.drew), x.val.cell? ⟨mo, 0, none⟩ = some (.slice (some ⟨g, o, none⟩) N c) := fun x => by rw [x.ok]; exact n0
    have d4 : ∀ x : ClsW (fun X => X = W3.drew), x.val.cell? ⟨b5, 1, none⟩ = some (.int .i64 (m : Int)) := fun x => by rw [x.ok]; exact n1
    have d5 : ∀ x : ClsW (fun X => X = W3.drew), rowC x.val g (o + m * 11) 11 = some (msC xx) := fun x => by rw [x.ok]; exact n2
    have q3 : (0 : Int) ≤ (m : Int) := by omega
    repeat (go_big_quiet_step (fail))
    refine wpQuiet_nil ?_
    change wpList _ _ _ _ _ W3.drew
    obtain ⟨c0, c1, c2, c3, c5, c6⟩ := act_cells (HR4.out.st.blk (b := b5) (C := (actC k (m : Int) j u x).toArray) (T' := 43) (.tail _ (.head _)))
    have hltW4 := (HR4.out.st.blk (b := b5) (C := (actC k (m : Int) j u x).toArray) (T' := 43) (.tail _ (.head _))).lt
    clear hne d1 d4 d5 n0 n1 n2 hgl
    have hk := HKK.out
    subst hk
    have hmT : m < T.length := by rw [HNN.out]; exact hmN
    have HMT := Lib.hid hmT
    have hgd := HR4.out.rx.at m (by rw [HR4.out.lenX]; exact hmT)
    rw [HXX.out, mapM_getD T m hmT] at hgd
    have HGD := Lib.hid hgd
    clear hgd hmT

    obtain ⟨tm, htm⟩ : ∃ t, T.getD m tm0 = t := ⟨_, rfl⟩
    have HTM := Lib.hid htm
    rw [htm] at HGD
    obtain ⟨R, hR⟩ : ∃ R, hasW P xx.fr xx.too = R := ⟨_, rfl⟩
    obtain ⟨D0, hD0⟩ := HGD.out.ok
    have HD0 := Lib.hid hD0
    have hwa : (Lit.int .i64 tm.M.fr).wf = true := by rw [← hD0.fr]; exact HGD.out.wa
    have hwb : (Lit.int .i64 tm.M.too).wf = true := by rw [← hD0.too]; exact HGD.out.wb
    have HWL := Lib.hid (show wld f (pk tm.M.fr tm.M.too hwa hwb) = R by
      rw [← HR4.out.wr, ← hD0.fr, ← hD0.too]; exact hR)
    have HRR := Lib.hid hR
    have hlt8 : b8 < W4.heap.size := (HR4.out.st.blk (b := b8) (C := (msC xx).toArray) (T' := 31) (.head _)).lt
    clear hD0 hR htm
    cases R with
    | true =>
      have hT := HR4.out.st.take_wall m HMT.out (by rw [HTM.out]; exact hwa) (by rw [HTM.out]; exact hwb) (by simp only [HTM.out]; exact HWL.out)
      have HT := Lib.hid hT
      clear hT
      go_wp2_with fail
      refine HT.out.mono ?_
      rintro e w6 ⟨rfl, hS6⟩
      obtain ⟨yy, hyy⟩ : ∃ y, ms0 = y := ⟨_, rfl⟩
      have HYY := Lib.hid hyy
      have hlt8 : b8 < w6.heap.size := (hS6.blk (b := b8) (C := (msC xx).toArray) (T' := 31) (.head _)).lt
      obtain ⟨hm7, hbm7, hsm7⟩ := box_m w6 yy
      have hst7 := Try.store_m _ _ _ yy hm7
      obtain ⟨W7, hW7⟩ : ∃ W7, (w6.alloc (.cells (msC ms0).toArray 31)).setCells w6.heap.size 0 (msC yy) = W7 := ⟨_, rfl⟩
      obtain ⟨b10, hb10⟩ : ∃ b, w6.heap.size = b := ⟨_, rfl⟩
      have H7 := Lib.hid (And.intro hW7 hb10)
      rw [hW7] at hst7 hbm7 hsm7
      have hS7 := hS6.add hsm7 [(b10, .cells (msC yy).toArray 31 (0, 0))] (fun y hy => by
        simp only [List.mem_cons, List.not_mem_nil, or_false] at hy
        subst hy
        exact ⟨Nat.le_of_eq hb10, by rw [← hb10]; exact hbm7⟩)
      rw [hb10] at hst7
      have HS7 := Lib.hid hS7

      obtain ⟨-, x1, x2, -⟩ := msg_cells (hS7.blk (b := b8) (C := (msC xx).toArray) (T' := 31) (.tail _ (.head _)))
      have HCM := Lib.hid (hS7.mwalled xx.fr xx.too)
      rw [HRR.out] at HCM
      clear hS7 hm7 hbm7 hsm7 hW7 c0 c1 c2 c3 c5 c6
      rw [← hyy] at hst7
      clear hyy
      go_wp2_with (rw [HYY.out, H7.out.1, H7.out.2])
      refine HCM.out.mono ?_
      rintro e w8 ⟨rfl, hs8⟩
      have HS8 := Lib.hid (HS7.out.step hs8)
      clear hs8 x1 x2 hst7 HCM
      have hb8 := HS8.out.blk (b := b8) (C := (msC xx).toArray) (T' := 31) (.tail _ (.head _))
      have hst9 := Try.store_m _ _ _ ms0 (msg_there hb8)
      have hbl9 := msg_set (y := ms0) hb8
      obtain ⟨W9, hW9⟩ : ∃ W9, w8.setCells b8 0 (msC ms0) = W9 := ⟨_, rfl⟩
      rw [hW9] at hst9 hbl9
      have hs9 : Step [b8] w8 W9 := by rw [← hW9]; exact (Step.refl _ _).setCells (.inl (by simp)) _ _
      have hnb : b10 ≠ b8 := by have := hlt8; omega
      have hb10' := HS8.out.blk (b := b10) (C := (msC yy).toArray) (T' := 31) (.head _)
      have hr8 := msg_row hbl9
      have hr10 := msg_row (hb10'.step hs9 (by simpa using hnb))
      have HS9 := Lib.hid (HS8.out.zero (b := b8) hs9 (fun y hy => Nat.ne_of_lt (Nat.lt_of_lt_of_le (Kept.lt HR.out.st hy).2 HLB.out)))
      clear hb8 hbl9 hs9 hb10' hW9

      have HY8 := HYY.out
      subst HY8
      have HSM := Lib.hid (same_any ms0 ms0 pm0 [] [] W9 (bare_ok W9 [] 0 0 0 0 0 0 0 false) (bare_ok W9 [] 0 0 0 0 0 0 0 false) (few_bare 0 0 0 0 0 0 0 false))
      go_wp2_with fail
      refine HSM.out.mono ?_
      rintro e w10 ⟨rfl, hs10⟩
      have hS7 := HS9.out.step hs10
      clear hst9 hr8 hr10 hs10
      have HF := Lib.hid (show RdE w0 nb mb mo (q + 1) XO w10 from ⟨_, _, _, _, _, ⟨hS7.less (fun y hy => .tail _ hy), HR4.out.rx, HR4.out.wr, HR4.out.n64, Nat.le_succ_of_le HR4.out.nq, Nat.le_succ_of_le HR4.out.pq⟩⟩)
      clear hS7
      go_wp2_with fail
      go_ret
      exact ⟨rfl, HF.out⟩

    | false =>
      have hT := HR4.out.st.take_yes m HMT.out (by rw [HTM.out]; exact hwa) (by rw [HTM.out]; exact hwb) (by simp only [HTM.out]; exact HWL.out)
      rw [HTM.out] at hT
      have HT := Lib.hid hT
      clear hT
      go_wp2_with fail
      refine HT.out.mono ?_
      rintro e w6 ⟨rfl, hS6⟩
      obtain ⟨yy, hyy⟩ : ∃ y, tm.x = y := ⟨_, rfl⟩
      have HYY := Lib.hid hyy
      rw [hyy]
      obtain ⟨hm7, hbm7, hsm7⟩ := box_m w6 yy
      have hst7 := Try.store_m _ _ _ yy hm7
      obtain ⟨W7, hW7⟩ : ∃ W7, (w6.alloc (.cells (msC ms0).toArray 31)).setCells w6.heap.size 0 (msC yy) = W7 := ⟨_, rfl⟩
      obtain ⟨b10, hb10⟩ : ∃ b, w6.heap.size = b := ⟨_, rfl⟩
      have H7 := Lib.hid (And.intro hW7 hb10)
      rw [hW7] at hst7 hbm7 hsm7
      have hS7 := hS6.add hsm7 [(b10, .cells (msC yy).toArray 31 (0, 0))] (fun y hy => by
        simp only [List.mem_cons, List.not_mem_nil, or_false] at hy
        subst hy
        exact ⟨Nat.le_of_eq hb10, by rw [← hb10]; exact hbm7⟩)
      rw [hb10] at hst7
      have HS7 := Lib.hid hS7

      obtain ⟨-, x1, x2, -⟩ := msg_cells (hS7.blk (b := b8) (C := (msC xx).toArray) (T' := 31) (.tail _ (.head _)))
      have HCM := Lib.hid (hS7.mwalled xx.fr xx.too)
      rw [HRR.out] at HCM
      clear hS7 hm7 hbm7 hsm7 hW7 c0 c1 c2 c3 c5 c6 hyy
      go_wp2_with (rw [H7.out.1, H7.out.2])
      refine HCM.out.mono ?_
      rintro e w8 ⟨rfl, hs8⟩
      have HS8 := Lib.hid (HS7.out.step hs8)
      obtain ⟨-, k1, -⟩ := act_cells (HS8.out.blk (b := b5) (C := (actC 3 (m : Int) j u x).toArray) (T' := 43) (.tail _ (.tail _ (.head _))))
      have HCC := Lib.hid (HS8.out.cut m (by rw [HR4.out.lenX]; exact HMT.out))
      clear hs8 x1 x2 hst7 HCM
      go_wp2_with fail
      refine HCC.out.mono ?_
      rintro e w9 ⟨rfl, hS9⟩
      have hr8 := msg_row (hS9.blk (b := b8) (C := (msC xx).toArray) (T' := 31) (.tail _ (.head _)))
      have hr10 := msg_row (hS9.blk (b := b10) (C := (msC yy).toArray) (T' := 31) (.head _))
      have hto := hS9.tm (t := tm) (by simp)
      have hyo := hto.ok
      rw [HYY.out] at hyo
      have HSM := Lib.hid (same_any xx yy tm.M D0 tm.D w9 (HD0.out.step hS9.st (fun k _ => List.not_mem_nil)) hyo HGD.out.few)
      have HS9 := Lib.hid hS9
      clear hS9 hto hyo k1 HCC
      go_wp2_with fail
      refine HSM.out.mono ?_
      rintro e w10 ⟨rfl, hs10⟩
      have hS7 := (HS9.out.step hs10).drop
      clear hs10 hr8 hr10
      have HF := Lib.hid (show RdE w0 nb mb mo (q + 1) XO w10 from ⟨_, _, _, _, _, ⟨hS7.less (fun y hy => .tail _ (.tail _ (.tail _ hy))), (by rw [mapM_erase]; exact HR4.out.rx.erase m), HR4.out.wr, (by rw [List.length_eraseIdx]; have := HR4.out.n64; split <;> omega), Nat.le_succ_of_le HR4.out.nq, Nat.le_succ_of_le HR4.out.pq⟩⟩)
      clear hS7
      go_wp2_with fail
      go_ret
      exact ⟨rfl, HF.out⟩
  · have p1 : decide ((0 : Int) ≤ i) = true := by simpa using hi1
    have p2 : ¬ i < (N : Int) := hi2
    have HNO := Lib.hid (show hasI i N = false by unfold hasI; simp [hi1]; omega)
    refine region_cls (G := Step [] W.drew) (by kernel_rfl) (by kernel_rfl) (Step.refl _ _) ?_
    repeat (go_big_quiet_step (fail))
    refine wpQuiet_nil ?_
    rintro w2 ⟨⟨w2i, hw2⟩, he⟩
    have he' : w2 = w2i := he
    subst he'
    clear he
    obtain ⟨W4, hW4⟩ : ∃ W4, w2.alloc (.cells (msC ms0).toArray 31) = W4 := ⟨_, rfl⟩
    obtain ⟨b8, hb8⟩ : ∃ b, w2.heap.size = b := ⟨_, rfl⟩
    have H3 := Lib.hid (And.intro hW4 hb8)
    have hs2 : Step [] W w2 := (Step.refl [] W).drew.then hw2 (by simp)
    have hs4 : Step [] W W4 := by rw [← hW4]; exact hs2.alloc _
    have hbm4 : Blk W4 b8 (msC ms0).toArray 31 := by rw [← hW4, ← hb8]; exact Blk.new _ _ _
    have hR4 : Rd w0 nb mb mo q T X n f P ((b8, .cells (msC ms0).toArray 31 (0, 0)) :: (b5, .cells (actC k i j u x).toArray 43 (0, 0)) :: XO) W4 := ⟨HR.out.st.add hs4 [(b8, .cells (msC ms0).toArray 31 (0, 0))] (fun y hy => by
      simp only [List.mem_cons, List.not_mem_nil, or_false] at hy
      subst hy
      exact ⟨by rw [← hb8]; exact hs2.size, hbm4⟩), HR.out.rx, HR.out.wr, HR.out.n64, HR.out.nq, HR.out.pq⟩
    obtain ⟨xx, hxx⟩ : ∃ xx, ms0 = xx := ⟨_, rfl⟩
    have HXX := Lib.hid hxx
    rw [hxx] at hR4
    have HLB := Lib.hid (show W.heap.size ≤ b8 by rw [← hb8]; exact hs2.size)
    have HR4 := Lib.hid hR4
    clear hnn d1 d2 hb8 hs2 hs4 hbm4 hR4 hw2 c0 c1 c2 c3 c5 c6 m0 hxx
    obtain ⟨c0, c1, c2, c3, c5, c6⟩ := act_cells (HR4.out.st.blk (b := b5) (C := (actC k i j u x).toArray) (T' := 43) (.tail _ (.head _)))
    have hltW4 := (HR4.out.st.blk (b := b5) (C := (actC k i j u x).toArray) (T' := 43) (.tail _ (.head _))).lt
    clear hW4
    have hk := HKK.out
    subst hk
    have HT := Lib.hid (HR4.out.st.take_no i (by rw [HNN.out]; exact HNO.out))
    have hlt8 : b8 < W4.heap.size := (HR4.out.st.blk (b := b8) (C := (msC xx).toArray) (T' := 31) (.head _)).lt
    go_wp2_with (rw [H3.out.1, H3.out.2])
    refine HT.out.mono ?_
    rintro e w6 ⟨rfl, hS6⟩
    obtain ⟨yy, hyy⟩ : ∃ y, ms0 = y := ⟨_, rfl⟩
    have HYY := Lib.hid hyy
    have hlt8 : b8 < w6.heap.size := (hS6.blk (b := b8) (C := (msC xx).toArray) (T' := 31) (.head _)).lt

    obtain ⟨hm7, hbm7, hsm7⟩ := box_m w6 yy
    have hst7 := Try.store_m _ _ _ yy hm7
    obtain ⟨W7, hW7⟩ : ∃ W7, (w6.alloc (.cells (msC ms0).toArray 31)).setCells w6.heap.size 0 (msC yy) = W7 := ⟨_, rfl⟩
    obtain ⟨b10, hb10⟩ : ∃ b, w6.heap.size = b := ⟨_, rfl⟩
    have H7 := Lib.hid (And.intro hW7 hb10)
    rw [hW7] at hst7 hbm7 hsm7
    have hS7 := hS6.add hsm7 [(b10, .cells (msC yy).toArray 31 (0, 0))] (fun y hy => by
      simp only [List.mem_cons, List.not_mem_nil, or_false] at hy
      subst hy
      exact ⟨Nat.le_of_eq hb10, by rw [← hb10]; exact hbm7⟩)
    rw [hb10] at hst7
    have HS7 := Lib.hid hS7

    obtain ⟨w8, hw8⟩ : ∃ w8, W7 = w8 := ⟨_, rfl⟩
    have HS8 := Lib.hid hS7
    have H8 := Lib.hid hw8
    clear hS7 hm7 hbm7 hsm7 hW7 c0 c1 c2 c3 c5 c6
    rw [← hyy] at hst7
    rw [hw8] at hst7 HS8
    clear hyy hw8

    have hb8 := HS8.out.blk (b := b8) (C := (msC xx).toArray) (T' := 31) (.tail _ (.head _))
    have hst9 := Try.store_m _ _ _ ms0 (msg_there hb8)
    have hbl9 := msg_set (y := ms0) hb8
    obtain ⟨W9, hW9⟩ : ∃ W9, w8.setCells b8 0 (msC ms0) = W9 := ⟨_, rfl⟩
    rw [hW9] at hst9 hbl9
    have hs9 : Step [b8] w8 W9 := by rw [← hW9]; exact (Step.refl _ _).setCells (.inl (by simp)) _ _
    have hnb : b10 ≠ b8 := by have := hlt8; omega
    have hb10' := HS8.out.blk (b := b10) (C := (msC yy).toArray) (T' := 31) (.head _)
    have hr8 := msg_row hbl9
    have hr10 := msg_row (hb10'.step hs9 (by simpa using hnb))
    have HS9 := Lib.hid (HS8.out.zero (b := b8) hs9 (fun y hy => Nat.ne_of_lt (Nat.lt_of_lt_of_le (Kept.lt HR.out.st hy).2 HLB.out)))
    clear hb8 hbl9 hs9 hb10' hW9

    have HY8 := HYY.out
    subst HY8
    have HSM := Lib.hid (same_any ms0 ms0 pm0 [] [] W9 (bare_ok W9 [] 0 0 0 0 0 0 0 false) (bare_ok W9 [] 0 0 0 0 0 0 0 false) (few_bare 0 0 0 0 0 0 0 false))
    go_wp2_with (rw [H7.out.1, H7.out.2, H8.out])
    refine HSM.out.mono ?_
    rintro e w10 ⟨rfl, hs10⟩
    have hS7 := HS9.out.step hs10
    clear hst9 hr8 hr10 hs10
    have HF := Lib.hid (show RdE w0 nb mb mo (q + 1) XO w10 from ⟨_, _, _, _, _, ⟨hS7.less (fun y hy => .tail _ hy), HR4.out.rx, HR4.out.wr, HR4.out.n64, Nat.le_succ_of_le HR4.out.nq, Nat.le_succ_of_le HR4.out.pq⟩⟩)
    clear hS7
    go_wp2_with fail
    go_ret
    exact ⟨rfl, HF.out⟩
  · have p1 : decide ((0 : Int) ≤ i) = false := by simpa using hi1
    have p2 : ¬ (0 ≤ i) := hi1
    have HNO := Lib.hid (show hasI i N = false by unfold hasI; simp [hi1])
    refine region_cls (G := Step [] W.drew) (by kernel_rfl) (by kernel_rfl) (Step.refl _ _) ?_
    repeat (go_big_quiet_step (fail))
    refine wpQuiet_nil ?_
    rintro w2 ⟨⟨w2i, hw2⟩, he⟩
    have he' : w2 = w2i := he
    subst he'
    clear he
    obtain ⟨W4, hW4⟩ : ∃ W4, w2.alloc (.cells (msC ms0).toArray 31) = W4 := ⟨_, rfl⟩
    obtain ⟨b8, hb8⟩ : ∃ b, w2.heap.size = b := ⟨_, rfl⟩
    have H3 := Lib.hid (And.intro hW4 hb8)
    have hs2 : Step [] W w2 := (Step.refl [] W).drew.then hw2 (by simp)
    have hs4 : Step [] W W4 := by rw [← hW4]; exact hs2.alloc _
    have hbm4 : Blk W4 b8 (msC ms0).toArray 31 := by rw [← hW4, ← hb8]; exact Blk.new _ _ _
    have hR4 : Rd w0 nb mb mo q T X n f P ((b8, .cells (msC ms0).toArray 31 (0, 0)) :: (b5, .cells (actC k i j u x).toArray 43 (0, 0)) :: XO) W4 := ⟨HR.out.st.add hs4 [(b8, .cells (msC ms0).toArray 31 (0, 0))] (fun y hy => by
      simp only [List.mem_cons, List.not_mem_nil, or_false] at hy
      subst hy
      exact ⟨by rw [← hb8]; exact hs2.size, hbm4⟩), HR.out.rx, HR.out.wr, HR.out.n64, HR.out.nq, HR.out.pq⟩
    obtain ⟨xx, hxx⟩ : ∃ xx, ms0 = xx := ⟨_, rfl⟩
    have HXX := Lib.hid hxx
    rw [hxx] at hR4
    have HLB := Lib.hid (show W.heap.size ≤ b8 by rw [← hb8]; exact hs2.size)
    have HR4 := Lib.hid hR4
    clear hnn d1 d2 hb8 hs2 hs4 hbm4 hR4 hw2 c0 c1 c2 c3 c5 c6 m0 hxx
    obtain ⟨c0, c1, c2, c3, c5, c6⟩ := act_cells (HR4.out.st.blk (b := b5) (C := (actC k i j u x).toArray) (T' := 43) (.tail _ (.head _)))
    have hltW4 := (HR4.out.st.blk (b := b5) (C := (actC k i j u x).toArray) (T' := 43) (.tail _ (.head _))).lt
    clear hW4
    have hk := HKK.out
    subst hk
    have HT := Lib.hid (HR4.out.st.take_no i (by rw [HNN.out]; exact HNO.out))
    have hlt8 : b8 < W4.heap.size := (HR4.out.st.blk (b := b8) (C := (msC xx).toArray) (T' := 31) (.head _)).lt
    go_wp2_with (rw [H3.out.1, H3.out.2])
    refine HT.out.mono ?_
    rintro e w6 ⟨rfl, hS6⟩
    obtain ⟨yy, hyy⟩ : ∃ y, ms0 = y := ⟨_, rfl⟩
    have HYY := Lib.hid hyy
    have hlt8 : b8 < w6.heap.size := (hS6.blk (b := b8) (C := (msC xx).toArray) (T' := 31) (.head _)).lt

    obtain ⟨hm7, hbm7, hsm7⟩ := box_m w6 yy
    have hst7 := Try.store_m _ _ _ yy hm7
    obtain ⟨W7, hW7⟩ : ∃ W7, (w6.alloc (.cells (msC ms0).toArray 31)).setCells w6.heap.size 0 (msC yy) = W7 := ⟨_, rfl⟩
    obtain ⟨b10, hb10⟩ : ∃ b, w6.heap.size = b := ⟨_, rfl⟩
    have H7 := Lib.hid (And.intro hW7 hb10)
    rw [hW7] at hst7 hbm7 hsm7
    have hS7 := hS6.add hsm7 [(b10, .cells (msC yy).toArray 31 (0, 0))] (fun y hy => by
      simp only [List.mem_cons, List.not_mem_nil, or_false] at hy
      subst hy
      exact ⟨Nat.le_of_eq hb10, by rw [← hb10]; exact hbm7⟩)
    rw [hb10] at hst7
    have HS7 := Lib.hid hS7

    obtain ⟨w8, hw8⟩ : ∃ w8, W7 = w8 := ⟨_, rfl⟩
    have HS8 := Lib.hid hS7
    have H8 := Lib.hid hw8
    clear hS7 hm7 hbm7 hsm7 hW7 c0 c1 c2 c3 c5 c6
    rw [← hyy] at hst7
    rw [hw8] at hst7 HS8
    clear hyy hw8

    have hb8 := HS8.out.blk (b := b8) (C := (msC xx).toArray) (T' := 31) (.tail _ (.head _))
    have hst9 := Try.store_m _ _ _ ms0 (msg_there hb8)
    have hbl9 := msg_set (y := ms0) hb8
    obtain ⟨W9, hW9⟩ : ∃ W9, w8.setCells b8 0 (msC ms0) = W9 := ⟨_, rfl⟩
    rw [hW9] at hst9 hbl9
    have hs9 : Step [b8] w8 W9 := by rw [← hW9]; exact (Step.refl _ _).setCells (.inl (by simp)) _ _
    have hnb : b10 ≠ b8 := by have := hlt8; omega
    have hb10' := HS8.out.blk (b := b10) (C := (msC yy).toArray) (T' := 31) (.head _)
    have hr8 := msg_row hbl9
    have hr10 := msg_row (hb10'.step hs9 (by simpa using hnb))
    have HS9 := Lib.hid (HS8.out.zero (b := b8) hs9 (fun y hy => Nat.ne_of_lt (Nat.lt_of_lt_of_le (Kept.lt HR.out.st hy).2 HLB.out)))
    clear hb8 hbl9 hs9 hb10' hW9

    have HY8 := HYY.out
    subst HY8
    have HSM := Lib.hid (same_any ms0 ms0 pm0 [] [] W9 (bare_ok W9 [] 0 0 0 0 0 0 0 false) (bare_ok W9 [] 0 0 0 0 0 0 0 false) (few_bare 0 0 0 0 0 0 0 false))
    go_wp2_with (rw [H7.out.1, H7.out.2, H8.out])
    refine HSM.out.mono ?_
    rintro e w10 ⟨rfl, hs10⟩
    have hS7 := HS9.out.step hs10
    clear hst9 hr8 hr10 hs10
    have HF := Lib.hid (show RdE w0 nb mb mo (q + 1) XO w10 from ⟨_, _, _, _, _, ⟨hS7.less (fun y hy => .tail _ hy), HR4.out.rx, HR4.out.wr, HR4.out.n64, Nat.le_succ_of_le HR4.out.nq, Nat.le_succ_of_le HR4.out.pq⟩⟩)
    clear hS7
    go_wp2_with fail
    go_ret
    exact ⟨rfl, HF.out⟩
end
end Go.Proofs.Ytminpglkipnhcaa
end
