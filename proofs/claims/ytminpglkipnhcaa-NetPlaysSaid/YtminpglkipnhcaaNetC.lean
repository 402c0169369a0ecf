/- net: the walk of clone. -/
import Derived.Test.YtminpglkipnhcaaNetB
namespace Go.Proofs.Ytminpglkipnhcaa
set_option linter.unusedVariables false
open Go.RowKit
attribute [local go_sem ↓] exec_load_m exec_store_m
attribute [local go_sem] Try.load_m row_drew Try.store_m

/-- a message in new memory -/
def Cloned (M : PM) (w : World) (e : Ending) (w' : World) : Prop := ∃ x' D', e = .returned (.agg (msC x').toArray) ∧ MsOk w' D' x' M ∧ (∀ k, k ∈ D' → w.heap.size ≤ k ∧ k < w'.heap.size) ∧ Step [] w w' ∧ UnF w' D'

set_option maxRecDepth 20000 in
set_option maxHeartbeats 2000000 in
theorem clone_any (x : Ms) (M : PM) (D : List Nat) (w : World) (hx : MsOk w D x M) (hf : Few M) :
    Calls Try.prog 23 #[.agg (msC x).toArray] w (Cloned M w) := by
  obtain ⟨hnE, hdE, L, hLn, hMn, hE, hEn⟩ := hx.es
  have hzv := zeroM
  unfold msV at hzv
  have hC0 : ¬ (msC ms0).toArray = #[] := by decide
  have hb1 := (Blk.new w (msC x).toArray 31).alloc (.cells (msC ms0).toArray 31)
  have hb2 := Blk.new (w.alloc (.cells (msC x).toArray 31)) (msC ms0).toArray 31
  rw [World.size_alloc] at hb2
  have hs2 := ((Step.refl [] w).alloc (.cells (msC x).toArray 31)).alloc (.cells (msC ms0).toArray 31)
  obtain ⟨W, hW⟩ : ∃ W, (w.alloc (.cells (msC x).toArray 31)).alloc (.cells (msC ms0).toArray 31) = W := ⟨_, rfl⟩
  rw [hW] at hb1 hb2 hs2
  obtain ⟨c0, c1, c2, c3, c8, c9, c10⟩ := msg_cells hb1
  have HX := Lib.hid hx
  have HE := Lib.hid (And.intro hLn (And.intro hMn (And.intro hE hEn)))
  have HB := Lib.hid (And.intro hb1 hb2)
  have HS := Lib.hid hs2
  have HW := Lib.hid hW
  have hlt := hb1.lt
  have e1 : x.mn = M.ms.length := hx.ms.len.symm
  have e2 : x.dn = M.da.length := hx.da.len.symm
  have e3 : x.en = L.length := hLn.symm
  rw [e1] at c9
  rw [e2] at c10
  rw [e3] at c8
  have HE1 := Lib.hid (And.intro e1 (And.intro e2 e3))
  have hfe := hf.es
  have hfm := hf.ms
  have hfd := hf.da
  have HC1 := Lib.hid (fun (w1 : World) (hg : Step [] W.drew w1) => (clone_ints x.ma x.mc M.ms w1 (by rw [← e1]; exact hx.ms.nil) (hx.ms.rd.step ((hs2.then (Step.refl [] W).drew (by simp)).then hg (by simp)) (by simp)) (by omega)).mono (fun e w'' ⟨v, h1, h2, h3⟩ =>
    (⟨v, h1, by unfold SpC; rw [if_pos rfl]; exact owns_low h2 ((hs2.then (Step.refl [] W).drew (by simp)).then hg (by simp)).size, h3⟩ : ∃ v, e = Ending.returned v ∧ SpC w.heap.size M L 36 #[.slice x.ma M.ms.length x.mc] v w'' ∧ Step [] w1 w'')))
  have HC2 := Lib.hid (fun (w1 : World) (hg : Step [] W.drew w1) => (clone_bytes x.da x.dc M.da w1 (by rw [← e2]; exact hx.da.nil) (hx.da.rd.step ((hs2.then (Step.refl [] W).drew (by simp)).then hg (by simp)) (by simp)) (by omega)).mono (fun e w'' ⟨v, h1, h2, h3⟩ =>
    (⟨v, h1, by unfold SpC; rw [if_neg (by decide), if_pos rfl]; exact owns_low h2 ((hs2.then (Step.refl [] W).drew (by simp)).then hg (by simp)).size, h3⟩ : ∃ v, e = Ending.returned v ∧ SpC w.heap.size M L 37 #[.slice x.da M.da.length x.dc] v w'' ∧ Step [] w1 w'')))
  have HC3 := Lib.hid (fun (w1 : World) (hg : Step [] W.drew w1) => (cloneL_any x.ea L.length x.ec L w1 (by rw [← e3]; exact hnE) (hE.step ((hs2.then (Step.refl [] W).drew (by simp)).then hg (by simp)) (by simp)) rfl (by omega)).mono (fun e w'' ⟨⟨a, c, h1, h2⟩, h3⟩ =>
    (⟨_, h1, by unfold SpC; rw [if_neg (by decide), if_neg (by decide)]; exact owns_low h2 ((hs2.then (Step.refl [] W).drew (by simp)).then hg (by simp)).size, h3⟩ : ∃ v, e = Ending.returned v ∧ SpC w.heap.size M L 38 #[.slice x.ea L.length x.ec] v w'' ∧ Step [] w1 w'')))
  have hL9 : L.length ≤ 9 := by omega
  clear hx hE hEn hLn hMn hb1 hb2 hs2 hW e1 e2 e3 hnE hdE
  go_enter Try.func23, Try.ntmps23
  go_wp2_with fail
  rw [HW.out]
  clear hzv
  have hne : Nonempty (ClsW (Step [] W.drew)) := ⟨⟨_, Step.refl _ _⟩⟩
  have d8 : ∀ y : ClsW (Step [] W.drew), y.val.cell? ⟨w.heap.size, 8, none⟩ = some (.slice x.ea L.length x.ec) := fun y => (y.ok.cell hlt (by simp)).trans c8
  have d9 : ∀ y : ClsW (Step [] W.drew), y.val.cell? ⟨w.heap.size, 9, none⟩ = some (.slice x.ma M.ms.length x.mc) := fun y => (y.ok.cell hlt (by simp)).trans c9
  have d10 : ∀ y : ClsW (Step [] W.drew), y.val.cell? ⟨w.heap.size, 10, none⟩ = some (.slice x.da M.da.length x.dc) := fun y => (y.ok.cell hlt (by simp)).trans c10
  refine wp_region_rel_tail (spC_law w.heap.size M L) 10 (by kernel_rfl) (by kernel_rfl) ?_
  simp only [List.take_succ_cons, List.take_zero, List.drop_succ_cons, List.drop_zero]
  refine wpR_pre (spC_law w.heap.size M L) anti_tail 2 _ _ _ ?_ rfl
  simp only [List.take_succ_cons, List.take_zero, List.drop_succ_cons, List.drop_zero]
  repeat (go_big_quiet_step (fail))
  refine wpQuiet_nil ?_
  refine wpR_callF 36 _ _ rfl rfl Try.func36 (by kernel_rfl) (by kernel_rfl) #[.slice x.ma M.ms.length x.mc] (by simp [Act.eval]) (fun w1 hg => HC1.out w1 hg) ?_
  intro v6 hv6
  obtain ⟨a6, k6, rfl⟩ : ∃ a k, v6 = .slice a M.ms.length k := by
    obtain ⟨w1, _, hS⟩ := hv6
    unfold SpC at hS
    rw [if_pos rfl] at hS
    obtain ⟨a, c, h, _⟩ := sli_of hS
    exact ⟨a, c, h⟩
  clear hv6
  refine wpR_pre (spC_law w.heap.size M L) anti_tail 2 _ _ _ ?_ rfl
  simp only [List.take_succ_cons, List.take_zero, List.drop_succ_cons, List.drop_zero]
  go_simp
  repeat (go_big_quiet_step (fail))
  refine wpQuiet_nil ?_
  refine wpR_callF 37 _ _ rfl rfl Try.func37 (by kernel_rfl) (by kernel_rfl) #[.slice x.da M.da.length x.dc] (by simp [Act.eval]) (fun w1 hg => HC2.out w1 hg) ?_
  intro v9 hv9
  obtain ⟨a9, k9, rfl⟩ : ∃ a k, v9 = .slice a M.da.length k := by
    obtain ⟨w1, _, hS⟩ := hv9
    unfold SpC at hS
    rw [if_neg (by decide), if_pos rfl] at hS
    obtain ⟨a, c, h, _⟩ := slb_of hS
    exact ⟨a, c, h⟩
  clear hv9
  refine wpR_pre (spC_law w.heap.size M L) anti_tail 2 _ _ _ ?_ rfl
  simp only [List.take_succ_cons, List.take_zero, List.drop_succ_cons, List.drop_zero]
  go_simp
  repeat (go_big_quiet_step (fail))
  refine wpQuiet_nil ?_
  refine wpR_callF 38 _ _ rfl rfl Try.func38 (by kernel_rfl) (by kernel_rfl) #[.slice x.ea L.length x.ec] (by simp [Act.eval]) (fun w1 hg => HC3.out w1 hg) ?_
  intro v12 hv12
  obtain ⟨a12, k12, rfl⟩ : ∃ a k, v12 = .slice a L.length k := by
    obtain ⟨w1, _, hS⟩ := hv12
    unfold SpC at hS
    rw [if_neg (by decide), if_neg (by decide)] at hS
    rcases hS.2 with ⟨rfl, h0⟩ | ⟨g, c, cur, rfl, _⟩
    · exact ⟨_, _, by rw [h0]⟩
    · exact ⟨_, _, rfl⟩
  clear hv12
  refine wpR_pre (spC_law w.heap.size M L) anti_tail 1 _ _ _ ?_ rfl
  simp only [List.take_succ_cons, List.take_zero, List.drop_succ_cons, List.drop_zero]
  go_simp
  repeat (go_big_quiet_step (fail))
  refine wpQuiet_nil ?_
  unfold wpR
  intro w7 hs7 hF7
  obtain ⟨⟨h6, h9⟩, h12⟩ := hF7
  unfold SpC at h6 h9 h12
  rw [if_pos rfl] at h6
  rw [if_neg (by decide), if_pos rfl] at h9
  rw [if_neg (by decide), if_neg (by decide)] at h12
  have hst7 : Step [] w w7 := (HS.out.then (Step.refl [] W).drew (by simp)).then hs7 (by simp)
  have hB1 := (HB.out.1.drew).step hs7 (by simp)
  have hB2 := (HB.out.2.drew).step hs7 (by simp)
  obtain ⟨b1, hb1⟩ : ∃ b, w.heap.size = b := ⟨_, rfl⟩
  have hlow : w.heap.size ≤ b1 := by omega
  have hap1 := owns_apart h6 h12 (by decide)
  have hap2 := owns_apart h9 h12 (by decide)
  have hS8 : Step [] w (((w7.setCell ⟨b1, 9, none⟩ (.slice a6 M.ms.length k6)).setCell ⟨b1, 10, none⟩ (.slice a9 M.da.length k9)).setCell ⟨b1, 8, none⟩ (.slice a12 L.length k12)) := ((hst7.setCell (.inr hlow) 9 _).setCell (.inr hlow) 10 _).setCell (.inr hlow) 8 _
  have hS78 : Step [b1] w7 (((w7.setCell ⟨b1, 9, none⟩ (.slice a6 M.ms.length k6)).setCell ⟨b1, 10, none⟩ (.slice a9 M.da.length k9)).setCell ⟨b1, 8, none⟩ (.slice a12 L.length k12)) := (((Step.refl [b1] w7).setCell (.inl (by simp)) 9 _).setCell (.inl (by simp)) 10 _).setCell (.inl (by simp)) 8 _
  rw [hb1] at hB1 hB2
  have hnb : ∀ {B e m n : Nat} {v : Value} {xs : List Value}, w7.ownsRow B e m v n xs → e ≠ 31 → ∀ k, k ∈ foot v → k ∉ [b1] := by
    intro B e m n v xs h he k hk hm
    simp at hm
    subst hm
    rcases h.2 with ⟨rfl, _⟩ | ⟨g, c, cur, rfl, _, hh, _⟩
    · simp [foot, Value.ownBlock] at hk
    · simp [foot, Value.ownBlock] at hk
      subst hk
      have hB1' := hB1
      unfold Blk at hB1'
      rw [hB1'] at hh
      injection hh with h1
      injection h1 with _ h2
      exact he h2.symm
  have h6' := owns_step h6 hS78 (hnb h6 (by decide))
  have h9' := owns_step h9 hS78 (hnb h9 (by decide))
  have h12' := owns_step h12 hS78 (hnb h12 (by decide))
  obtain ⟨a, c, ha, hsm⟩ := sli_of h6'
  injection ha with ha1 _ ha2
  subst ha1
  subst ha2
  obtain ⟨a, c, ha, hsd⟩ := slb_of h9'
  injection ha with ha1 _ ha2
  subst ha1
  subst ha2
  have hm1 : Blk (((w7.setCell ⟨b1, 9, none⟩ (.slice a6 M.ms.length k6)).setCell ⟨b1, 10, none⟩ (.slice a9 M.da.length k9)).setCell ⟨b1, 8, none⟩ (.slice a12 L.length k12)) b1 (msC (x.with a12 L.length k12 a6 M.ms.length k6 a9 M.da.length k9)).toArray 31 := ((hB1.set 9 _).set 10 _).set 8 _
  have hm2 := hB2.step hS78 (by simp)
  have hinv : ClInv w w.heap.size b1 x M D L (.slice a12 L.length k12) (x.with a12 L.length k12 a6 M.ms.length k6 a9 M.da.length k9) 0 (((w7.setCell ⟨b1, 9, none⟩ (.slice a6 M.ms.length k6)).setCell ⟨b1, 10, none⟩ (.slice a9 M.da.length k9)).setCell ⟨b1, 8, none⟩ (.slice a12 L.length k12)) :=
    ⟨Nat.zero_le _, hm1, hm2, hS8, rfl, ⟨L, [], h12', (fun i y e hi => by omega), (fun i _ => rfl), (fun j hj => by cases hj), UnF.nil _⟩, hsm, hsd, (fun j hj => ⟨(foot_lt h6' j hj).1, (foot_lt h6' j hj).2, hap1 j hj, fun e => not_msg h6' hm2 (by decide) (by rw [← e]; exact hj)⟩), (fun j hj => ⟨(foot_lt h9' j hj).1, (foot_lt h9' j hj).2, hap2 j hj, fun e => not_msg h9' hm2 (by decide) (by rw [← e]; exact hj)⟩), owns_unf h6', owns_unf h9'⟩
  have HI := Lib.hid hinv
  have p8 := hB1.cell 8
  have p9 := hB1.cell 9
  have p10 := hB1.cell 10
  have f8 := hB1.free 8
  have f9 := hB1.free 9
  have f10 := hB1.free 10
  simp only [msC, List.getElem?_toArray, List.getElem?_cons_zero, List.getElem?_cons_succ] at p8 p9 p10
  have hlen := L.length
  clear hinv hm1 hm2 hsm hsd h6' h9' h12' hnb hS78 hS8 hap1 hap2 hB1 hB2 hst7 h6 h9 h12 hs7 d8 d9 d10 hne HC1 HC2 HC3 c0 c1 c2 c3 c8 c9 c10 HB HW HS hlen
  have HBB := Lib.hid hb1
  rw [hb1] at HI
  rw [hb1]
  clear hb1 hlow hlt
  obtain ⟨n, hn⟩ : ∃ n, L.length = n := ⟨_, rfl⟩
  have HN := Lib.hid hn
  rw [hn] at HI hL9 ⊢
  clear hn
  obtain ⟨x1, hx1⟩ : ∃ x1, x.with a12 n k12 a6 M.ms.length k6 a9 M.da.length k9 = x1 := ⟨_, rfl⟩
  have HX1 := Lib.hid hx1
  rw [hx1] at HI
  clear hx1
  go_wp2_with fail
  go_loopw [19] (fun j wr => ∃ k : Nat, j = .int .i64 k ∧ ClInv w b1 b1 x M D L (.slice a12 n k12) x1 k wr) (fun j _ => n - (intOf j).toNat)
  case atStart => exact ⟨0, rfl, HI.out⟩
  case round =>
    obtain ⟨k, rfl, hI⟩ := hrel
    have HR := Lib.hid hI
    have hkn : k ≤ n := by have := hI.few; rw [HN.out] at this; exact this
    clear hI HI
    by_cases hk : k < n
    · obtain ⟨L1, D1, r1, r2, r3, r4, r5⟩ := HR.out.rows
      have hL1 : L1.length = n := by have := r1.1; rw [cellsL_len, HN.out] at this; omega
      have hkL : k < L.length := by rw [HN.out]; exact hk
      obtain ⟨y, hy⟩ : ∃ y, L[k]? = some y := ⟨_, List.getElem?_eq_getElem hkL⟩
      have hkM : k < M.es.length := by rw [HE.out.2.1, ← HE.out.1]; exact hkL
      obtain ⟨e, he⟩ : ∃ e, M.es[k]? = some e := ⟨_, List.getElem?_eq_getElem hkM⟩
      have hok := HE.out.2.2.2 k y e hy he
      have hfd9 : e.da.length ≤ 60 := hf.ed e (List.mem_of_getElem? he)
      have hy1 : L1[k]? = some y := (r3 k (Nat.le_refl _)).trans hy
      obtain ⟨g, hg⟩ : ∃ g, a12 = some ⟨g, 0, none⟩ := by
        rcases r1.2 with ⟨_, h0⟩ | ⟨g, c, cur, hv, _⟩
        · rw [HN.out] at h0; omega
        · injection hv with h1
          exact ⟨g, h1⟩
      subst hg
      have hck : wr.cell? ⟨g, k * 4 + 3, none⟩ = some (.slice y.da e.da.length y.dc) := by
        have h1 := r1
        rw [HN.out] at h1
        rw [h1.cellAt _ (by omega), cellsL_at L1 k 3 (by omega) (by omega)]
        rw [show L1.getD k en0 = y from by simp [List.getD, hy1]]
        simp [enCells, ← hok.da.len]
      have hfk : wr.frozen? ⟨g, k * 4 + 3, none⟩ = false := by
        have h1 := r1
        rw [HN.out] at h1
        exact h1.frozenAt _
      have hc8 : wr.cell? ⟨b1, 8, none⟩ = some (.slice (some ⟨g, 0, none⟩) n k12) := by
        have h1 := (msg_cells HR.out.m1).2.2.2.2.1
        rw [h1, ← HR.out.es]
      have hgl := owns_live r1 g (by simp [foot, Value.ownBlock])
      have hbl := HR.out.m1.lt
      have hg1 : g ≠ b1 := by
        intro hgb
        subst hgb
        have h1 := HR.out.m1
        unfold Blk at h1
        rcases r1.2 with ⟨hv, _⟩ | ⟨g', c, cur, hv, _, hh, _⟩
        · cases hv
        · cases hv
          rw [h1] at hh
          injection hh with h1
          injection h1 with _ h2
          cases h2
      have HC := Lib.hid (fun (w1 : World) (hg : Step [] wr.drew w1) => (clone_bytes y.da y.dc e.da w1 (by rw [hok.da.len]; exact hok.da.nil) (hok.da.rd.step ((HR.out.st.then (Step.refl [] wr).drew (by simp)).then hg (by simp)) (by simp)) (by omega)).mono (fun e' w'' ⟨v, h1, h2, h3⟩ =>
        (⟨v, h1, owns_low h2 (by have := hg.size; exact this), h3⟩ : ∃ v, e' = Ending.returned v ∧ Sp1 wr.heap.size e.da 37 #[.slice y.da e.da.length y.dc] v w'' ∧ Step [] w1 w'')))
      have HQ := Lib.hid (And.intro r1 (And.intro r2 (And.intro r3 (And.intro r4 (And.intro hL1 (And.intro hy1 (And.intro hok (And.intro hg1 he))))))))
      have hkk : (k : Int) < (n : Int) := by omega
      have hk0 : (0 : Int) ≤ (k : Int) := by omega
      clear r1 r2 r3 r4 r5 hL1 hkL hy hkM he hok hy1
      go_wp2_with fail
      have hne : Nonempty (ClsW (Step [] wr.drew)) := ⟨⟨_, Step.refl _ _⟩⟩
      have d8 : ∀ y : ClsW (Step [] wr.drew), y.val.cell? ⟨b1, 8, none⟩ = some (.slice (some ⟨g, 0, none⟩) n k12) := fun y => (y.ok.cell hbl (by simp)).trans hc8
      have d9 : ∀ z : ClsW (Step [] wr.drew), z.val.cell? ⟨g, k * 4 + 3, none⟩ = some (.slice y.da e.da.length y.dc) := fun z => (z.ok.cell hgl (by simp)).trans hck
      refine wp_region_rel_tail (sp1_law wr.heap.size e.da) 12 (by kernel_rfl) (by kernel_rfl) ?_
      simp only [List.take_succ_cons, List.take_zero, List.drop_succ_cons, List.drop_zero]
      refine wpR_pre (sp1_law wr.heap.size e.da) anti_tail 9 _ _ _ ?_ rfl
      simp only [List.take_succ_cons, List.take_zero, List.drop_succ_cons, List.drop_zero]
      repeat (go_big_quiet_step (fail))
      refine wpQuiet_nil ?_
      refine wpR_callF 37 _ _ rfl rfl Try.func37 (by kernel_rfl) (by kernel_rfl) #[.slice y.da e.da.length y.dc] (by simp [Act.eval]) (fun w1 hg => HC.out w1 hg) ?_
      intro v31 hv31
      obtain ⟨a31, k31, rfl⟩ : ∃ a k, v31 = .slice a e.da.length k := by
        obtain ⟨w1, _, hS⟩ := hv31
        obtain ⟨a, c, h, _⟩ := slb_of hS
        exact ⟨a, c, h⟩
      clear hv31
      refine wpR_pre (sp1_law wr.heap.size e.da) anti_tail 2 _ _ _ ?_ rfl
      simp only [List.take_succ_cons, List.take_zero, List.drop_succ_cons, List.drop_zero]
      go_simp
      repeat (go_big_quiet_step (fail))
      refine wpQuiet_nil ?_
      unfold wpR
      intro w7 hs7 hF7
      have hs7' : Step [] wr w7 := (Step.refl [] wr).drew.then hs7 (by simp)
      have hN := Lib.hid (HR.out.next HBB.out HN.out hk (by have := HQ.out.2.2.1 k (Nat.le_refl _); rw [← this]; exact HQ.out.2.2.2.2.2.1) HQ.out.2.2.2.2.2.2.2.2 HQ.out.2.2.2.2.2.2.1 hs7' hF7)
      have ck : w7.cell? ⟨g, k * 4 + 3, none⟩ = some (.slice y.da e.da.length y.dc) := (hs7'.cell hgl (by simp)).trans hck
      have fk : w7.frozen? ⟨g, k * 4 + 3, none⟩ = false := (hs7'.frozen hgl (by simp)).trans hfk
      clear hs7 hs7' hF7 hck hfk hc8 d8 d9 hne HC HQ
      go_wp2_with fail
      go_roundw
      case rel => exact ⟨k + 1, by go_num, hN.out⟩
      case measure => simp [intOf]; omega
    · have hke : k = L.length := by rw [HN.out]; omega
      subst hke
      have hm1 := msg_row HR.out.m1
      have hm2 := msg_there HR.out.m2
      have hset := msg_set (y := x1) HR.out.m2
      have hst : Step [] w (wr.setCells (b1 + 1) 0 (msC x1)) := HR.out.st.setCells (.inr (by rw [HBB.out]; omega)) _ _
      have hst1 : Step [b1 + 1] wr (wr.setCells (b1 + 1) 0 (msC x1)) := (Step.refl [b1 + 1] wr).setCells (.inl (by simp)) _ _
      obtain ⟨D', hD1, hD2, hD4⟩ := HR.out.done HX.out (by rw [HE.out.1, HE.out.2.1]) HBB.out _ _ _ _ _ _ (by rw [← HX1.out, HN.out])
      have hD3 := hD1.step hst1 (fun j hj hm => (hD2 j hj).2.2 (by simpa using hm))
      have HF := Lib.hid (show Cloned M w (.returned (.agg (msC x1).toArray)) (wr.setCells (b1 + 1) 0 (msC x1)) from ⟨x1, D', rfl, hD3, (fun j hj => ⟨by rw [HBB.out]; exact (hD2 j hj).1, Nat.lt_of_lt_of_le (hD2 j hj).2.1 hst1.size⟩), hst, hD4.step hst1 (fun j hj hm => (hD2 j hj).2.2 (by simpa using hm))⟩)
      have HSE := Lib.hid hset
      clear hst hst1 hD1 hD2 hD3 hD4 hset
      go_wp2_with fail
      refine bodyPost_ret (v := .agg (msC x1).toArray) (results_cell_row rfl _ _ (b1 + 1) 31 _ (0, 0) _ rfl HSE.out Try.underlying31 rfl (by kernel_rfl)) rfl HF.out
end Go.Proofs.Ytminpglkipnhcaa
