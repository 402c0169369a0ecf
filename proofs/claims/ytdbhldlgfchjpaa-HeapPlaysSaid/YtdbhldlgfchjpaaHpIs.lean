/- HeapPlays: is. -/
import Derived.Test.YtdbhldlgfchjpaaHpMc
import Derived.Test.YtdbhldlgfchjpaaHpRB
import Derived.Test.YtdbhldlgfchjpaaHpNB
import Derived.Test.YtdbhldlgfchjpaaSeqNone
import Derived.Test.YtdbhldlgfchjpaaRoundQuiet
import Derived.Test.YtdbhldlgfchjpaaStillQ
import Derived.StillTailTactics
namespace Go.Proofs.Ytdbhldlgfchjpaa
set_option linter.unusedVariables false
open Go.RowKit Go.Shelf HpB
attribute [local go_sem] Oper.semAt_some
theorem least_head {left r : List It} {x : It} (hs : Hp.Srt HpB.lt (x :: r)) (hp : left.Perm (x :: r)) (i : Nat) (hi : i < left.length) (hmin : ∀ j, j < left.length → HpB.lt (Hp.nth left j) (Hp.nth left i) = false) : Hp.nth left i = x := by
  have h1 : Hp.nth left i ∈ x :: r := hp.mem_iff.1 (Hp.nth_mem left i hi)
  obtain ⟨j, hj, hx⟩ := Hp.mem_nth (hp.mem_iff.2 (List.mem_cons_self (a := x) (l := r)))
  have h2 := hmin j hj
  rw [hx] at h2
  rcases List.mem_cons.1 h1 with h3 | h3
  · exact h3
  · rw [(List.pairwise_cons.1 hs).1 _ h3] at h2
    cases h2
/-- what a tell of a heap keeps between two rounds -/
def IsI (w : World) (s : List It) (b5 : Nat) (pre : List It) (A : World) (C : List Nat) : Prop :=
  ∃ (lv : Value) (left rest : List It), C = List.range w.heap.size ++ (w.heap.size :: b5 :: foot lv) ∧ s = pre ++ rest ∧ Step [] w A ∧ Blk A w.heap.size #[.bool false] 4 ∧ Blk A b5 #[lv] 37 ∧
    Prs A w.heap.size lv left ∧ left.Perm rest ∧ w.heap.size < b5 ∧ w.heap.size ∉ foot lv ∧ b5 ∉ foot lv
theorem IsI.step {w : World} {s : List It} {b5 : Nat} {pre : List It} {A B : World} {C H : List Nat} (h : IsI w s b5 pre A C) (hs : Step H A B) (hd : Dj C H) : IsI w s b5 pre B C := by
  obtain ⟨lv, left, rest, rfl, h1, h2, h3, h4, h5, h6, h7, h8, h9⟩ := h
  have n1 : w.heap.size ∉ H := hd _ (by simp)
  have n2 : b5 ∉ H := hd _ (by simp)
  refine ⟨lv, left, rest, rfl, h1, h2.then hs (fun k hk => ?_), h3.step hs n1, h4.step hs n2, h5.step hs (fun k hk => hd k (by simp [hk])), h6, h7, h8, h9⟩
  rcases Nat.lt_or_ge k w.heap.size with hlt | hge
  · exact absurd hk (hd k (by simp [hlt]))
  · exact .inr hge
theorem IsI.live {w : World} {s : List It} {b5 : Nat} {pre : List It} {A : World} {C : List Nat} (h : IsI w s b5 pre A C) : Live A C := by
  obtain ⟨lv, left, rest, rfl, h1, h2, h3, h4, h5, h6, h7, h8, h9⟩ := h
  intro k hk
  rw [List.mem_append, List.mem_range, List.mem_cons, List.mem_cons] at hk
  rcases hk with hk | rfl | rfl | hk
  · exact Nat.lt_of_lt_of_le hk h2.size
  · exact h3.lt
  · exact h4.lt
  · exact owns_live h5 k hk
set_option pp.deepTerms true in
set_option maxRecDepth 100000 in
set_option maxHeartbeats 8000000 in
theorem is_any (base hb bm : Nat) (v : Value) (s m : List It) (F : List Nat) (w : World) (hH : Hs w base hb s F) (hM : Prs w bm v m) (hp : m.Perm s) (hfew : m.length ≤ 1000) :
    Calls Try.prog 20 #[.pointer (some ⟨hb, 0, none⟩), v] w fun e w' => e = .returned (.bool true) ∧ Step [] w w' := by
  obtain ⟨i0, hi0, hz0, hz1, hz2⟩ := infoP_parts
  obtain ⟨ao, cap, rfl⟩ := hM.form
  have HH := Lib.hid (And.intro hH (And.intro hM hp))
  obtain ⟨n, hn⟩ : ∃ n, m.length = n := ⟨_, rfl⟩
  have HN := Lib.hid hn
  rw [hn] at hfew ⊢
  have HO := Lib.hid (show w.ownsRow bm 44 2 (.slice ao n cap) n (flatI m) from by have := hM; unfold Prs at this; rw [hn] at this; exact this)
  have hnone : ao = none → n = 0 ∧ cap = 0 := by
    intro e
    subst e
    rcases HO.out.2 with ⟨hv, h0⟩ | ⟨g, c, cur, hv, _⟩
    · cases hv
      exact ⟨rfl, rfl⟩
    · cases hv
  have HNN := Lib.hid hnone
  have HAD := Lib.hid (show ∀ ad, ao = some ad → ∃ g, ad = ⟨g, 0, none⟩ from fun ad had => by
    rcases HO.out.2 with ⟨hv, h0⟩ | ⟨g, c, cur, hv, _⟩
    · cases hv
      cases had
    · cases hv
      cases had
      exact ⟨g, rfl⟩)
  clear hH hM hp hn hnone
  have HMK := Lib.hid (show ((w.alloc (.cells #[.bool false] 4)).alloc (.cells #[] 44)).ownsRow w.heap.size 44 2 (.slice (some ⟨w.heap.size + 1, 0, none⟩) 0 0) 0 [] from by
    have h := World.ownsRow_made (base := w.heap.size) (e := 44) (size := 2) (w.alloc (.cells #[.bool false] 4)) #[] 0 (by rw [World.size_alloc]; omega) (Nat.zero_le _) rfl
    rwa [World.size_alloc] at h)
  refine calls_of_wp_marks Try.func20 rfl ?_
  simp only [Try.ntmps20, List.size_toArray, List.length_cons, List.length_nil, Nat.reduceAdd, Nat.reduceSub, Array.replicate_succ, Array.replicate_zero, List.push_toArray, List.append_toArray, List.nil_append, List.cons_append]
  go_wp2_with (at_builtin; go_loud (refine wpList_append_sep rfl (.tmp 11) (.tmp 12) 37 rfl w.heap.size 44 i0 _ 2 16 Try.underlying37 hi0 hz0 hz1 hz2 rfl (by decide) _ 0 [] rfl HMK.out ao n cap (flatI m) rfl HNN.out HO.out.1 (fun ad had => by obtain ⟨g, rfl⟩ := HAD.out ad had; subst had; exact ((HO.out.alloc _).alloc _).cells rfl) (flat_one m) (by unfold maxLen; omega) (by omega) (by simp; omega) ?_))
  intro v2 w2 ho2 hg2 hf2
  have s2 : Step [] w w2 := (((Step.refl [] w).alloc (.cells #[.bool false] 4)).alloc (.cells #[] 44)).grown hg2 (fun k hk => by simp [Value.ownBlock] at hk; subst hk; exact .inr (by omega))
  have b4 : Blk w2 w.heap.size #[.bool false] 4 := by
    have h := (Blk.new w #[.bool false] 4).alloc (.cells #[] 44)
    unfold Blk at h ⊢
    rw [hg2.block _ (by simp; omega) (by simp [Value.ownBlock])]
    exact h
  have nf : w.heap.size ∉ foot v2 := fun hk => by
    rcases hf2 _ hk with h | h
    · simp [foot, Value.ownBlock] at h
    · simp at h
      omega
  obtain ⟨a2, c2, rfl⟩ : ∃ a2 c2, v2 = .slice a2 n c2 := by
    rcases ho2.2 with ⟨hv, h0⟩ | ⟨g, c, cur, hv, _⟩
    · exact ⟨none, 0, by rw [hv, show n = 0 by omega]⟩
    · exact ⟨_, c, hv⟩
  have hP2 : Prs w2 w.heap.size (.slice a2 n c2) m := by
    unfold Prs
    rw [HN.out]
    simpa using ho2
  have H2 := Lib.hid (And.intro s2 (And.intro b4 (And.intro nf hP2)))
  clear ho2 hg2 hf2 s2 b4 nf hP2 HMK
  go_wp2_with fail
  refine (HpB.all_box _ _).mono ?_
  rintro e w3 ⟨rfl, hw3⟩
  obtain ⟨b5, hb5⟩ : ∃ b, w2.heap.size = b := ⟨_, rfl⟩
  have s2 := H2.out.1
  have hbx := (Blk.new (w2.alloc (.cells #[.slice a2 n c2] 37)) #[.pointer (some ⟨hb, 0, none⟩)] 35).cell 0
  rw [World.size_alloc, ← hw3] at hbx
  simp only [List.getElem?_toArray, List.getElem?_cons_zero] at hbx
  have hI0 : IsI w s b5 [] w3 (List.range w.heap.size ++ (w.heap.size :: b5 :: foot (.slice a2 n c2))) := by
    obtain ⟨h1, h2, h3, h4⟩ := H2.out
    have sa : Step [] w2 w3 := by rw [hw3]; exact ((Step.refl [] w2).alloc _).alloc _
    have hl4 := owns_live h4
    refine ⟨_, m, s, rfl, rfl, h1.then sa (by simp), h2.step sa (by simp), ?_, h4.step sa (by simp), HH.out.2.2, ?_, h3, fun hk => by have := hl4 _ hk; omega⟩
    · rw [hw3, ← hb5]
      exact (Blk.new w2 _ _).alloc _
    · have := h2.lt
      omega
  have hPre : ∀ W, Step [] w3 W → W.cell? ⟨b5 + 1, 0, none⟩ = some (.pointer (some ⟨hb, 0, none⟩)) ∧ Hs W base hb s F := by
    intro W hs
    have sa : Step [] w2 w3 := by rw [hw3]; exact ((Step.refl [] w2).alloc _).alloc _
    refine ⟨?_, ((HH.out.1.step s2 (by simp)).step sa (by simp)).step hs (by simp)⟩
    have hlt := World.block_lt_of_cell? w3 _ hbx
    rw [hb5] at hbx hlt
    exact (hs.cell hlt (by simp)).trans hbx
  have HI := Lib.hid hI0
  have HPre := Lib.hid hPre
  rw [World.size_alloc, hb5]
  clear hI0 hPre hbx hw3 s2 hb5
  go_wp2_with fail
  refine (wpIn_wide (n := 3)).1 ?_
  refine wpIn_range_sep (gf := 61) (lb := #[.pointer (some ⟨b5 + 1, 0, none⟩)]) rfl (by omega) rfl trivial (enters_of Try.func61 (by kernel_rfl) rfl)
    (all1_sep 2 (by omega) (b5 + 1) base hb s F) HPre.out (fun _ => rfl) (fun k hk => absurd hk List.not_mem_nil)
    (IsI w s b5) (fun _ _ _ _ => False) (fun _ _ _ _ _ h hs hd => h.step hs hd) (fun _ _ _ h => h.live) (fun _ _ _ _ k hk => absurd hk List.not_mem_nil) (fun _ _ _ _ _ _ h => h.elim) (fun _ _ _ _ h => h.elim)
    _ HI.out (fun x a' A => ∃ b, a' = { tmps := #[.pointer (some ⟨hb, 0, none⟩), .slice ao n cap, undef, undef, .pointer (some ⟨w.heap.size, 0, none⟩), .pointer (some ⟨b5, 0, none⟩), .pointer (some ⟨b, 0, none⟩), undef, undef, undef, undef, .slice (some ⟨w.heap.size + 1, 0, none⟩) 0 0, .slice ao n cap, .slice a2 n c2, .pointer (some ⟨hb, 0, none⟩), .func (.func 61) #[] #[.pointer (some ⟨b5 + 1, 0, none⟩)], .agg #[.int .u8 x.1, .int .i64 x.2], undef, undef, undef, undef, undef, undef, undef, undef, undef, undef, undef, undef, undef, undef, undef, undef, undef, undef, undef, undef, undef, undef, undef, undef, undef, undef, undef, undef, undef, undef, undef, undef, undef, undef, undef, undef, undef, undef, undef, undef, undef, undef, undef, undef, undef, undef, undef, undef, undef, undef, undef, undef, undef, undef, undef, undef, undef, undef], defers := [] } ∧ Blk A b #[.int .u8 x.1, .int .i64 x.2] 49) ?hAx ?assign ?body ?done (fun _ _ _ _ _ _ _ _ h => h.elim)
  case hAx =>
    rintro x a' A B b r ⟨b0, rfl, hB⟩ hl hs
    refine ⟨b0, rfl, hB.step hs (fun hm => ?_)⟩
    simp at hm
    subst hm
    unfold Blk at hB
    rw [hB] at hl
    cases hl
  case assign =>
    rintro l pre ⟨xk, xr⟩ A C K hI hK
    gi_wp2
    exact hK _ _ ((Step.refl [] A).alloc _) ⟨A.heap.size, rfl, Blk.new A _ _⟩
  case body =>
    rintro l pre ⟨xk, xr⟩ a' A C hrec hlC hV hI ⟨bx, rfl, hBx⟩
    obtain ⟨lv, left, rest, hC, hs, hst, hb4, hb5', hP, hpm, n1, n2, n3⟩ := hI
    obtain ⟨la, lc, rfl⟩ := hP.form
    have c5 := hb5'.cell 0
    have x0 := hBx.cell 0
    have x1 := hBx.cell 1
    simp only [List.getElem?_toArray, List.getElem?_cons_zero, List.getElem?_cons_succ] at c5 x0 x1
    have HB := Lib.hid (And.intro hC (And.intro hs (And.intro hst (And.intro hb4 (And.intro hb5' (And.intro hP (And.intro hpm (And.intro n1 (And.intro n2 (And.intro n3 hBx))))))))))
    clear hC hs hst hb4 hb5' hP hpm n1 n2 n3 hBx
    obtain ⟨L, hL⟩ : ∃ L, left.length = L := ⟨_, rfl⟩
    have HL := Lib.hid hL
    rw [hL] at c5
    clear hL
    gi_wp2
    refine ⟨trivial, (CallsIn.inRound l (callsIn_wide.2 (least_any w.heap.size (.slice la L lc) left A (by have := HB.out.2.2.2.2.2.1; rwa [HL.out] at this) (by
      have h1 := HB.out.2.2.2.2.2.2.1.length_eq
      have h2 := congrArg List.length HB.out.2.1
      have h3 := HH.out.2.2.length_eq
      have h4 := HN.out
      simp at h2
      omega)))).mono ?_⟩
    rintro e A2 ⟨s2, r, rfl, hr⟩
    obtain ⟨rest', hrest⟩ : ∃ rest', rest = (xk, xr) :: rest' := by
      obtain ⟨t, ht⟩ := hV
      have h1 := HB.out.2.1
      rw [h1, List.append_assoc] at ht
      exact ⟨t, (List.append_cancel_left ht).symm⟩
    have hsr : Hp.Srt HpB.lt ((xk, xr) :: rest') := by
      have h1 := HH.out.1.srt
      have h2 := HB.out.2.1
      rw [hrest] at h2
      rw [h2] at h1
      exact (List.pairwise_append.1 h1).2.1
    have hpr : left.Perm ((xk, xr) :: rest') := by
      have := HB.out.2.2.2.2.2.2.1
      rwa [hrest] at this
    have hlen0 : 0 < left.length := by rw [hpr.length_eq]; simp
    rcases hr with ⟨_, h0⟩ | ⟨i, hi, rfl, hmin⟩
    · omega
    · have hx := least_head hsr hpr i hi hmin
      have hP2 := (HB.out.2.2.2.2.2.1).step s2 (by simp)
      obtain ⟨g, cg, hg⟩ := hP2.at0 hlen0
      injection hg with hg1 hg2 hg3
      subst hg1
      subst hg3
      clear hg2
      have hcell := hP2.cell i hi
      rw [hx] at hcell
      dsimp only at hcell
      have c5' := ((HB.out.2.2.2.2.1).step s2 (by simp)).cell 0
      have y0 := ((HB.out.2.2.2.2.2.2.2.2.2.2).step s2 (by simp)).cell 0
      have y1 := ((HB.out.2.2.2.2.2.2.2.2.2.2).step s2 (by simp)).cell 1
      simp only [List.getElem?_toArray, List.getElem?_cons_zero, List.getElem?_cons_succ] at c5' y0 y1
      rw [HL.out] at c5' hi
      have HR2 := Lib.hid (And.intro hrest (And.intro hpr (And.intro hx s2)))
      have q0 : decide ((i : Int) < 0) = false := by simp
      have q1 : (i : Int) < (L : Int) := by omega
      clear hrest hsr hpr hlen0 hmin hx hP2 s2 c5 x0 x1
      gi_wp2
      refine region_round (G := fun W => W = A2.drew) (by kernel_rfl) (by kernel_rfl) (by kernel_rfl) rfl ?_
      have hne : Nonempty (ClsW (fun W => W = A2.drew)) := ⟨⟨_, rfl⟩⟩
      have d1 : ∀ x : ClsW (fun W => W = A2.drew), x.val.cell? ⟨b5, 0, none⟩ = some (.slice (some ⟨g, 0, none⟩) L lc) := fun x => by rw [x.ok]; exact c5'
      have d2 : ∀ x : ClsW (fun W => W = A2.drew), x.val.cell? ⟨g, i * 2, none⟩ = some (.int .u8 xk) := fun x => by rw [x.ok]; exact hcell.1
      have d3 : ∀ x : ClsW (fun W => W = A2.drew), x.val.cell? ⟨g, i * 2 + 1, none⟩ = some (.int .i64 xr) := fun x => by rw [x.ok]; exact hcell.2
      have d4 : ∀ x : ClsW (fun W => W = A2.drew), x.val.cell? ⟨bx, 0, none⟩ = some (.int .u8 xk) := fun x => by rw [x.ok]; exact y0
      have d5 : ∀ x : ClsW (fun W => W = A2.drew), x.val.cell? ⟨bx, 1, none⟩ = some (.int .i64 xr) := fun x => by rw [x.ok]; exact y1
      repeat (go_big_quiet_step (fail))
      refine wpQuiet_nil ?_
      rintro _ ⟨⟨w3, hw3⟩, rfl⟩
      subst hw3
      clear hne d1 d2 d3 d4 d5
      gi_wp2
      refine ⟨trivial, (CallsIn.inRound l (callsIn_wide.2 (cutm_any w.heap.size (.slice (some ⟨g, 0, none⟩) L lc) left i A2.drew (by
        have := (HB.out.2.2.2.2.2.1).step (HR2.out.2.2.2.drew) (by simp)
        rwa [HL.out] at this) (by rw [HL.out]; exact hi) (by
        have h1 := HB.out.2.2.2.2.2.2.1.length_eq
        have h2 := congrArg List.length HB.out.2.1
        have h3 := HH.out.2.2.length_eq
        have h4 := HN.out
        simp at h2
        omega)))).mono ?_⟩
      rintro e A4 ⟨v4, rfl, hP4, s4⟩
      obtain ⟨a4, c4, rfl⟩ := hP4.form
      obtain ⟨hC, hs, hst, hb4, hb5', hP, hpm, n1, n2, n3, hBx⟩ := HB.out
      have sA4 : Step [] A A4 := HR2.out.2.2.2.drew.then s4 (by simp)
      have k5 := hb5'.step sA4 (by simp)
      have e5 := k5.cell 0
      have g5 := k5.free 0
      simp only [List.getElem?_toArray, List.getElem?_cons_zero] at e5
      obtain ⟨W, hW⟩ : ∃ W, A4.setCell ⟨b5, 0, none⟩ (.slice a4 (left.eraseIdx i).length c4) = W := ⟨_, rfl⟩
      have sW : Step [b5] A4 W := by rw [← hW]; exact (Step.refl [b5] A4).setCell (.inl (by simp)) _ _
      have l4 := owns_live hP4
      have b4' := owns_base hP4
      have hz : A2.drew.heap.size = A2.heap.size := rfl
      have hz2 := HR2.out.2.2.2.size
      have nf : ∀ k, k ∈ foot (.slice a4 (left.eraseIdx i).length c4) → A.heap.size ≤ k := fun k hk => by have := b4' k hk; omega
      have hFin : ∃ C', IsI w s b5 (pre ++ [(xk, xr)]) W C' ∧ Step C A W ∧ Fresh A C C' := by
        have hlb := hb5'.lt
        refine ⟨_, ⟨_, left.eraseIdx i, rest', rfl, by rw [hs, HR2.out.1]; simp, (hst.then sA4 (by simp)).then sW (by intro k hk; simp at hk; subst hk; exact .inr (Nat.le_of_lt n1)), (hb4.step sA4 (by simp)).step sW (by simp; omega), ?_, Prs.step (owns_low hP4 (Nat.le_trans hst.size hz2)) sW (fun k hk hm => by simp at hm; subst hm; have := nf k hk; omega), ?_, n1, (fun hk => by have := nf _ hk; have := hb4.lt; omega), (fun hk => by have := nf _ hk; omega)⟩, ?_, ?_⟩
        · rw [← hW]
          exact k5.set 0 _
        · have h1 := Hp.get_perm left i (by rw [HL.out]; exact hi)
          rw [HR2.out.2.2.1] at h1
          exact List.Perm.cons_inv (h1.symm.trans HR2.out.2.1)
        · exact (sA4.mono (by simp)).then sW (by intro k hk; simp at hk; subst hk; left; rw [hC]; simp)
        · intro k hk
          rw [List.mem_append, List.mem_cons, List.mem_cons] at hk
          rcases hk with hk | rfl | rfl | hk
          · left
            rw [hC]
            exact List.mem_append_left _ hk
          · left
            rw [hC]
            simp
          · left
            rw [hC]
            simp
          · exact .inr (nf k hk)
      have HFin := Lib.hid hFin
      have HW := Lib.hid hW
      clear hFin nf hz hz2 b4' l4 sW hW k5 sA4 hC hs hst hb4 hb5' hP hpm n1 n2 n3 hBx hP4 s4 hcell y0 y1 c5' HB HR2
      gi_wp2
      rw [HW.out]
      exact HFin.out
  case done =>
    rintro D xs B C hD hDC rfl ⟨lv, left, rest, hC, hs, hst, hb4, hb5', hP, hpm, n1, n2, n3⟩ hK
    have hr0 : rest = [] := by simpa using hs
    subst hr0
    have hl0 : left = [] := hpm.eq_nil
    subst hl0
    obtain ⟨la, lc, rfl⟩ := hP.form
    have HB := Lib.hid (And.intro hst (And.intro hb4 (And.intro hb5' (And.intro n1 (And.intro hD (And.intro hK (And.intro n2 n3)))))))
    clear hC hs hst hb4 hb5' hP hpm n1 n2 n3 hDC
    go_wp2_with fail
    have hMB := HH.out.2.1.step HB.out.1 (by simp)
    rw [HN.out] at hMB
    refine (least_any bm (.slice ao n cap) m B hMB (by rw [HN.out]; omega)).mono ?_
    rintro e B2 ⟨sB, r, rfl, hr⟩
    have SB := Lib.hid (HB.out.1.then sB (by simp))
    have hF := first_hs (HH.out.1.step SB.out (by simp))
    obtain ⟨⟨⟨hk, hrk⟩, hf⟩, hhd⟩ : ∃ p, hdS xs = p := ⟨_, rfl⟩
    rw [hhd] at hF
    dsimp only at hF
    have HHD := Lib.hid hhd
    have HF := Lib.hid hF
    have HRR := Lib.hid hr
    clear hhd hF hr hK
    go_wp2_with fail
    refine HF.out.mono ?_
    rintro e B3 ⟨rfl, s3⟩
    have HS3 := Lib.hid s3
    have HsB := Lib.hid sB
    clear s3 sB hMB
    go_wp2_with fail
    have s3 := HS3.out
    have sB := HsB.out
    have hhd := HHD.out
    have hr := HRR.out
    have S3 := Lib.hid (sB.then s3 (by simp))
    have hBk := Blk.new B3 #[.int .u8 hk, .int .i64 hrk] 49
    have sW := (sB.then s3 (by simp)).alloc (.cells #[.int .u8 hk, .int .i64 hrk] 49)
    obtain ⟨bx, hbx⟩ : ∃ b, B3.heap.size = b := ⟨_, rfl⟩
    obtain ⟨W, hW⟩ : ∃ W, B3.alloc (.cells #[.int .u8 hk, .int .i64 hrk] 49) = W := ⟨_, rfl⟩
    rw [hW] at hBk sW
    rw [hbx] at hBk
    have hWst := HB.out.1.then sW (by simp)
    have HW := Lib.hid (And.intro hWst (And.intro (HB.out.2.1.step sW (by simp)) (And.intro (HB.out.2.2.1.step sW (by simp)) (And.intro hBk ((sW.block D (Array.getElem?_eq_some_iff.1 HB.out.2.2.2.2.2.1).1 (by simp)).trans HB.out.2.2.2.2.2.1)))))
    have HLN := Lib.hid (len_hs (HH.out.1.step (hWst.drew) (by simp)))
    have hlx : xs.length = n := by rw [← HH.out.2.2.length_eq, HN.out]
    rw [hlx] at HLN
    have c5 := HW.out.2.2.1.cell 0
    have x0 := hBk.cell 0
    have x1 := hBk.cell 1
    simp only [List.getElem?_toArray, List.getElem?_cons_zero, List.getElem?_cons_succ, List.length_nil] at c5 x0 x1
    have hMW := HH.out.2.1.step hWst (by simp)
    rw [HN.out] at hMW
    have HMW := Lib.hid hMW
    rw [hbx, hW]
    have HWW := Lib.hid hW
    clear sB s3 sW hWst hMW hBk hW hbx HF HHD HRR HS3 HsB
    cases xs with
    | nil =>
      simp only [List.length_nil] at hlx
      have hm0 : m.length = 0 := by have := HN.out; omega
      rcases hr with ⟨rfl, _⟩ | ⟨i, hi, _⟩
      · cases hhd
        subst hlx
        refine wp_region_still_tail 32 (by kernel_rfl) (by kernel_rfl) ?_
        simp only [List.take_succ_cons, List.take_zero, List.drop_succ_cons, List.drop_zero]
        refine wpStill_of_quiet _ _ ?_
        have hne : Nonempty (ClsW (fun X => X = W.drew)) := ⟨⟨_, rfl⟩⟩
        have d1 : ∀ x : ClsW (fun X => X = W.drew), x.val.cell? ⟨b5, 0, none⟩ = some _ := fun x => by rw [x.ok]; exact c5
        have d4 : ∀ x : ClsW (fun X => X = W.drew), x.val.cell? ⟨bx, 0, none⟩ = some _ := fun x => by rw [x.ok]; exact x0
        have d5 : ∀ x : ClsW (fun X => X = W.drew), x.val.cell? ⟨bx, 1, none⟩ = some _ := fun x => by rw [x.ok]; exact x1
        repeat (go_big_quiet_step (fail))
        go_big_quiet_want
        go_big_quiet_op
        refine ⟨.int .i64 0, fun x9 => cls_call (by rw [x9.ok]; exact HLN.out.mono fun e w h => ⟨h.1, h.2.symm⟩), ?_⟩
        go_big_quiet_on
        repeat (go_big_quiet_step (fail))
        refine wpQuiet_nil ?_
        change wpList _ _ _ _ _ W.drew
        have z4 := (HW.out.2.1.drew).cell 0
        have f4 := (HW.out.2.1.drew).free 0
        have HD := (HW.out.2.2.2.2)
        simp only [List.getElem?_toArray, List.getElem?_cons_zero] at z4
        clear d1 d4 d5 hne
        go_wp2_with fail
        obtain ⟨W2, hW2⟩ : ∃ X, (W.setCell ⟨w.heap.size, 0, none⟩ (.bool true)).drew = X := ⟨_, rfl⟩
        have hne2 : D ≠ w.heap.size := fun e => by have := HW.out.2.1.lt; have := HI.out.live _ (List.mem_append_right _ (List.mem_cons_self)); omega
        have hK' : W2.heap[D]? = some (.deferred (some [])) := by rw [← hW2]; exact (heap_setCell_other W ⟨w.heap.size, 0, none⟩ D _ hne2).trans HD
        have hc : W2.cell? ⟨w.heap.size, 0, none⟩ = some (.bool true) := by rw [← hW2]; exact ((HW.out.2.1.set 0 (.bool true)).drew).cell 0
        have hst : Step [] w W2 := by rw [← hW2]; exact (HW.out.1.setCell (.inr (Nat.le_refl _)) _ _).drew
        rw [hW2]
        clear hW2 z4 f4 c5 x0 x1 HLN
        have hc5 := cell_kept hc (grownBy_putObj' W2 D (.deferred none)) (fun r e => by cases e; exact ⟨_, hK', rfl⟩)
        have hlow := HI.out.live _ (List.mem_append_right _ (List.mem_cons_self))
        refine ⟨by simp, .inl ⟨_, _, rfl, run_takeDeferred hK', ?_⟩⟩
        refine ⟨.bool true, ?_, rfl, hst.grown (grownBy_putObj' W2 D (.deferred none)) (fun k e => by cases e; exact .inr (by omega))⟩
        simp [results, Try.f20, go_sem, hc5]
      · omega
    | cons x xs =>
      cases hhd
      have hp := HH.out.2.2
      rcases hr with ⟨_, h0⟩ | ⟨i, hi, rfl, hmin⟩
      · have := hp.length_eq
        rw [h0] at this
        simp at this
      · have hx := least_head HH.out.1.srt hp i hi hmin
        obtain ⟨g, cg, hg⟩ := HMW.out.at0 (by omega)
        injection hg with hg1 hg2 hg3
        subst hg1
        subst hg3
        clear hg2
        have hcell := (show Prs W bm (.slice (some ⟨g, 0, none⟩) m.length cap) m from by have := HMW.out; rwa [← HN.out] at this).cell i hi
        rw [hx] at hcell
        dsimp only at hcell
        obtain ⟨m0, m1⟩ := hcell
        rw [HN.out] at hi
        have q1 : (i : Int) < (n : Int) := by omega
        have q2 : decide ((0 : Int) ≤ (i : Int)) = true := by simp
        clear hlx hmin hx hp
        refine wp_region_still_tail 32 (by kernel_rfl) (by kernel_rfl) ?_
        simp only [List.take_succ_cons, List.take_zero, List.drop_succ_cons, List.drop_zero]
        refine wpStill_of_quiet _ _ ?_
        have hne : Nonempty (ClsW (fun X => X = W.drew)) := ⟨⟨_, rfl⟩⟩
        have d1 : ∀ x : ClsW (fun X => X = W.drew), x.val.cell? ⟨b5, 0, none⟩ = some _ := fun x => by rw [x.ok]; exact c5
        have d4 : ∀ x : ClsW (fun X => X = W.drew), x.val.cell? ⟨bx, 0, none⟩ = some _ := fun x => by rw [x.ok]; exact x0
        have d5 : ∀ x : ClsW (fun X => X = W.drew), x.val.cell? ⟨bx, 1, none⟩ = some _ := fun x => by rw [x.ok]; exact x1
        have d2 : ∀ x : ClsW (fun X => X = W.drew), x.val.cell? ⟨g, i * 2, none⟩ = some _ := fun x => by rw [x.ok]; exact m0
        have d3 : ∀ x : ClsW (fun X => X = W.drew), x.val.cell? ⟨g, i * 2 + 1, none⟩ = some _ := fun x => by rw [x.ok]; exact m1
        repeat (go_big_quiet_step (fail))
        go_big_quiet_want
        go_big_quiet_op
        refine ⟨.int .i64 (n : Int), fun x9 => cls_call (by rw [x9.ok]; exact HLN.out.mono fun e w h => ⟨h.1, h.2.symm⟩), ?_⟩
        go_big_quiet_on
        repeat (go_big_quiet_step (fail))
        refine wpQuiet_nil ?_
        change wpList _ _ _ _ _ W.drew
        have z4 := (HW.out.2.1.drew).cell 0
        have f4 := (HW.out.2.1.drew).free 0
        have HD := (HW.out.2.2.2.2)
        simp only [List.getElem?_toArray, List.getElem?_cons_zero] at z4
        clear d1 d4 d5 hne
        go_wp2_with fail
        obtain ⟨W2, hW2⟩ : ∃ X, (W.setCell ⟨w.heap.size, 0, none⟩ (.bool true)).drew = X := ⟨_, rfl⟩
        have hne2 : D ≠ w.heap.size := fun e => by have := HW.out.2.1.lt; have := HI.out.live _ (List.mem_append_right _ (List.mem_cons_self)); omega
        have hK' : W2.heap[D]? = some (.deferred (some [])) := by rw [← hW2]; exact (heap_setCell_other W ⟨w.heap.size, 0, none⟩ D _ hne2).trans HD
        have hc : W2.cell? ⟨w.heap.size, 0, none⟩ = some (.bool true) := by rw [← hW2]; exact ((HW.out.2.1.set 0 (.bool true)).drew).cell 0
        have hst : Step [] w W2 := by rw [← hW2]; exact (HW.out.1.setCell (.inr (Nat.le_refl _)) _ _).drew
        rw [hW2]
        clear hW2 z4 f4 c5 x0 x1 HLN
        have hc5 := cell_kept hc (grownBy_putObj' W2 D (.deferred none)) (fun r e => by cases e; exact ⟨_, hK', rfl⟩)
        have hlow := HI.out.live _ (List.mem_append_right _ (List.mem_cons_self))
        refine ⟨by simp, .inl ⟨_, _, rfl, run_takeDeferred hK', ?_⟩⟩
        refine ⟨.bool true, ?_, rfl, hst.grown (grownBy_putObj' W2 D (.deferred none)) (fun k e => by cases e; exact .inr (by omega))⟩
        simp [results, Try.f20, go_sem, hc5]
end Go.Proofs.Ytdbhldlgfchjpaa
