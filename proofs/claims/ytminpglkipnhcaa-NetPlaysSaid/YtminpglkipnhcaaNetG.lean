/- net: cut, Take, Lose, Last, Send, Twice. -/
import Derived.Test.YtminpglkipnhcaaNetF
namespace Go.Proofs.Ytminpglkipnhcaa
set_option linter.unusedVariables false
open Go.RowKit
attribute [local go_sem ↓] exec_load_m exec_store_m
attribute [local go_sem] Try.load_m row_drew Try.store_m

theorem owns_msg {w : World} {base g n cap : Nat} {L : List Ms} (h : w.ownsRow base 31 11 (.slice (some ⟨g, 0, none⟩) n cap) n (flatM L)) (k : Nat) (hk : k < n) : rowC w g (k * 11) 11 = some (msC (L.getD k ms0)) := by
  have hl : L.length = n := by have := h.1; rw [flatM_len] at this; omega
  have hg : L.getD k ms0 = L[k]'(by omega) := by simp [List.getD, show k < L.length by omega]
  have := row_of_range w g (msC (L.getD k ms0)) (k * 11) (owns_range h (k * 11) _ (fun j u hu => by
    have hj : j < 11 := by
      have := (List.getElem?_eq_some_iff.1 hu).1
      exact this
    unfold flatM
    rw [flatF_at msC_len L k j (by omega) hj, ← hg]
    exact hu))
  exact this

set_option maxRecDepth 20000 in
set_option maxHeartbeats 200000 in
theorem cut_any (base nb mb : Nat) (lv : Value) (L : List Ms) (n : Nat) (f : PK → Option Bool) (i : Nat) (w : World) (h : Nt w base nb mb lv L n f) (hi : i < L.length) :
    Calls Try.prog 25 #[.pointer (some ⟨nb, 0, none⟩), .int .i64 (i : Int)] w fun e w' => e = .returned (.agg (msC (L.getD i ms0)).toArray) ∧ PutPost base nb mb lv (L.eraseIdx i) n f w w' := by
  obtain ⟨g, cap, hlv, -⟩ := owns_form h.own (by omega)
  subst hlv
  have hzv := zeroM
  unfold msV at hzv
  have hC0 : ¬ (msC ms0).toArray = #[] := by decide
  have c0 := h.blk.cell 0
  simp only [List.getElem?_toArray, List.getElem?_cons_zero] at c0
  have hrow := owns_msg h.own i hi
  obtain ⟨x, hx⟩ : ∃ x, L.getD i ms0 = x := ⟨_, rfl⟩
  rw [hx] at hrow ⊢
  clear hx
  have hfew := h.few
  have hlt := h.blk.lt
  obtain ⟨m, hm⟩ : ∃ m, L.length = m := ⟨_, rfl⟩
  have HM := Lib.hid hm
  have HN := Lib.hid h
  have hb4 := (Blk.new w (msC ms0).toArray 31).alloc (.cells (msC ms0).toArray 31)
  have hb5 := Blk.new (w.alloc (.cells (msC ms0).toArray 31)) (msC ms0).toArray 31
  rw [World.size_alloc] at hb5
  have hth := msg_there hb5
  have hb5' := msg_set (y := x) hb5
  have hst5 : Step [w.heap.size + 1] ((w.alloc (.cells (msC ms0).toArray 31)).alloc (.cells (msC ms0).toArray 31)) (((w.alloc (.cells (msC ms0).toArray 31)).alloc (.cells (msC ms0).toArray 31)).setCells (w.heap.size + 1) 0 (msC x)) := (Step.refl _ _).setCells (.inl (by simp)) _ _
  have hst1 : Step [] w (((w.alloc (.cells (msC ms0).toArray 31)).alloc (.cells (msC ms0).toArray 31)).setCells (w.heap.size + 1) 0 (msC x)) := (((Step.refl [] w).alloc _).alloc _).setCells (.inr (by omega)) _ _
  have hb4' := hb4.step hst5 (by simp)
  rw [hm] at c0 hi hfew
  have hkk : (i : Int) < (m : Int) := by omega
  have hk0 : (0 : Int) ≤ (i : Int) := by omega
  have e1 : IntKind.i64.wrap ((i : Int) + 1) = (i : Int) + 1 := by rw [IntKind.wrap_i64]; omega
  have c0s := (hst1.cell hlt (by simp)).trans c0
  have hN1 := h.step0 hst1
  have HF := Lib.hid (And.intro hb4' (And.intro hb5' (And.intro hst1 hN1)))
  clear h hm hb4 hb5 hb5' hst5 hst1 hb4'
  have r1 : rowC (w.alloc (.cells (msC ms0).toArray 31)) g (i * 11) 11 = some (msC x) := row_alloc w _ hrow
  go_enter Try.func25, Try.ntmps25
  go_wp2_with fail
  obtain ⟨W1, hW1⟩ : ∃ W1, ((w.alloc (.cells (msC ms0).toArray 31)).alloc (.cells (msC ms0).toArray 31)).setCells (w.heap.size + 1) 0 (msC x) = W1 := ⟨_, rfl⟩
  rw [hW1] at HF ⊢
  obtain ⟨b, hb⟩ : ∃ b, w.heap.size = b := ⟨_, rfl⟩
  rw [hb] at HF ⊢
  have HB := Lib.hid hb
  clear hW1 hth r1 hrow c0 c0s hzv hb
  have ho := HF.out.2.2.2.own
  rw [HM.out] at ho
  have hgl := foot_lt ho g (by simp [foot_some])
  refine (del_any base g m cap i L W1 ho hi (by omega)).mono ?_
  rintro e w9 ⟨rfl, ho9, hs9⟩
  have hlive : g < b := (by
    have := (HN.out.live g (by simp [footN, foot_some])).2
    rw [HB.out] at this
    exact this)
  have hl9 : (L.eraseIdx i).length = m - 1 := by rw [List.length_eraseIdx, HM.out]; simp [hi]
  have hN1 := HF.out.2.2.2
  rw [HM.out] at hN1
  obtain ⟨hN, hS⟩ := hN1.stored (L8 := L.eraseIdx i) (lv8 := .slice (some ⟨g, 0, none⟩) (m - 1) cap) (hs9.mono (by simp [foot_some])) (by rw [hl9]; exact ho9) (fun k hk => .inl hk) (by omega)
  have hB9 := hN1.blk.step hs9 (fun hm => hN1.ap1 (by simpa [foot_some] using hm))
  have q0 := hB9.cell 0
  have qf := hB9.free 0
  simp only [List.getElem?_toArray, List.getElem?_cons_zero] at q0
  have hnbl : nb < b := by rw [← HB.out]; exact hlt
  have h5 := (HF.out.2.1.step hS (by simp [foot_some]; omega))
  have h4 := (HF.out.1.step hS (by simp [foot_some]; omega))
  have r5 := msg_row h5
  have t4 := msg_there h4
  have b4 := msg_set (y := x) h4
  have hst4 : Step [b] (w9.setCell ⟨nb, 0, none⟩ (.slice (some ⟨g, 0, none⟩) (m - 1) cap)) ((w9.setCell ⟨nb, 0, none⟩ (.slice (some ⟨g, 0, none⟩) (m - 1) cap)).setCells b 0 (msC x)) := (Step.refl [b] _).setCells (.inl (by simp)) _ _
  have hmbl : mb < b := by
    have := (HN.out.live mb (by simp [footN])).2
    rw [HB.out] at this
    exact this
  have hfin := hN.step hst4 (fun k hk hm => by
    simp only [footN, foot_some, List.mem_cons, List.not_mem_nil, or_false] at hk hm
    subst hm
    rcases hk with rfl | rfl | rfl <;> omega)
  have HQ := Lib.hid (show PutPost base nb mb (.slice (some ⟨g, 0, none⟩) m cap) (L.eraseIdx i) n f w ((w9.setCell ⟨nb, 0, none⟩ (.slice (some ⟨g, 0, none⟩) (m - 1) cap)).setCells b 0 (msC x)) from
    ⟨_, hfin, ((HF.out.2.2.1.mono (by simp)).then hS (fun k hk => .inl hk)).then hst4 (fun k hk => .inr (by simp at hk; subst hk; rw [HB.out]; exact Nat.le_refl _)), fun k hk => .inl hk⟩)
  have HB4 := Lib.hid b4
  clear hN hS hB9 ho9 hs9 hl9 hN1 h5 h4 b4 hst4 hfin ho HF
  go_wp2_with fail
  refine bodyPost_ret (v := .agg (msC x).toArray) (results_cell_row rfl _ _ b 31 _ (0, 0) _ rfl HB4.out Try.underlying31 rfl (by kernel_rfl)) rfl ⟨rfl, ?_⟩
  have := HQ.out
  rw [HM.out]
  exact this
end Go.Proofs.Ytminpglkipnhcaa
