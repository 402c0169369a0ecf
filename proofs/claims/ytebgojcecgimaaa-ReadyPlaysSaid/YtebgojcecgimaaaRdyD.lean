/- Ready: New. -/
import Derived.Test.YtebgojcecgimaaaRdyC
import Derived.Test.YtebgojcecgimaaaRel
namespace Go.Proofs.Ytebgojcecgimaaa
set_option linter.unusedVariables false
set_option linter.unusedSimpArgs false
open Go.RowKit
namespace Rd
theorem hs_low {w : World} {base base' hb : Nat} {s : List It} {F : List Nat} (h : HpE.Hs w base hb s F) (hb' : base' ≤ base) : HpE.Hs w base' hb s F := by
  obtain ⟨lv, mb, l, f, rfl, h1, h2⟩ := h
  exact ⟨lv, mb, l, f, rfl, ⟨h1.blk, owns_low h1.own hb', h1.map, h1.at', h1.good, ⟨Nat.le_trans hb' h1.low.1, Nat.le_trans hb' h1.low.2⟩, h1.ap1, h1.ap2, h1.ap3, h1.few⟩, h2⟩
/-- a new heap, above a mark -/
def SpN (B : Nat) (f : FuncId) (args : Array Value) (v : Value) (w : World) : Prop := ∃ hb F, v = .pointer (some ⟨hb, 0, none⟩) ∧ HpE.Hs w B hb [] F
theorem spN_law (B : Nat) : RelLaw (Step []) (SpN B) := ⟨fun w => Step.refl _ _, fun w w' w'' h1 h2 => h1.then h2 (by simp), fun f args v w w' ⟨hb, F, e, h⟩ hs => ⟨hb, F, e, h.step hs (by simp)⟩⟩
def lineV (hb : Nat → Nat) (j i : Nat) : Value := if i < j then .pointer (some ⟨hb i, 0, none⟩) else .pointer none
structure NewI (w wr : World) (j : Nat) (hb : Nat → Nat) (F : Nat → List Nat) : Prop where
  blk : Blk wr w.heap.size #[lineV hb j 0, lineV hb j 1, lineV hb j 2, lineV hb j 3] 57
  hs : ∀ i, i < j → HpE.Hs wr w.heap.size (hb i) [] (F i)
  dj : ∀ i i', i < j → i' < j → i ≠ i' → ∀ k, k ∈ F i → k ∉ F i'
  nb : ∀ i, i < j → w.heap.size ∉ F i
  st : Step [] w wr
theorem anti_tail {P : Program} {ops : Array Oper} {Q : Exit → Act → World → Prop} {l : List Oper} {G : World → World → Prop} {W0 : World} (a : Act) (F F' : World → Prop) (h : ∀ w, F' w → F w)
    (hQ : ∀ w', G W0 w' → F w' → wpList P ops Q l a w') : ∀ w', G W0 w' → F' w' → wpList P ops Q l a w' := fun w' hg hf => hQ w' hg (h w' hf)
theorem NewI.next {w wr w7 : World} {j : Nat} {hb : Nat → Nat} {F : Nat → List Nat} {hb2 : Nat} {F2 : List Nat} (h : NewI w wr j hb F) (hj : j < 4) (s7 : Step [] wr w7) (hF : HpE.Hs w7 wr.heap.size hb2 [] F2) :
    NewI w (w7.setCell ⟨w.heap.size, j, none⟩ (.pointer (some ⟨hb2, 0, none⟩))) (j + 1) (upd hb j hb2) (upd F j F2) := by
  have hrb := h.blk.lt
  have low2 := hF.low
  have hs8 : Step [w.heap.size] w7 (w7.setCell ⟨w.heap.size, j, none⟩ (.pointer (some ⟨hb2, 0, none⟩))) := (Step.refl _ w7).setCell (.inl (by simp)) j _
  have live : ∀ i, i < j → ∀ k, k ∈ F i → k < wr.heap.size := fun i hi => (h.hs i hi).live
  refine ⟨?_, fun i hi => ?_, fun i i' hi hi' hne k hk hm => ?_, fun i hi hm => ?_, (h.st.then s7 (by simp)).setCell (.inr (Nat.le_refl _)) j _⟩
  · have hb' := (h.blk.step s7 (by simp)).set j (.pointer (some ⟨hb2, 0, none⟩))
    rcases (by omega : j = 0 ∨ j = 1 ∨ j = 2 ∨ j = 3) with rfl | rfl | rfl | rfl
    all_goals
      simp [lineV, upd] at hb' ⊢
      exact hb'
  · by_cases e : i = j
    · subst e
      rw [upd_same, upd_same]
      exact hs_low (hF.step hs8 (fun k hk hm => by
        have := low2 k hk
        simp only [List.mem_cons, List.not_mem_nil, or_false] at hm
        omega)) h.st.size
    · rw [upd_ne e, upd_ne e]
      have hij : i < j := by omega
      exact ((h.hs i hij).step s7 (by simp)).step hs8 (fun k hk hm => by
        simp only [List.mem_cons, List.not_mem_nil, or_false] at hm
        subst hm
        exact h.nb i hij hk)
  · by_cases e : i = j
    · subst e
      rw [upd_same] at hk
      rw [upd_ne (fun e => hne e.symm)] at hm
      have h1 := live i' (by omega) k hm
      have h2 := low2 k hk
      omega
    · rw [upd_ne e] at hk
      by_cases e2 : i' = j
      · subst e2
        rw [upd_same] at hm
        have h1 := live i (by omega) k hk
        have h2 := low2 k hm
        omega
      · rw [upd_ne e2] at hm
        exact h.dj i i' (by omega) (by omega) hne k hk hm
  · by_cases e : i = j
    · subst e
      rw [upd_same] at hm
      have h2 := low2 _ hm
      omega
    · rw [upd_ne e] at hm
      exact h.nb i (by omega) hm
set_option maxRecDepth 20000 in
set_option maxHeartbeats 1000000 in
theorem new_any (w : World) : Calls Try.prog 7 #[] w fun e w' => ∃ hb F, e = .returned (.pointer (some ⟨w.heap.size, 0, none⟩)) ∧ Rw w' w.heap.size w.heap.size hb (fun _ => []) F ∧ Step [] w w' := by
  have HB := Lib.hid (Blk.new w #[.pointer none, .pointer none, .pointer none, .pointer none] 57)
  have HS := Lib.hid ((Step.refl [] w).alloc (.cells #[.pointer none, .pointer none, .pointer none, .pointer none] 57))
  go_enter Try.func7, Try.ntmps7
  go_wp2_with fail
  go_loopw [5] (fun i wr => ∃ (j : Nat) (hb : Nat → Nat) (F : Nat → List Nat), i = .int .i64 j ∧ j ≤ 4 ∧ NewI w wr j hb F) (fun i _ => 4 - (intOf i).toNat)
  case atStart => exact ⟨0, fun _ => 0, fun _ => [], rfl, Nat.zero_le _, HB.out, fun i hi => by omega, fun i i' hi => by omega, fun i hi => by omega, HS.out⟩
  case round =>
    obtain ⟨j, hb, F, rfl, hj, hi⟩ := hrel
    have HI := Lib.hid hi
    by_cases h4 : j < 4
    · clear hi
      have HN := Lib.hid (fun (w1 : World) (hg : Step [] wr.drew w1) => (HpE.new_hs w1).mono (fun e w' ⟨hb, F, he, hh, hs⟩ => (show ∃ v, e = Ending.returned v ∧ SpN wr.heap.size 21 #[] v w' ∧ Step [] w1 w' from ⟨_, he, ⟨hb, F, rfl, hs_low hh hg.size⟩, hs⟩)))
      rcases (by omega : j = 0 ∨ j = 1 ∨ j = 2 ∨ j = 3) with rfl | rfl | rfl | rfl
      · go_wp2_with fail
        have hne : Nonempty (ClsW (Step [] wr.drew)) := ⟨⟨_, Step.refl _ _⟩⟩
        refine wp_region_rel_tail (spN_law wr.heap.size) 6 (by kernel_rfl) (by kernel_rfl) ?_
        simp only [List.take_succ_cons, List.take_zero, List.drop_succ_cons, List.drop_zero]
        refine wpR_pre (spN_law wr.heap.size) anti_tail 2 _ _ _ ?_ rfl
        simp only [List.take_succ_cons, List.take_zero, List.drop_succ_cons, List.drop_zero]
        repeat (go_big_quiet_step (fail))
        refine wpQuiet_nil ?_
        refine wpR_callF 21 _ _ rfl (by rfl) Try.func21 (by kernel_rfl) (by kernel_rfl) #[] (by simp) (fun w1 hg => HN.out w1 hg) ?_
        rintro v hv
        obtain ⟨hb2, rfl⟩ : ∃ b, v = .pointer (some ⟨b, 0, none⟩) := by
          obtain ⟨_, _, b, _, e, _⟩ := hv
          exact ⟨b, e⟩
        clear hv
        refine wpR_pre (spN_law wr.heap.size) anti_tail 3 _ _ _ ?_ rfl
        simp only [List.take_succ_cons, List.take_zero, List.drop_succ_cons, List.drop_zero]
        go_simp
        repeat (go_big_quiet_step (fail))
        refine wpQuiet_nil ?_
        unfold wpR
        intro w7 hs7 hF7
        have s7 : Step [] wr w7 := (Step.refl [] wr).drew.then hs7 (by simp)
        have k0 := (HI.out.blk.step s7 (by simp)).cell 0
        have g0 := (HI.out.blk.step s7 (by simp)).free 0
        simp only [List.getElem?_toArray, List.getElem?_cons_zero, List.getElem?_cons_succ] at k0
        obtain ⟨hb3, F3, he3, hF3⟩ := hF7
        cases he3
        have HX := Lib.hid (HI.out.next (by omega) s7 hF3)
        clear hs7 hF3 s7 hne
        go_wp2_with fail
        go_roundw
        case rel => exact ⟨1, _, _, rfl, by omega, HX.out⟩
        case measure => simp [intOf]
      · go_wp2_with fail
        have hne : Nonempty (ClsW (Step [] wr.drew)) := ⟨⟨_, Step.refl _ _⟩⟩
        refine wp_region_rel_tail (spN_law wr.heap.size) 6 (by kernel_rfl) (by kernel_rfl) ?_
        simp only [List.take_succ_cons, List.take_zero, List.drop_succ_cons, List.drop_zero]
        refine wpR_pre (spN_law wr.heap.size) anti_tail 2 _ _ _ ?_ rfl
        simp only [List.take_succ_cons, List.take_zero, List.drop_succ_cons, List.drop_zero]
        repeat (go_big_quiet_step (fail))
        refine wpQuiet_nil ?_
        refine wpR_callF 21 _ _ rfl (by rfl) Try.func21 (by kernel_rfl) (by kernel_rfl) #[] (by simp) (fun w1 hg => HN.out w1 hg) ?_
        rintro v hv
        obtain ⟨hb2, rfl⟩ : ∃ b, v = .pointer (some ⟨b, 0, none⟩) := by
          obtain ⟨_, _, b, _, e, _⟩ := hv
          exact ⟨b, e⟩
        clear hv
        refine wpR_pre (spN_law wr.heap.size) anti_tail 3 _ _ _ ?_ rfl
        simp only [List.take_succ_cons, List.take_zero, List.drop_succ_cons, List.drop_zero]
        go_simp
        repeat (go_big_quiet_step (fail))
        refine wpQuiet_nil ?_
        unfold wpR
        intro w7 hs7 hF7
        have s7 : Step [] wr w7 := (Step.refl [] wr).drew.then hs7 (by simp)
        have k0 := (HI.out.blk.step s7 (by simp)).cell 1
        have g0 := (HI.out.blk.step s7 (by simp)).free 1
        simp only [List.getElem?_toArray, List.getElem?_cons_zero, List.getElem?_cons_succ] at k0
        obtain ⟨hb3, F3, he3, hF3⟩ := hF7
        cases he3
        have HX := Lib.hid (HI.out.next (by omega) s7 hF3)
        clear hs7 hF3 s7 hne
        go_wp2_with fail
        go_roundw
        case rel => exact ⟨2, _, _, rfl, by omega, HX.out⟩
        case measure => simp [intOf]
      · go_wp2_with fail
        have hne : Nonempty (ClsW (Step [] wr.drew)) := ⟨⟨_, Step.refl _ _⟩⟩
        refine wp_region_rel_tail (spN_law wr.heap.size) 6 (by kernel_rfl) (by kernel_rfl) ?_
        simp only [List.take_succ_cons, List.take_zero, List.drop_succ_cons, List.drop_zero]
        refine wpR_pre (spN_law wr.heap.size) anti_tail 2 _ _ _ ?_ rfl
        simp only [List.take_succ_cons, List.take_zero, List.drop_succ_cons, List.drop_zero]
        repeat (go_big_quiet_step (fail))
        refine wpQuiet_nil ?_
        refine wpR_callF 21 _ _ rfl (by rfl) Try.func21 (by kernel_rfl) (by kernel_rfl) #[] (by simp) (fun w1 hg => HN.out w1 hg) ?_
        rintro v hv
        obtain ⟨hb2, rfl⟩ : ∃ b, v = .pointer (some ⟨b, 0, none⟩) := by
          obtain ⟨_, _, b, _, e, _⟩ := hv
          exact ⟨b, e⟩
        clear hv
        refine wpR_pre (spN_law wr.heap.size) anti_tail 3 _ _ _ ?_ rfl
        simp only [List.take_succ_cons, List.take_zero, List.drop_succ_cons, List.drop_zero]
        go_simp
        repeat (go_big_quiet_step (fail))
        refine wpQuiet_nil ?_
        unfold wpR
        intro w7 hs7 hF7
        have s7 : Step [] wr w7 := (Step.refl [] wr).drew.then hs7 (by simp)
        have k0 := (HI.out.blk.step s7 (by simp)).cell 2
        have g0 := (HI.out.blk.step s7 (by simp)).free 2
        simp only [List.getElem?_toArray, List.getElem?_cons_zero, List.getElem?_cons_succ] at k0
        obtain ⟨hb3, F3, he3, hF3⟩ := hF7
        cases he3
        have HX := Lib.hid (HI.out.next (by omega) s7 hF3)
        clear hs7 hF3 s7 hne
        go_wp2_with fail
        go_roundw
        case rel => exact ⟨3, _, _, rfl, by omega, HX.out⟩
        case measure => simp [intOf]
      · go_wp2_with fail
        have hne : Nonempty (ClsW (Step [] wr.drew)) := ⟨⟨_, Step.refl _ _⟩⟩
        refine wp_region_rel_tail (spN_law wr.heap.size) 6 (by kernel_rfl) (by kernel_rfl) ?_
        simp only [List.take_succ_cons, List.take_zero, List.drop_succ_cons, List.drop_zero]
        refine wpR_pre (spN_law wr.heap.size) anti_tail 2 _ _ _ ?_ rfl
        simp only [List.take_succ_cons, List.take_zero, List.drop_succ_cons, List.drop_zero]
        repeat (go_big_quiet_step (fail))
        refine wpQuiet_nil ?_
        refine wpR_callF 21 _ _ rfl (by rfl) Try.func21 (by kernel_rfl) (by kernel_rfl) #[] (by simp) (fun w1 hg => HN.out w1 hg) ?_
        rintro v hv
        obtain ⟨hb2, rfl⟩ : ∃ b, v = .pointer (some ⟨b, 0, none⟩) := by
          obtain ⟨_, _, b, _, e, _⟩ := hv
          exact ⟨b, e⟩
        clear hv
        refine wpR_pre (spN_law wr.heap.size) anti_tail 3 _ _ _ ?_ rfl
        simp only [List.take_succ_cons, List.take_zero, List.drop_succ_cons, List.drop_zero]
        go_simp
        repeat (go_big_quiet_step (fail))
        refine wpQuiet_nil ?_
        unfold wpR
        intro w7 hs7 hF7
        have s7 : Step [] wr w7 := (Step.refl [] wr).drew.then hs7 (by simp)
        have k0 := (HI.out.blk.step s7 (by simp)).cell 3
        have g0 := (HI.out.blk.step s7 (by simp)).free 3
        simp only [List.getElem?_toArray, List.getElem?_cons_zero, List.getElem?_cons_succ] at k0
        obtain ⟨hb3, F3, he3, hF3⟩ := hF7
        cases he3
        have HX := Lib.hid (HI.out.next (by omega) s7 hF3)
        clear hs7 hF3 s7 hne
        go_wp2_with fail
        go_roundw
        case rel => exact ⟨4, _, _, rfl, by omega, HX.out⟩
        case measure => simp [intOf]
    · have hj4 : j = 4 := by omega
      subst hj4
      have HE := Lib.hid (show Rw wr w.heap.size w.heap.size hb (fun _ => []) F from ⟨hi.blk, fun i hi' => hi.hs i hi', fun i i' h1 h2 => hi.dj i i' h1 h2, fun i h1 => hi.nb i h1, Nat.le_refl _⟩)
      clear hi
      go_wp2_with fail
      go_ret
      exact ⟨hb, F, rfl, HE.out, HI.out.st⟩
end Rd
end Go.Proofs.Ytebgojcecgimaaa
