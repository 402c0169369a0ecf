/- Ready: Copy. -/
import Derived.Test.YtebgojcecgimaaaRdyG
namespace Go.Proofs.Ytebgojcecgimaaa
set_option linter.unusedVariables false
set_option linter.unusedSimpArgs false
open Go.RowKit
namespace Rd
attribute [local go_sem] Try.idx0 Try.idx1 Try.idx2 Try.idx3
/-- a new heap with s, above a mark -/
def SpC (B : Nat) (s : List It) (f : FuncId) (args : Array Value) (v : Value) (w : World) : Prop := ∃ hb F, v = .pointer (some ⟨hb, 0, none⟩) ∧ HpE.Hs w B hb s F
theorem spC_law (B : Nat) (s : List It) : RelLaw (Step []) (SpC B s) := ⟨fun w => Step.refl _ _, fun w w' w'' h1 h2 => h1.then h2 (by simp), fun f args v w w' ⟨hb, F, e, h⟩ hs => ⟨hb, F, e, h.step hs (by simp)⟩⟩
structure CopI (S : Nat → List It) (w wr : World) (j : Nat) (hb : Nat → Nat) (F : Nat → List Nat) : Prop where
  blk : Blk wr w.heap.size #[lineV hb j 0, lineV hb j 1, lineV hb j 2, lineV hb j 3] 57
  hs : ∀ i, i < j → HpE.Hs wr w.heap.size (hb i) (S i) (F i)
  dj : ∀ i i', i < j → i' < j → i ≠ i' → ∀ k, k ∈ F i → k ∉ F i'
  nb : ∀ i, i < j → w.heap.size ∉ F i
  st : Step [] w wr
theorem CopI.next {S : Nat → List It} {w wr w7 : World} {j : Nat} {hb : Nat → Nat} {F : Nat → List Nat} {hb2 : Nat} {F2 : List Nat} (h : CopI S w wr j hb F) (hj : j < 4) (s7 : Step [] wr w7) (hF : HpE.Hs w7 wr.heap.size hb2 (S j) F2) :
    CopI S w (w7.setCell ⟨w.heap.size, j, none⟩ (.pointer (some ⟨hb2, 0, none⟩))) (j + 1) (upd hb j hb2) (upd F j F2) := by
  have hrb := h.blk.lt
  have low2 := hF.low
  have hs8 : Step [w.heap.size] w7 (w7.setCell ⟨w.heap.size, j, none⟩ (.pointer (some ⟨hb2, 0, none⟩))) := (Step.refl _ w7).setCell (.inl (by simp)) j _
  have live : ∀ i, i < j → ∀ k, k ∈ F i → k < wr.heap.size := fun i hi => (h.hs i hi).live
  refine ⟨?_, fun i hi => ?_, fun i i' hi hi' hne k hk hm => ?_, fun i hi hm => ?_, (h.st.then s7 (by simp)).setCell (.inr (Nat.le_refl _)) j _⟩
  · have hb' := (h.blk.step s7 (by simp)).set j (.pointer (some ⟨hb2, 0, none⟩))
    rcases (by omega : j = 0 ∨ j = 1 ∨ j = 2 ∨ j = 3) with rfl | rfl | rfl | rfl
    all_goals
      simp [lineV, upd] at hb' ⊢
      exact hb'
  · by_cases e : i = j
    · subst e
      rw [upd_same, upd_same]
      exact hs_low (hF.step hs8 (fun k hk hm => by
        have := low2 k hk
        simp only [List.mem_cons, List.not_mem_nil, or_false] at hm
        omega)) h.st.size
    · rw [upd_ne e, upd_ne e]
      have hij : i < j := by omega
      exact ((h.hs i hij).step s7 (by simp)).step hs8 (fun k hk hm => by
        simp only [List.mem_cons, List.not_mem_nil, or_false] at hm
        subst hm
        exact h.nb i hij hk)
  · by_cases e : i = j
    · subst e
      rw [upd_same] at hk
      rw [upd_ne (fun e => hne e.symm)] at hm
      have h1 := live i' (by omega) k hm
      have h2 := low2 k hk
      omega
    · rw [upd_ne e] at hk
      by_cases e2 : i' = j
      · subst e2
        rw [upd_same] at hm
        have h1 := live i (by omega) k hk
        have h2 := low2 k hm
        omega
      · rw [upd_ne e2] at hm
        exact h.dj i i' (by omega) (by omega) hne k hk hm
  · by_cases e : i = j
    · subst e
      rw [upd_same] at hm
      have h2 := low2 _ hm
      omega
    · rw [upd_ne e] at hm
      exact h.nb i (by omega) hm
/-- a copy -/
def CopyPost (S : Nat → List It) (w : World) (e : Ending) (w' : World) : Prop := ∃ hb F, e = .returned (.pointer (some ⟨w.heap.size, 0, none⟩)) ∧ Rw w' w.heap.size w.heap.size hb S F ∧ Step [] w w'
set_option maxRecDepth 20000 in
set_option maxHeartbeats 1000000 in
theorem copy_any {w : World} {base rb : Nat} {hb0 : Nat → Nat} {S : Nat → List It} {F0 : Nat → List Nat} (h : Rw w base rb hb0 S F0) : Calls Try.prog 16 #[.pointer (some ⟨rb, 0, none⟩)] w (CopyPost S w) := by
  have HB := Lib.hid (Blk.new w #[.pointer none, .pointer none, .pointer none, .pointer none] 57)
  have HS := Lib.hid ((Step.refl [] w).alloc (.cells #[.pointer none, .pointer none, .pointer none, .pointer none] 57))
  have hR := h.step0 HS.out
  obtain ⟨c0, c1, c2, c3⟩ := hR.cells
  have HR := Lib.hid h
  have hne0 : rb ≠ w.heap.size := fun e => by have := h.blk.lt; omega
  clear h hR
  go_enter Try.func16, Try.ntmps16
  go_wp2_with fail
  clear c0 c1 c2 c3
  go_loopw [14] (fun i wr => ∃ (j : Nat) (hb : Nat → Nat) (F : Nat → List Nat), i = .int .i64 j ∧ j ≤ 4 ∧ CopI S w wr j hb F) (fun i _ => 4 - (intOf i).toNat)
  case atStart => exact ⟨0, fun _ => 0, fun _ => [], rfl, Nat.zero_le _, HB.out, fun i hi => by omega, fun i i' hi => by omega, fun i hi => by omega, HS.out⟩
  case round =>
    obtain ⟨j, hb, F, rfl, hj, hi⟩ := hrel
    have HI := Lib.hid hi
    by_cases h4 : j < 4
    · clear hi
      have hidx : ∀ w, (Instr.index 55 (.agg #[.pointer (some ⟨hb0 0, 0, none⟩), .pointer (some ⟨hb0 1, 0, none⟩), .pointer (some ⟨hb0 2, 0, none⟩), .pointer (some ⟨hb0 3, 0, none⟩)]) (.int .i64 (j : Int))).run Try.prog w = .ok (.pointer (some ⟨hb0 j, 0, none⟩)) w := by
        intro w
        rcases (by omega : j = 0 ∨ j = 1 ∨ j = 2 ∨ j = 3) with rfl | rfl | rfl | rfl
        · exact Try.idx0 _ _ _ _ _
        · exact Try.idx1 _ _ _ _ _
        · exact Try.idx2 _ _ _ _ _
        · exact Try.idx3 _ _ _ _ _
      have p4 : (j : Int) < 4 := by omega
      have HJ := Lib.hid h4
      have HN := Lib.hid (fun (w1 : World) (hg : Step [] wr.drew w1) => (HpE.copy_hs ((HR.out.hs j h4).step (HI.out.st.drew.then hg (by simp)) (by simp))).mono (fun e w' ⟨hb, F, he, hh, hs⟩ => (show ∃ v, e = Ending.returned v ∧ SpC wr.heap.size (S j) 25 #[.pointer (some ⟨hb0 j, 0, none⟩)] v w' ∧ Step [] w1 w' from ⟨_, he, ⟨hb, F, rfl, hs_low hh hg.size⟩, hs⟩)))
      clear h4
      go_wp2_with fail
      have hne : Nonempty (ClsW (Step [] wr.drew)) := ⟨⟨_, Step.refl _ _⟩⟩
      refine wp_region_rel_tail (spC_law wr.heap.size (S j)) 7 (by kernel_rfl) (by kernel_rfl) ?_
      simp only [List.take_succ_cons, List.take_zero, List.drop_succ_cons, List.drop_zero]
      refine wpR_pre (spC_law wr.heap.size (S j)) anti_tail 3 _ _ _ ?_ rfl
      simp only [List.take_succ_cons, List.take_zero, List.drop_succ_cons, List.drop_zero]
      repeat (go_big_quiet_step (fail))
      refine wpQuiet_nil ?_
      refine wpR_callF 25 _ _ rfl (by rfl) Try.func25 (by kernel_rfl) (by kernel_rfl) #[.pointer (some ⟨hb0 j, 0, none⟩)] (by simp [Act.eval]) (fun w1 hg => HN.out w1 hg) ?_
      rintro v hv
      obtain ⟨hb2, rfl⟩ : ∃ b, v = .pointer (some ⟨b, 0, none⟩) := by
        obtain ⟨_, _, b, _, e, _⟩ := hv
        exact ⟨b, e⟩
      clear hv
      refine wpR_pre (spC_law wr.heap.size (S j)) anti_tail 3 _ _ _ ?_ rfl
      simp only [List.take_succ_cons, List.take_zero, List.drop_succ_cons, List.drop_zero]
      go_simp
      repeat (go_big_quiet_step (fail))
      refine wpQuiet_nil ?_
      unfold wpR
      intro w7 hs7 hF7
      have s7 : Step [] wr w7 := (Step.refl [] wr).drew.then hs7 (by simp)
      have hB7 := HI.out.blk.step s7 (by simp)
      have k0 : ∃ u, w7.cell? ⟨w.heap.size, j, none⟩ = some u := by
        rw [hB7.cell j]
        have := HJ.out
        rcases (by omega : j = 0 ∨ j = 1 ∨ j = 2 ∨ j = 3) with rfl | rfl | rfl | rfl <;> exact ⟨_, rfl⟩
      obtain ⟨u0, k0⟩ := k0
      have g0 := hB7.free j
      obtain ⟨hb3, F3, he3, hF3⟩ := hF7
      cases he3
      have HX := Lib.hid (HI.out.next HJ.out s7 hF3)
      clear hs7 hF3 s7 hne hB7
      go_wp2_with fail
      go_roundw
      case rel => exact ⟨j + 1, _, _, by go_num, HJ.out, HX.out⟩
      case measure => simp [intOf]; omega
    · have hj4 : j = 4 := by omega
      subst hj4
      have HE := Lib.hid hi
      clear hi
      go_wp2_with fail
      go_ret
      obtain ⟨hB, hh, hd, hn, hs⟩ := HE.out
      exact ⟨hb, F, rfl, ⟨hB, hh, hd, hn, Nat.le_refl _⟩, hs⟩
end Rd
end Go.Proofs.Ytebgojcecgimaaa
