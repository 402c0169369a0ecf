/- Several texts in one: NetS, SetL, NetT, NetU, NetV, OwnO, Both, NetX, NetY, PairEq, NetZ, Str, NSame. -/
import Derived.Test.YtminpglkipnhcaaNetP
import Derived.Test.YtminpglkipnhcaaRowF
import Derived.Test.YtminpglkipnhcaaNetO
import Derived.Test.YtminpglkipnhcaaNetG
import Derived.Shelf.SlMaps.Clone
import Derived.Test.YtminpglkipnhcaaStepApp
import Derived.ArgAppend
import Derived.Test.YtminpglkipnhcaaKept
import Derived.Deep.RegionLaw
import Derived.Test.YtminpglkipnhcaaSep
import Derived.Laws.IdiomStrings
import Derived.Lib.BufferRead
import Derived.Deep.CutRange
import Derived.RegionTactic
import Derived.BigRegion
section
namespace Go.Proofs.Ytminpglkipnhcaa
set_option linter.unusedVariables false
set_option linter.unusedSimpArgs false
open Go.RowKit
attribute [local go_sem ↓] exec_load_m exec_store_m
attribute [local go_sem] Try.load_m row_drew Try.store_m
section
variable {base nb mb : Nat} {lv : Value} {L : List Ms} {n : Nat} {f : PK → Option Bool}
theorem Nt.walled {w w' : World} (h : Nt w base nb mb lv L n f) {n' : Nat} {f' : PK → Option Bool} (hm : MapF pairKey boolEl w' mb n' f') (hs : Step [mb] w w') (hn : n' ≤ 1000) : Nt w' base nb mb lv L n' f' :=
  ⟨h.blk.step hs (by simp; exact h.ap3), owns_step h.own hs (fun k hk hm => by simp at hm; subst hm; exact h.ap2 hk), hm, h.low1, h.low2, h.ap1, h.ap2, h.ap3, h.few, hn⟩
set_option maxRecDepth 20000 in
set_option maxHeartbeats 1000000 in
theorem wall_up (a b : Int) (w : World) (h : Nt w base nb mb lv L n f) (hn : n ≤ 900) (ha : 1 ≤ a ∧ a ≤ 7) (hb : 1 ≤ b ∧ b ≤ 7) (hab : a ≠ b) (wa : (Lit.int .i64 a).wf = true) (wb : (Lit.int .i64 b).wf = true) :
    Calls Try.prog 18 #[.pointer (some ⟨nb, 0, none⟩), .int .i64 a, .int .i64 b, .bool true] w fun e w' => e = .returned (.int .i64 0) ∧ Nt w' base nb mb lv L (n + 1) (upd f (pk a b wa wb) (some true)) ∧ Step [mb] w w' := by
  have HN := Lib.hid h
  have c1 := h.blk.cell 1
  simp only [List.getElem?_toArray, List.getElem?_cons_zero, List.getElem?_cons_succ] at c1
  have hlt := h.blk.lt
  obtain ⟨a1, a2⟩ := ha
  obtain ⟨b1, b2⟩ := hb
  have p1 : ¬ a < 1 := by omega
  have p2 : ¬ 7 < a := by omega
  have p3 : ¬ b < 1 := by omega
  have p4 : ¬ 7 < b := by omega
  clear h
  go_enter Try.func18, Try.ntmps18
  go_wp2_with fail
  have hne : Nonempty (ClsW (Step [] w.drew)) := ⟨⟨_, Step.refl _ _⟩⟩
  have d1 : ∀ y : ClsW (Step [] w.drew), y.val.cell? ⟨nb, 1, none⟩ = some (.map (some mb)) := fun y => (y.ok.cell hlt (by simp)).trans c1
  refine wp_region_rel_tail (spOf_law a b) 7 (by kernel_rfl) (by kernel_rfl) ?_
  simp only [List.take_succ_cons, List.take_zero, List.drop_succ_cons, List.drop_zero]
  refine wpR_pre (spOf_law a b) anti_tail 6 _ _ _ ?_ rfl
  simp only [List.take_succ_cons, List.take_zero, List.drop_succ_cons, List.drop_zero]
  repeat (go_big_quiet_step (fail))
  refine wpQuiet_nil ?_
  refine wpR_callF 31 _ _ rfl (by rfl) Try.func31 (by kernel_rfl) (by kernel_rfl) #[.int .i64 a, .int .i64 b] (by simp [Act.eval]) (fun w1 hg => (of_any a b w1).mono (fun e w'' h => ⟨_, h.1, rfl, h.2⟩)) ?_
  rintro v ⟨_, _, hv⟩
  unfold SpOf at hv
  subst hv
  unfold wpR
  intro w7 hs7 hF7
  have hs8 := (Step.refl [] w).drew.then hs7 (by simp)
  have HS := Lib.hid hs8
  clear hne hs7 hF7 d1
  refine wpList_store pairKey boolEl rfl (.tmp 36) (.tmp 39) (.const (.bool true)) 59 4 rfl Try.underlying59 (b := mb) (by rfl) (HN.out.step0 hs8).walls (by unfold maxLen; omega) (pk a b wa wb) (by rfl) trivial true (by rfl) ?_
  intro w9 hm9 hs9
  have H9 := Lib.hid (And.intro ((HN.out.step0 hs8).walled hm9 hs9 (by omega)) ((hs8.mono (by simp)).then hs9 (fun k hk => .inl hk) : Step [mb] w w9))
  clear hm9 hs9 hs8
  refine wpList_nil ?_
  go_wp2_with fail
  go_ret
  exact ⟨rfl, H9.out⟩
theorem Nt.unw {w w' : World} (h : Nt w base nb mb lv L n f) {f' : PK → Option Bool} (hm : MapF pairKey boolEl w' mb n f') (hs : Step [mb] w w') : Nt w' base nb mb lv L n f' := h.walled hm hs h.fewn
set_option maxRecDepth 20000 in
set_option maxHeartbeats 1000000 in
theorem wall_down (a b : Int) (w : World) (h : Nt w base nb mb lv L n f) (ha : 1 ≤ a ∧ a ≤ 7) (hb : 1 ≤ b ∧ b ≤ 7) (hab : a ≠ b) (wa : (Lit.int .i64 a).wf = true) (wb : (Lit.int .i64 b).wf = true) :
    Calls Try.prog 18 #[.pointer (some ⟨nb, 0, none⟩), .int .i64 a, .int .i64 b, .bool false] w fun e w' => e = .returned (.int .i64 0) ∧ Nt w' base nb mb lv L n (upd f (pk a b wa wb) none) ∧ Step [mb] w w' := by
  have HN := Lib.hid h
  have c1 := h.blk.cell 1
  simp only [List.getElem?_toArray, List.getElem?_cons_zero, List.getElem?_cons_succ] at c1
  have hlt := h.blk.lt
  obtain ⟨a1, a2⟩ := ha
  obtain ⟨b1, b2⟩ := hb
  have p1 : ¬ a < 1 := by omega
  have p2 : ¬ 7 < a := by omega
  have p3 : ¬ b < 1 := by omega
  have p4 : ¬ 7 < b := by omega
  clear h
  go_enter Try.func18, Try.ntmps18
  go_wp2_with fail
  have hne : Nonempty (ClsW (Step [] w.drew)) := ⟨⟨_, Step.refl _ _⟩⟩
  have d1 : ∀ y : ClsW (Step [] w.drew), y.val.cell? ⟨nb, 1, none⟩ = some (.map (some mb)) := fun y => (y.ok.cell hlt (by simp)).trans c1
  refine wp_region_rel_tail (spOf_law a b) 7 (by kernel_rfl) (by kernel_rfl) ?_
  simp only [List.take_succ_cons, List.take_zero, List.drop_succ_cons, List.drop_zero]
  refine wpR_pre (spOf_law a b) anti_tail 6 _ _ _ ?_ rfl
  simp only [List.take_succ_cons, List.take_zero, List.drop_succ_cons, List.drop_zero]
  repeat (go_big_quiet_step (fail))
  refine wpQuiet_nil ?_
  refine wpR_callF 31 _ _ rfl (by rfl) Try.func31 (by kernel_rfl) (by kernel_rfl) #[.int .i64 a, .int .i64 b] (by simp [Act.eval]) (fun w1 hg => (of_any a b w1).mono (fun e w'' h => ⟨_, h.1, rfl, h.2⟩)) ?_
  rintro v ⟨_, _, hv⟩
  unfold SpOf at hv
  subst hv
  unfold wpR
  intro w7 hs7 hF7
  have hs8 := (Step.refl [] w).drew.then hs7 (by simp)
  have HS := Lib.hid hs8
  clear hne hs7 hF7 d1
  refine wpList_del pairKey boolEl rfl (.tmp 43) (.tmp 46) 59 4 rfl Try.underlying59 (b := mb) (by rfl) (HN.out.step0 hs8).walls (pk a b wa wb) (by rfl) trivial ?_
  intro w9 hm9 hs9
  have H9 := Lib.hid (And.intro ((HN.out.step0 hs8).unw hm9 hs9) ((hs8.mono (by simp)).then hs9 (fun k hk => .inl hk) : Step [mb] w w9))
  clear hm9 hs9 hs8
  refine wpList_nil ?_
  go_wp2_with fail
  go_ret
  exact ⟨rfl, H9.out⟩
set_option maxRecDepth 20000 in
theorem wall_bad (a b : Int) (up : Bool) (w : World) (h : ¬ (1 ≤ a ∧ a ≤ 7 ∧ 1 ≤ b ∧ b ≤ 7 ∧ a ≠ b)) :
    Calls Try.prog 18 #[.pointer (some ⟨nb, 0, none⟩), .int .i64 a, .int .i64 b, .bool up] w fun e w' => e = .returned (.int .i64 1) ∧ w = w' := by
  rcases (by omega : a < 1 ∨ (1 ≤ a ∧ 7 < a) ∨ (1 ≤ a ∧ a ≤ 7 ∧ b < 1) ∨ (1 ≤ a ∧ a ≤ 7 ∧ 1 ≤ b ∧ 7 < b) ∨ (1 ≤ a ∧ a ≤ 7 ∧ 1 ≤ b ∧ b ≤ 7 ∧ a = b)) with h1 | ⟨h1, h2⟩ | ⟨h1, h2, h3⟩ | ⟨h1, h2, h3, h4⟩ | ⟨h1, h2, h3, h4, h5⟩
  all_goals
    clear h
    try subst h5
    go_enter Try.func18, Try.ntmps18
    go_wp2_with fail
    go_ret
    exact ⟨rfl, rfl⟩
end
end Go.Proofs.Ytminpglkipnhcaa
end

section
namespace Go.Proofs.Ytminpglkipnhcaa
set_option linter.unusedVariables false
open Go.RowKit
/-- cells written over a list's -/
def setL : List Value → Nat → List Value → List Value
  | xs, _, [] => xs
  | xs, o, v :: r => setL (xs.set o v) (o + 1) r
theorem setL_mid : ∀ (vs A B C : List Value), B.length = vs.length → setL (A ++ B ++ C) A.length vs = A ++ vs ++ C
  | [], A, B, C, h => by
    have : B = [] := List.eq_nil_of_length_eq_zero h
    subst this
    rfl
  | v :: r, A, [], C, h => by simp at h
  | v :: r, A, b :: B, C, h => by
    have h1 : (A ++ (b :: B) ++ C).set A.length v = (A ++ [v]) ++ B ++ C := by
      simp
    have h2 := setL_mid r (A ++ [v]) B C (by simpa using h)
    unfold setL
    rw [h1]
    simp only [List.length_append, List.length_cons, List.length_nil, Nat.zero_add] at h2
    rw [h2]
    simp
theorem owns_setCells {base e size g n cap : Nat} : ∀ (vs : List Value) (o : Nat) (w : World) (xs : List Value), w.ownsRow base e size (.slice (some ⟨g, 0, none⟩) n cap) n xs → (w.setCells g o vs).ownsRow base e size (.slice (some ⟨g, 0, none⟩) n cap) n (setL xs o vs)
  | [], o, w, xs, h => h
  | v :: r, o, w, xs, h => owns_setCells r (o + 1) (w.setCell ⟨g, o, none⟩ v) (xs.set o v) (World.ownsRow.stored h o v).1
section
variable {α : Type} {f : α → List Value} {m : Nat}
theorem flatF_cut (L : List α) (k : Nat) (hk : k < L.length) : L.flatMap f = (L.take k).flatMap f ++ f L[k] ++ (L.drop (k + 1)).flatMap f := by
  conv => lhs; rw [← List.take_append_drop k L, List.drop_eq_getElem_cons hk]
  simp only [List.flatMap_append, List.flatMap_cons, List.append_assoc]
theorem flatF_set (hf : ∀ x, (f x).length = m) (L : List α) (k : Nat) (y : α) (hk : k < L.length) : setL (L.flatMap f) (k * m) (f y) = (L.set k y).flatMap f := by
  have h1 := flatF_cut (f := f) (L.set k y) k (by simpa using hk)
  rw [List.getElem_set_self, List.drop_set_of_lt (by omega), List.take_set_of_le (Nat.le_refl _)] at h1
  have hl : ((L.take k).flatMap f).length = k * m := by
    rw [flatF_len hf, List.length_take]
    congr 1
    omega
  rw [h1, flatF_cut (f := f) L k hk, ← hl]
  exact setL_mid _ _ _ _ (by rw [hf, hf])
end
end Go.Proofs.Ytminpglkipnhcaa
end

section
namespace Go.Proofs.Ytminpglkipnhcaa
set_option linter.unusedVariables false
set_option linter.unusedSimpArgs false
open Go.RowKit
attribute [local go_sem ↓] exec_load_m exec_store_m
attribute [local go_sem] Try.load_m row_drew Try.store_m
theorem forget1_any (x : Ms) (node : Int) (vb : Nat) (w : World) (hc : w.cell? ⟨vb, 0, none⟩ = some (.int .i64 node)) :
    Calls Try.prog 33 #[.agg (msC x).toArray, .pointer (some ⟨vb, 0, none⟩)] w fun e w' => e = .returned (.bool (x.too == node)) ∧ Step [] w w' := by
  have hb1 := Blk.new w (msC x).toArray 31
  have hs1 := (Step.refl [] w).alloc (.cells (msC x).toArray 31)
  have c0 := (hs1.cell (World.block_lt_of_cell? w _ hc) (by simp)).trans hc
  obtain ⟨W, hW⟩ : ∃ W, w.alloc (.cells (msC x).toArray 31) = W := ⟨_, rfl⟩
  obtain ⟨b1, hb⟩ : ∃ b, w.heap.size = b := ⟨_, rfl⟩
  rw [hW] at hb1 hs1 c0
  rw [hb] at hb1
  have HW := Lib.hid (And.intro hW hb)
  have HS := Lib.hid hs1
  obtain ⟨-, -, c2, -⟩ := msg_cells hb1
  clear hc hb1 hs1 hW hb
  go_enter Try.func33, Try.ntmps33
  go_wp2_with (rw [HW.out.1, HW.out.2])
  go_ret
  exact ⟨rfl, HS.out⟩
/-- where the first one to a node stands -/
def ixT (L : List Ms) (node : Int) : Nat := L.findIdx fun x => x.too == node
set_option maxRecDepth 20000 in
set_option maxHeartbeats 1000000 in
theorem index_any (base n cap : Nat) (a : Option Addr) (L : List Ms) (node : Int) (vb : Nat) (w : World) (h : w.ownsRow base 31 11 (.slice a n cap) n (flatM L)) (hn : n ≤ 1000) (hc : w.cell? ⟨vb, 0, none⟩ = some (.int .i64 node)) :
    Calls Try.prog 39 #[.slice a n cap, .func (.func 33) #[] #[.pointer (some ⟨vb, 0, none⟩)]] w fun e w' => e = .returned (.int .i64 (if ixT L node < n then (ixT L node : Int) else -1)) ∧ Step [] w w' := by
  have hll : L.length = n := by have := h.1; rw [flatM_len] at this; omega
  have HO := Lib.hid (And.intro h (And.intro hc hll))
  have hvl := World.block_lt_of_cell? w _ hc
  obtain ⟨R, hR⟩ : ∃ R : Int, (if ixT L node < n then (ixT L node : Int) else -1) = R := ⟨_, rfl⟩
  rw [hR]
  have HRR := Lib.hid hR
  clear h hc hll hR
  go_enter Try.func39, Try.ntmps39
  go_wp2_with fail
  go_loopw [8] (fun s wr => ∃ q : Nat, s = .int .i64 (q : Int) ∧ q ≤ n ∧ Step [] w wr ∧ ∀ k, k < q → ((L.getD k ms0).too == node) = false) (fun s _ => n - (intOf s).toNat)
  case atStart => exact ⟨0, rfl, Nat.zero_le _, Step.refl _ _, fun k hk => by omega⟩
  case round =>
    obtain ⟨q, rfl, hq, hs, hno⟩ := hrel
    have HS := Lib.hid (And.intro hs hno)
    by_cases hlt : q < n
    · obtain ⟨g, c, hv, _⟩ := owns_form HO.out.1 (by omega)
      injection hv with hv1 _ hv2
      have hrow := owns_msg (by rw [hv1] at HO; exact owns_step HO.out.1 hs (by simp)) q hlt
      have hc0 := (hs.cell hvl (by simp)).trans HO.out.2.1
      have HG := Lib.hid hv1
      have p1 : (q : Int) < (n : Int) := by omega
      have p0 : (0 : Int) ≤ (q : Int) := by omega
      rw [hv1]
      obtain ⟨x, hx⟩ : ∃ x, L.getD q ms0 = x := ⟨_, rfl⟩
      rw [hx] at hrow
      have HF := Lib.hid (forget1_any x node vb wr hc0)
      have HX := Lib.hid hx
      clear hs hno hv1 hv2 hx hc0
      go_wp2_with fail
      refine HF.out.mono ?_
      rintro e w7 ⟨rfl, hs7⟩
      have HS7 := Lib.hid hs7
      obtain ⟨r, hr⟩ : ∃ r, (x.too == node) = r := ⟨_, rfl⟩
      have HR := Lib.hid hr
      rw [hr]
      clear hs7 hr HF
      cases r with
      | true =>
        have hix : ixT L node = q := by
          unfold ixT
          refine (List.findIdx_eq (by rw [HO.out.2.2]; exact hlt)).2 ⟨?_, fun k hk => ?_⟩
          · have := HX.out
            rw [List.getD_eq_getElem?_getD, List.getElem?_eq_getElem (by rw [HO.out.2.2]; exact hlt)] at this
            simp only [Option.getD_some] at this
            rw [this]
            exact HR.out
          · have := HS.out.2 k hk
            rw [List.getD_eq_getElem?_getD, List.getElem?_eq_getElem (by rw [HO.out.2.2]; omega)] at this
            simpa using this
        have e1 := Lib.hid (show (q : Int) = R by rw [← HRR.out, hix, if_pos hlt])
        clear hix
        go_wp2_with fail
        go_ret
        exact ⟨congrArg (fun z => Ending.returned (Value.int .i64 z)) e1.out, HS.out.1.then HS7.out (by simp)⟩
      | false =>
        go_wp2_with fail
        exact ⟨⟨q + 1, by go_num, hlt, HS.out.1.then HS7.out (by simp), fun k hk => by
          by_cases hk2 : k < q
          · exact HS.out.2 k hk2
          · have : k = q := by omega
            subst this
            rw [HX.out]
            exact HR.out⟩, by simp [intOf]; omega⟩
    · have hqe : q = n := by omega
      subst hqe
      have hix : ¬ ixT L node < q := by
        unfold ixT
        intro hlt2
        have h1 := List.findIdx_getElem (w := by rw [HO.out.2.2]; exact hlt2) (xs := L) (p := fun x => x.too == node)
        have h2 := HS.out.2 _ hlt2
        rw [List.getD_eq_getElem?_getD, List.getElem?_eq_getElem (by rw [HO.out.2.2]; exact hlt2)] at h2
        simp only [Option.getD_some] at h2
        rw [h2] at h1
        cases h1
      have e1 := Lib.hid (show (-1 : Int) = R by rw [← HRR.out, if_neg hix])
      clear hs hno hix hlt
      go_wp2_with fail
      go_ret
      exact ⟨congrArg (fun z => Ending.returned (Value.int .i64 z)) e1.out, HS.out.1⟩
/-- those that are not to a node -/
def keepT (L : List Ms) (node : Int) : List Ms := L.filter fun x => !(x.too == node)
theorem owns_msg_set {w : World} {base g n cap : Nat} {C : List Ms} (h : w.ownsRow base 31 11 (.slice (some ⟨g, 0, none⟩) n cap) n (flatM C)) (hl : C.length = n) (i : Nat) (hi : i < n) (x : Ms) :
    (w.setCells g (i * 11) (msC x)).ownsRow base 31 11 (.slice (some ⟨g, 0, none⟩) n cap) n (flatM (C.set i x)) ∧ Step [g] w (w.setCells g (i * 11) (msC x)) := by
  refine ⟨?_, (Step.refl _ w).setCells (.inl (by simp)) _ _⟩
  have h1 := owns_setCells (msC x) (i * 11) w _ h
  have e : setL (flatM C) (i * 11) (msC x) = flatM (C.set i x) := flatF_set msC_len C i x (by omega)
  rwa [e] at h1
theorem ix_take (L : List Ms) (node : Int) : keepT (L.take (ixT L node)) node = L.take (ixT L node) := by
  unfold keepT
  rw [List.filter_eq_self]
  intro x hx
  obtain ⟨k, hk, rfl⟩ := List.getElem_of_mem hx
  rw [List.length_take] at hk
  have := List.not_of_lt_findIdx (xs := L) (p := fun x => x.too == node) (i := k) (by unfold ixT at hk; omega)
  simp only [List.getElem_take]
  simpa using this
set_option maxRecDepth 20000 in
set_option maxHeartbeats 2000000 in
theorem delf_any (base n cap : Nat) (a : Option Addr) (L : List Ms) (node : Int) (vb : Nat) (w : World) (h : w.ownsRow base 31 11 (.slice a n cap) n (flatM L)) (hn : n ≤ 1000) (hc : w.cell? ⟨vb, 0, none⟩ = some (.int .i64 node)) (hvb : vb ∉ foot (.slice a n cap)) :
    Calls Try.prog 32 #[.slice a n cap, .func (.func 33) #[] #[.pointer (some ⟨vb, 0, none⟩)]] w fun e w' =>
      e = .returned (.slice a (keepT L node).length cap) ∧ w'.ownsRow base 31 11 (.slice a (keepT L node).length cap) (keepT L node).length (flatM (keepT L node)) ∧ Step (foot (.slice a n cap)) w w' := by
  have hll : L.length = n := by have := h.1; rw [flatM_len] at this; omega
  have hvl := World.block_lt_of_cell? w _ hc
  obtain ⟨KL, hKL⟩ : ∃ K, keepT L node = K := ⟨_, rfl⟩
  rw [hKL]
  have HKL := Lib.hid hKL
  clear hKL
  have HI := Lib.hid (index_any base n cap a L node vb w h hn hc)
  have HO := Lib.hid (And.intro h (And.intro hc hll))
  clear h hc
  go_enter Try.func32, Try.ntmps32
  go_wp2_with fail
  refine HI.out.mono ?_
  rintro e w1 ⟨rfl, hs1⟩
  have HS1 := Lib.hid hs1
  obtain ⟨ix, hix⟩ : ∃ i, ixT L node = i := ⟨_, rfl⟩
  have htk := ix_take L node
  rw [hix] at htk ⊢
  have HX := Lib.hid (And.intro hix htk)
  clear hs1 HI hix htk
  by_cases hlt : ix < n
  · rw [if_pos hlt]
    have p1 : ((ix : Int) == -1) = false := by
      rw [beq_eq_false_iff_ne]
      omega
    have p2 : ¬ ((ix : Int) = -1) := by omega
    have e1 : IntKind.i64.wrap ((ix : Int) + 1) = (ix : Int) + 1 := by rw [IntKind.wrap_i64]; omega
    obtain ⟨g, c, hv, _⟩ := owns_form HO.out.1 (by omega)
    injection hv with hv1 _ hv2
    subst hv1
    have hg : foot (.slice (some ⟨g, 0, none⟩) n cap) = [g] := rfl
    rw [hg] at hvb
    have hvg : vb ≠ g := fun e => hvb (by simp [e])
    clear hv2 hvb hg
    go_wp2_with fail
    go_loopw [5, 6] (fun s t wr => ∃ (i j : Nat) (C : List Ms), s = .int .i64 (i : Int) ∧ t = .int .i64 (j : Int) ∧ i < j ∧ j ≤ n ∧ C.length = n ∧ C.take i = keepT (L.take j) node ∧ C.drop j = L.drop j ∧ wr.ownsRow base 31 11 (.slice (some ⟨g, 0, none⟩) n cap) n (flatM C) ∧ Step [g] w wr) (fun _ t _ => n - (intOf t).toNat)
    case atStart =>
      refine ⟨ix, ix + 1, L, rfl, by go_num, by omega, by omega, HO.out.2.2, ?_, rfl, owns_step HO.out.1 HS1.out (by simp), HS1.out.mono (by simp)⟩
      have h1 : (L[ix]'(by rw [HO.out.2.2]; exact hlt)).too = node := by
        have := List.findIdx_getElem (w := by have := HX.out.1; unfold ixT at this; rw [this, HO.out.2.2]; exact hlt) (xs := L) (p := fun x => x.too == node)
        have h2 := HX.out.1
        unfold ixT at h2
        simp only [h2] at this
        simpa using this
      rw [List.take_succ_eq_append_getElem (by rw [HO.out.2.2]; exact hlt)]
      unfold keepT
      rw [List.filter_append]
      have h3 := HX.out.2
      unfold keepT at h3
      rw [h3]
      simp [h1]
    case round =>
      obtain ⟨i, j, C, rfl, rfl, hij, hj, hC, hCt, hCd, hown, hst⟩ := hrel
      have HC := Lib.hid (And.intro hC (And.intro hCt (And.intro hCd (And.intro hown hst))))
      by_cases hjn : j < n
      · have hrow := owns_msg hown j hjn
        have hx : C.getD j ms0 = L[j]'(by rw [HO.out.2.2]; exact hjn) := by
          have := congrArg (fun l => l[0]?) hCd
          simp only [List.getElem?_drop, Nat.add_zero] at this
          rw [List.getD_eq_getElem?_getD, this, List.getElem?_eq_getElem (by rw [HO.out.2.2]; exact hjn)]
          rfl
        obtain ⟨x, hxx⟩ : ∃ x, L[j]'(by rw [HO.out.2.2]; exact hjn) = x := ⟨_, rfl⟩
        rw [hx, hxx] at hrow
        have HX2 := Lib.hid hxx
        have hc0 := (hst.cell hvl (by simp; exact hvg)).trans HO.out.2.1
        clear hC hCt hCd hown hst hx hxx
        have q1 : (j : Int) < (n : Int) := by omega
        have p0 : (0 : Int) ≤ (j : Int) := by omega
        have e2 : IntKind.i64.wrap ((j : Int) + 1) = (j : Int) + 1 := by rw [IntKind.wrap_i64]; omega
        have e3 : IntKind.i64.wrap ((i : Int) + 1) = (i : Int) + 1 := by rw [IntKind.wrap_i64]; omega
        have hzv := zeroM
        unfold msV at hzv
        have hC0 : ¬ (msC ms0).toArray = #[] := by decide
        have r1 : rowC (wr.alloc (.cells (msC ms0).toArray 31)) g (j * 11) 11 = some (msC x) := row_alloc wr _ hrow
        obtain ⟨bt, bb, bs⟩ := box_m wr x
        have hst := Try.store_m _ _ _ x bt
        have r7 := msg_row bb
        obtain ⟨W2, hW2⟩ : ∃ W, (wr.alloc (.cells (msC ms0).toArray 31)).setCells wr.heap.size 0 (msC x) = W := ⟨_, rfl⟩
        rw [hW2] at bb bs hst r7
        have HF := Lib.hid (forget1_any x node vb W2 ((bs.cell (World.block_lt_of_cell? wr _ hc0) (by simp)).trans hc0))
        obtain ⟨b7, hb7⟩ : ∃ b, wr.heap.size = b := ⟨_, rfl⟩
        rw [hb7] at hst r7 bb
        have HBB := Lib.hid (And.intro bs (And.intro bb (And.intro hb7 (And.intro hW2 (World.block_lt_of_cell? wr _ hc0)))))
        clear bt bb bs hc0 hW2
        go_wp2_with (rw [HBB.out.2.2.1])
        refine HF.out.mono ?_
        rintro e w7 ⟨rfl, hs7⟩
        obtain ⟨r, hr⟩ : ∃ r, (x.too == node) = r := ⟨_, rfl⟩
        have HS7 := Lib.hid (HBB.out.1.then hs7 (by simp))
        have HR := Lib.hid hr
        have r9 := msg_row (HBB.out.2.1.step hs7 (by simp))
        rw [hr]
        clear hs7 hr HF hst r7 r1 hrow
        have hxs : L.take (j + 1) = L.take j ++ [x] := by
          rw [List.take_succ_eq_append_getElem (by rw [HO.out.2.2]; exact hjn), HX2.out]
        have HXS := Lib.hid hxs
        clear hxs
        cases r with
        | true =>
          go_wp2_with fail
          refine ⟨⟨i, j + 1, C, rfl, by go_num, by omega, hjn, HC.out.1, ?_, ?_, owns_step HC.out.2.2.2.1 HS7.out (by simp), HC.out.2.2.2.2.then HS7.out (by simp)⟩, by simp [intOf]; omega⟩
          · rw [HC.out.2.1, HXS.out]
            have := HR.out
            simp [keepT, List.filter_append, this]
          · have := congrArg (List.drop 1) HC.out.2.2.1
            simpa using this
        | false =>
          have hown7 := owns_step HC.out.2.2.2.1 HS7.out (by simp)
          have ht9 := owns_there hown7 (i * 11) 11 (by omega)
          have hst := Try.store_m w7 g (i * 11) x ht9
          have HSE := Lib.hid (owns_msg_set hown7 HC.out.1 i (by omega) x)
          have q2 : (i : Int) < (n : Int) := by omega
          have q3 : (0 : Int) ≤ (i : Int) := by omega
          clear hown7 ht9
          go_wp2_with fail
          refine ⟨⟨i + 1, j + 1, C.set i x, by go_num, by go_num, by omega, hjn, by simpa using HC.out.1, ?_, ?_, HSE.out.1, (HC.out.2.2.2.2.then HS7.out (by simp)).then HSE.out.2 (fun k hk => .inl hk)⟩, by simp [intOf]; omega⟩
          · rw [List.take_succ_eq_append_getElem (by rw [List.length_set, HC.out.1]; omega), List.take_set_of_le (Nat.le_refl _), List.getElem_set_self, HC.out.2.1, HXS.out]
            have := HR.out
            simp [keepT, List.filter_append, this]
          · rw [List.drop_set_of_lt (by omega)]
            have := congrArg (List.drop 1) HC.out.2.2.1
            simpa using this
      · have hje : j = n := by omega
        subst hje
        rw [show List.take j L = L from List.take_of_length_le (by omega), HKL.out] at hCt
        have hiL : KL.length = i := by rw [← hCt, List.length_take, hC]; omega
        have hcap : j ≤ cap ∧ cap ≤ maxLen := by
          obtain ⟨g2, c2, e, _, _, h2, h3⟩ := owns_form hown (by omega)
          injection e with e1 e2 e3
          rw [e3]
          exact ⟨h2, h3⟩
        obtain ⟨hc1, hc2⟩ := hcap
        unfold maxLen at hc2
        obtain ⟨w9, k1, k2, k3⟩ := clear_own (P := Try.prog) (k := i) (cap - i) hown Try.underlying38 zeroM rfl (fun v hv => msC_one ms0 v (by have : v ∈ (msC ms0).toArray.toList := hv; simpa using this)) (by omega)
        have k4 : w9.ownsRow base 31 11 (.slice (some ⟨g, 0, none⟩) i cap) i (flatM KL) := by
          have e : (flatM C).take (i * 11) = flatM KL := by
            rw [← hCt]
            exact (flatF_take msC_len C i).symm
          rwa [e] at k2
        have HK := Lib.hid (And.intro k4 (And.intro (hst.then k3 (fun k hk => .inl hk)) hiL))
        have q1 : (i : Int) ≤ (j : Int) := by omega
        have q2 : (j : Int) ≤ (cap : Int) := by omega
        have q3 : (0 : Int) ≤ (i : Int) := by omega
        have q4 : ¬ (cap : Int) = (i : Int) := by omega
        have q5 : ¬ cap = i := by omega
        have q6 : (i : Int) ≤ (cap : Int) := by omega
        clear hij hCt hCd hst hown hC k2 k3 k4 hj hjn HC hiL
        go_wp2_with fail
        go_ret
        exact ⟨congrArg (fun z => Ending.returned (Value.slice (some ⟨g, 0, none⟩) z cap)) HK.out.2.2.symm, by rw [HK.out.2.2]; exact HK.out.1, HK.out.2.1⟩
  · rw [if_neg hlt]
    have hK : KL = L := by
      have := HX.out.2
      rw [← HKL.out]
      rwa [List.take_of_length_le (by rw [HO.out.2.2]; omega)] at this
    subst hK
    have HK := Lib.hid (owns_step HO.out.1 HS1.out (by simp))
    clear hlt
    go_wp2_with fail
    go_ret
    exact ⟨congrArg (fun z => Ending.returned (Value.slice a z cap)) HO.out.2.2.symm, by rw [HO.out.2.2]; exact HK.out, HS1.out.mono (by simp)⟩
end Go.Proofs.Ytminpglkipnhcaa
end

section
namespace Go.Proofs.Ytminpglkipnhcaa
set_option linter.unusedVariables false
set_option linter.unusedSimpArgs false
open Go.RowKit
attribute [local go_sem ↓] exec_load_m exec_store_m
attribute [local go_sem] Try.load_m row_drew Try.store_m
theorem keepT_le (L : List Ms) (node : Int) : (keepT L node).length ≤ L.length := List.length_filter_le _ _
set_option maxRecDepth 20000 in
set_option maxHeartbeats 1000000 in
theorem forget_any (base nb mb : Nat) (lv : Value) (L : List Ms) (n : Nat) (f : PK → Option Bool) (node : Int) (w : World) (h : Nt w base nb mb lv L n f) :
    Calls Try.prog 19 #[.pointer (some ⟨nb, 0, none⟩), .int .i64 node] w fun e w' => e = .returned (.int .i64 ((L.length : Int) - ((keepT L node).length : Int))) ∧ PutPost base nb mb lv (keepT L node) n f w w' := by
  obtain ⟨a, cap, rfl⟩ : ∃ a c, lv = .slice a L.length c := by
    rcases h.own.2 with ⟨h1, h2⟩ | ⟨g, c, cur, h1, _⟩
    · exact ⟨none, 0, by rw [h1, h2]⟩
    · exact ⟨_, c, h1⟩
  have hs1 := (Step.refl [] w).alloc (.cells #[.int .i64 node] 3)
  have hbv := Blk.new w #[.int .i64 node] 3
  have h1 := h.step0 hs1
  have hlt := h.blk.lt
  have hvb : w.heap.size ∉ foot (.slice a L.length cap) := fun hk => by have := (h.live _ (List.mem_cons_of_mem _ (List.mem_cons_of_mem _ hk))).2; omega
  have hvn : w.heap.size ≠ nb := by omega
  obtain ⟨W, hW⟩ : ∃ W, w.alloc (.cells #[.int .i64 node] 3) = W := ⟨_, rfl⟩
  obtain ⟨vb, hvbe⟩ : ∃ b, w.heap.size = b := ⟨_, rfl⟩
  rw [hW] at hs1 hbv h1
  rw [hvbe] at hbv hvb hvn
  have cv := hbv.cell 0
  have c0 := h1.blk.cell 0
  simp only [List.getElem?_toArray, List.getElem?_cons_zero] at cv c0
  have HD := Lib.hid (delf_any base L.length cap a L node vb W h1.own (by have := h1.few; omega) cv hvb)
  obtain ⟨KL, hKL⟩ : ∃ K, keepT L node = K := ⟨_, rfl⟩
  have hle := keepT_le L node
  have hfew := h1.few
  rw [hKL] at HD hle ⊢
  obtain ⟨m, hm⟩ : ∃ m, KL.length = m := ⟨_, rfl⟩
  obtain ⟨q, hq⟩ : ∃ q, L.length = q := ⟨_, rfl⟩
  have HM := Lib.hid (And.intro hm hq)
  rw [hm, hq] at HD hle ⊢
  rw [hq] at h1 c0 hfew
  have HN := Lib.hid (And.intro h1 (And.intro hs1 hbv))
  have HW := Lib.hid (And.intro hW hvbe)
  have e1 : IntKind.i64.wrap ((q : Int) - (m : Int)) = (q : Int) - (m : Int) := by rw [IntKind.wrap_i64]; omega
  clear h h1 hs1 hbv hvb hvn hW hvbe hm hq hKL
  go_enter Try.func19, Try.ntmps19
  go_wp2_with (rw [HW.out.1, HW.out.2])
  refine HD.out.mono ?_
  rintro e w8 ⟨rfl, ho8, hs8⟩
  obtain ⟨hN, hS⟩ := HN.out.1.stored (L8 := KL) (lv8 := .slice a m cap) (hs8.mono (fun k hk => hk)) (by rw [HM.out.1]; exact ho8) (fun k hk => .inl ((foot_slice _ _ _ k).2 ((foot_slice _ _ _ k).1 hk))) (by rw [HM.out.1]; omega)
  have hB8 := HN.out.1.blk.step hs8 HN.out.1.ap1
  have k0 := hB8.cell 0
  have kf := hB8.free 0
  have l0 := hN.blk.cell 0
  simp only [List.getElem?_toArray, List.getElem?_cons_zero] at k0 l0
  have HQ := Lib.hid (And.intro hN hS)
  clear hN hS hB8 ho8 hs8 HD
  go_wp2_with fail
  go_ret
  exact ⟨rfl, _, HQ.out.1, (HN.out.2.1.mono (by simp)).then HQ.out.2 (fun k hk => .inl hk), fun k hk => .inl ((foot_slice _ _ _ k).2 ((foot_slice _ _ _ k).1 hk))⟩
end Go.Proofs.Ytminpglkipnhcaa
end

section
namespace Go.Proofs.Ytminpglkipnhcaa
set_option linter.unusedVariables false
set_option linter.unusedSimpArgs false
open Go.RowKit
attribute [local go_sem ↓] exec_load_m exec_store_m
attribute [local go_sem] Try.load_m row_drew Try.store_m
set_option maxRecDepth 20000 in
theorem mclone_any (mb n : Nat) (f : PK → Option Bool) (w : World) (h : MapF pairKey boolEl w mb n f) :
    Calls Try.prog 34 #[.map (some mb)] w fun e w' => e = .returned (.map (some w.heap.size)) ∧ MapF pairKey boolEl w' w.heap.size n f ∧ ∃ o, w' = w.alloc o := by
  obtain ⟨D, hown, hs⟩ := h
  obtain ⟨es, clock, hb, F, hn, hD⟩ := hown
  have hq := fun w => run_eql_map_nil_sl (P := Try.prog) w 59 _ _ (some mb) Try.underlying59
  simp only [Option.isNone_some] at hq
  have HF := Lib.hid (And.intro F (And.intro hn (And.intro hD hs)))
  clear F hn hD hs
  go_enter Try.func34, Try.ntmps34
  go_wp2
  rw [run_callFunc_extern Try.func40 (by kernel_rfl) (by kernel_rfl) (by kernel_rfl) (e := Extern.MapsClone.clone) (by kernel_rfl), run_maps_clone_sl w 59 hb]
  simp only [Result.andThen]
  rw [Oper.upon_value]
  go_wp2
  rw [run_typeAssert_map_sl _ 59 _ _ _ _ Try.underlying59]
  simp only [Result.andThen]
  rw [Oper.upon_value]
  go_wp2
  go_ret
  obtain ⟨F, hn, hD, hs⟩ := HF.out
  exact ⟨rfl, ⟨D, ⟨es, clock, (MapKept.heap_alloc w _).1, F, hn, hD⟩, hs⟩, _, rfl⟩
def SpX (_ : FuncId) (_ : Array Value) (v : Value) (_ : World) : Prop := ∃ x : Ms, v = .agg (msC x).toArray
theorem spX_law : RelLaw (Step []) SpX where
  refl := fun w => Step.refl [] w
  trans := fun w w' w'' h h' => h.then h' (by simp)
  stable := fun f args v w w' h hs => h
def CopyPost (k n : Nat) (f : PK → Option Bool) (w : World) (e : Ending) (w' : World) : Prop := ∃ cb cm lv L, e = .returned (.pointer (some ⟨cb, 0, none⟩)) ∧ L.length = k ∧ Nt w' w.heap.size cb cm lv L n f ∧ Step [] w w'
theorem TmOk.drew {w : World} {t : Tm} (h : TmOk w t) : TmOk w.drew t := h.step (Step.refl [] w).drew (fun k _ => List.not_mem_nil)
set_option maxRecDepth 20000 in
set_option maxHeartbeats 2000000 in
theorem copy_any (base nb mb : Nat) (lv : Value) (T E : List Tm) (n : Nat) (f : PK → Option Bool) (w : World) (h : NtE w base nb mb lv T E n f) (h64 : T.length ≤ 64) :
    Calls Try.prog 20 #[.pointer (some ⟨nb, 0, none⟩)] w (CopyPost T.length n f w) := by
  obtain ⟨a, cap, rfl⟩ : ∃ a c, lv = .slice a T.length c := by
    rcases h.net.own.2 with ⟨h1, h2⟩ | ⟨g, c, cur, h1, _⟩
    · exact ⟨none, 0, by rw [h1]; simp at h2; rw [h2]; rfl⟩
    · exact ⟨_, c, by simpa using h1⟩
  have c0 := h.net.blk.cell 0
  have c1 := h.net.blk.cell 1
  simp only [List.getElem?_toArray, List.getElem?_cons_zero, List.getElem?_cons_succ] at c0 c1
  have HC := Lib.hid (mclone_any mb n f w h.net.walls)
  have HN := Lib.hid h
  have hlt := h.net.blk.lt
  have hfn := h.net.fewn
  obtain ⟨N, hNN⟩ : ∃ N, T.length = N := ⟨_, rfl⟩
  have HNN := Lib.hid hNN
  rw [hNN] at c0 h64 HN ⊢
  obtain ⟨i0, j0, j1, j2, j3⟩ := infoM_parts
  have HI0 := Lib.hid (And.intro j0 (And.intro j1 (And.intro j2 j3)))
  clear j0 j1 j2 j3
  have hq := fun w m => run_eql_map_nil_sl (P := Try.prog) w 59 _ _ (some m) Try.underlying59
  clear h hNN
  go_enter Try.func20, Try.ntmps20
  go_wp2_with fail
  refine HC.out.mono ?_
  rintro e w1 ⟨rfl, hm1, o, ho⟩
  have hs1 : Step [] w w1 := by rw [ho]; exact (Step.refl [] w).alloc o
  have hz1 : w1.heap.size = w.heap.size + 1 := by rw [ho, World.size_alloc]
  obtain ⟨cm, hcm⟩ : ∃ c, w.heap.size = c := ⟨_, rfl⟩
  rw [hcm] at hm1 ⊢
  have hbc := Blk.new w1 #[.slice none 0 0, .map (some cm)] 61
  have hs2 := hs1.alloc (.cells #[.slice none 0 0, .map (some cm)] 61)
  have hm2 := hm1.step ((Step.refl [] w1).alloc (.cells #[.slice none 0 0, .map (some cm)] 61)) (by simp)
  obtain ⟨W, hW⟩ : ∃ W, w1.alloc (.cells #[.slice none 0 0, .map (some cm)] 61) = W := ⟨_, rfl⟩
  obtain ⟨cb, hcb⟩ : ∃ c, w1.heap.size = c := ⟨_, rfl⟩
  rw [hW] at hbc hs2 hm2
  rw [hcb] at hbc
  have c0' := (hs2.cell hlt (by simp)).trans c0
  have HM := Lib.hid (show Nt W w.heap.size cb cm (.slice none 0 0) [] n f from ⟨hbc, World.ownsRow_nil _ _ _ _, hm2, by omega, by omega, by simp [foot, Value.ownBlock], by simp [foot, Value.ownBlock], by omega, by simp, hfn⟩)
  have HS2 := Lib.hid (And.intro hs2 (And.intro hcm (show w.heap.size ≤ cb ∧ w.heap.size ≤ cm by omega)))
  have HW := Lib.hid (And.intro hW hcb)
  clear hbc hs2 hm2 hW hcb hm1 hs1 hz1 ho HC c0 c1
  go_wp2_with (rw [HW.out.1, HW.out.2])
  go_loopw [20] (fun s wr => ∃ (i : Nat) (lv : Value) (L : List Ms), s = .int .i64 (i : Int) ∧ i ≤ N ∧ L.length = i ∧ Nt wr w.heap.size cb cm lv L n f ∧ Step [] w wr) (fun s _ => N - (intOf s).toNat)
  case atStart => exact ⟨0, _, [], rfl, Nat.zero_le _, rfl, HM.out, HS2.out.1⟩
  case round =>
    obtain ⟨i, lc, L, rfl, hi, hL, hNt, hst⟩ := hrel
    have HI := Lib.hid (And.intro hL (And.intro hNt hst))
    by_cases hlt2 : i < N
    · obtain ⟨g, c, hv, _⟩ := owns_form HN.out.net.own (by rw [List.length_map, HNN.out]; omega)
      injection hv with hv1 hv3 hv2
      clear hv3
      subst hv1
      have hownr := owns_step HN.out.net.own hst (by simp)
      rw [List.length_map, HNN.out] at hownr
      have hrow := owns_msg hownr i hlt2
      have hgx : (T.map (·.x)).getD i ms0 = (T.getD i tm0).x := by simp [List.getD, show i < T.length by rw [HNN.out]; exact hlt2]
      rw [hgx] at hrow
      have hmem : T.getD i tm0 ∈ T ++ E := List.mem_append_left _ (by simp [List.getD, show i < T.length by rw [HNN.out]; exact hlt2])
      obtain ⟨t, ht⟩ : ∃ t, T.getD i tm0 = t := ⟨_, rfl⟩
      rw [ht] at hrow hmem
      have hok := (HN.out.ok t hmem).1
      obtain ⟨bt, bb, bs⟩ := box_m wr t.x
      have hst0 := Try.store_m _ _ _ t.x bt
      have r5 := msg_row bb
      have p1 : (i : Int) < (N : Int) := by omega
      have p0 : (0 : Int) ≤ (i : Int) := by omega
      have hzv := zeroM
      unfold msV at hzv
      have hC0 : ¬ (msC ms0).toArray = #[] := by decide
      obtain ⟨W2, hW2⟩ : ∃ W, (wr.alloc (.cells (msC ms0).toArray 31)).setCells wr.heap.size 0 (msC t.x) = W := ⟨_, rfl⟩
      rw [hW2] at bb bs hst0 r5
      obtain ⟨b5, hb5⟩ : ∃ b, wr.heap.size = b := ⟨_, rfl⟩
      have hN2 := hNt.step0 bs
      have k0 := hN2.blk.cell 0
      simp only [List.getElem?_toArray, List.getElem?_cons_zero] at k0
      rw [hb5] at hst0 r5 bb
      have HOK := Lib.hid (hok.step (hst.then bs (by simp)) (fun k _ => List.not_mem_nil))
      have H2 := Lib.hid (And.intro hN2 (And.intro (hst.then bs (by simp)) (And.intro hb5 (And.intro hW2 bb))))
      have hltc := hN2.blk.lt
      clear hNt hst hownr hok bt bb bs hN2 hW2 hmem hgx hv2 ht
      go_wp2_with (rw [H2.out.2.2.1])
      have hne0 : Nonempty (ClsW (fun _ => True)) := ⟨⟨W2, trivial⟩⟩
      have hne : Nonempty (ClsW (Step [] W2.drew)) := ⟨⟨_, Step.refl _ _⟩⟩
      have d0 : ∀ y : ClsW (Step [] W2.drew), y.val.cell? ⟨cb, 0, none⟩ = some lc := fun y => (y.ok.cell hltc (by simp)).trans k0
      have d1 : ∀ y : ClsW (Step [] W2.drew), rowC y.val b5 0 11 = some (msC t.x) := fun y => msg_row ((H2.out.2.2.2.2.drew).step y.ok (by simp))
      refine wp_region_prt spX_law 4 8 (by kernel_rfl) (by kernel_rfl) (fun c a d v w h => by cases d <;> exact h) ?_
      simp only [List.take_succ_cons, List.take_zero, List.drop_succ_cons, List.drop_zero]
      repeat (go_big_quiet_step (fail))
      refine wpQuiet_nil ?_
      refine wpR_pre spX_law anti_tail 2 _ _ _ ?_ rfl
      simp only [List.take_succ_cons, List.take_zero, List.drop_succ_cons, List.drop_zero]
      repeat (go_big_quiet_step (fail))
      refine wpQuiet_nil ?_
      refine wpR_callF 23 _ _ rfl (by rfl) Try.func23 (by kernel_rfl) (by kernel_rfl) #[.agg (msC t.x).toArray] (by simp [Act.eval]) (fun w1 hg => (clone_any t.x t.M t.D w1 (HOK.out.drew.step hg (fun k _ => List.not_mem_nil)).ok HOK.out.few).mono (fun e w'' h => by obtain ⟨x', D', h1, h2, h3, h4, h5⟩ := h; exact ⟨_, h1, ⟨x', rfl⟩, h4⟩)) ?_
      rintro v ⟨_, _, x', rfl⟩
      go_simp
      refine wpR_make spX_law anti_tail (SpB W2.heap.size x') (by rfl) (fun w1 hg => ⟨.slice (some ⟨w1.heap.size, 0, none⟩) 1 1, w1.alloc (.cells (msC x').toArray 31), by rw [execOp_oneBig]; simp [Act.eval, one_m, oVal], (Step.refl [] w1).alloc _, ⟨_, rfl, Blk.new _ _ _, hg.size⟩⟩) (spB_step _ _) ?_
      rintro v10 ⟨w10, hg10, b10, rfl, -, -⟩
      go_simp
      unfold wpR
      rintro w7 hs7 ⟨-, b10', hb10', hblk10, hlow10⟩
      have hbb : b10 = b10' := by simpa using hb10'
      subst hbb
      clear hb10' hg10
      have hs70 : Step [] W2 w7 := (Step.refl [] W2).drew.then hs7 (by simp)
      have hH7 := H2.out.1.step0 hs70
      refine wpList_append_sep rfl (.tmp 28) (.tmp 31) 38 rfl w.heap.size 31 i0 _ 11 136 Try.underlying38 HI0.out.1 HI0.out.2.1 HI0.out.2.2.1 HI0.out.2.2.2 rfl (by decide) lc L.length (flatM L) rfl hH7.own (some ⟨b10, 0, none⟩) 1 1 (msC x') rfl (fun h => by cases h) rfl (fun ad he j u hu => by cases he; rw [Go.Proofs.Ytminpglkipnhcaa.add_plain, hblk10.cell]; simpa using hu) (msC_one x') (by unfold maxLen; omega) (by omega) (by have := hs70.size; have := H2.out.2.1.size; omega) ?_
      intro v8 w8 ho8 hg8 hf8
      have hst8 : Step (foot lc) w7 w8 := ((Step.refl [] w7).mono (by simp)).grown hg8 (fun k hk => .inl (mem_foot.2 hk))
      have ho8' : w8.ownsRow w.heap.size 31 11 v8 (L ++ [x']).length (flatM (L ++ [x'])) := by
        rw [List.length_append]
        unfold flatM at ho8 ⊢
        rw [flatF_app]
        simpa using ho8
      obtain ⟨hN, hS⟩ := hH7.stored hst8 ho8' hf8 (by simp; omega)
      have k8 := (hH7.blk.step hst8 hH7.ap1).cell 0
      have kf := (hH7.blk.step hst8 hH7.ap1).free 0
      simp only [List.getElem?_toArray, List.getElem?_cons_zero] at k8
      obtain ⟨g8, c8, hv8, -⟩ := owns_form ho8' (by simp)
      have hlo : ∀ k, k ∈ cb :: foot lc → w.heap.size ≤ k := fun k hk => by
        rcases List.mem_cons.1 hk with rfl | hk
        · exact hH7.low1
        · exact owns_base hH7.own k hk
      have HF := Lib.hid (And.intro hN ((H2.out.2.1.then hs70 (by simp)).then hS (fun k hk => .inr (hlo k hk))))
      have hlen : (L ++ [x']).length = i + 1 := by simp [hL]
      rw [hlen] at hv8
      subst hv8
      clear hN hS ho8 ho8' hg8 hf8 hst8 hH7 hs70 hs7 hblk10 hlow10 d0 d1 hne hne0 k0 r5 hst0 hrow hzv hC0 hlo
      go_wp2_with fail
      exact ⟨⟨i + 1, _, L ++ [x'], by go_num, hlt2, hlen, HF.out.1, HF.out.2⟩, by simp [intOf]; omega⟩
    · have hie : i = N := by omega
      subst hie
      clear hL hNt hst hi hlt2
      go_wp2_with fail
      go_ret
      exact ⟨cb, cm, lc, L, rfl, HI.out.1, HI.out.2.1, HI.out.2.2⟩
end Go.Proofs.Ytminpglkipnhcaa
end

section
namespace Go.Proofs.Ytminpglkipnhcaa
set_option linter.unusedVariables false
open Go.RowKit
/-- v's n elements xs are the end of a row of the call's own -/
def OwnO (w : World) (base e size : Nat) (v : Value) (n : Nat) (xs : List Value) : Prop :=
  xs.length = n * size ∧ ((v = .slice none 0 0 ∧ n = 0) ∨ ∃ g o cap zs, v = .slice (some ⟨g, o * size, none⟩) n cap ∧ w.ownsRow base e size (.slice (some ⟨g, 0, none⟩) (o + n) (o + cap)) (o + n) zs ∧ zs.drop (o * size) = xs)
section
variable {w w' : World} {base e size n : Nat} {v : Value} {xs : List Value} {F : List Nat}
theorem OwnO.of (h : w.ownsRow base e size v n xs) : OwnO w base e size v n xs := by
  refine ⟨h.1, ?_⟩
  rcases h.2 with ⟨h1, h2⟩ | ⟨g, cap, cur, h1, h2⟩
  · exact .inl ⟨h1, h2⟩
  · refine .inr ⟨g, 0, cap, xs, by rw [Nat.zero_mul]; exact h1, ?_, by rw [Nat.zero_mul]; rfl⟩
    rw [Nat.zero_add, Nat.zero_add, ← h1]
    exact h
theorem OwnO.foot_eq {g a b n' c' : Nat} : foot (.slice (some ⟨g, a, none⟩) n c') = foot (.slice (some ⟨g, b, none⟩) n' c') := by
  simp [foot, Value.ownBlock]
theorem OwnO.step (h : OwnO w base e size v n xs) (hs : Step F w w') (hd : ∀ k, k ∈ foot v → k ∉ F) : OwnO w' base e size v n xs := by
  refine ⟨h.1, ?_⟩
  rcases h.2 with h1 | ⟨g, o, cap, zs, rfl, h2, h3⟩
  · exact .inl h1
  · exact .inr ⟨g, o, cap, zs, rfl, owns_step h2 hs (fun k hk => hd k (by simp [foot, Value.ownBlock] at hk ⊢; exact hk)), h3⟩
theorem OwnO.low (h : OwnO w base e size v n xs) : ∀ k, k ∈ foot v → base ≤ k ∧ k < w.heap.size := by
  intro k hk
  rcases h.2 with ⟨rfl, _⟩ | ⟨g, o, cap, zs, rfl, h2, h3⟩
  · simp [foot, Value.ownBlock] at hk
  · have hk' : k ∈ foot (.slice (some ⟨g, 0, none⟩) (o + n) (o + cap)) := by simp [foot, Value.ownBlock] at hk ⊢; exact hk
    exact ⟨owns_base h2 k hk', owns_live h2 k hk'⟩
theorem OwnO.cell (h : OwnO w base e size v n xs) : ∀ ad m c, v = .slice (some ad) m c → ∀ j u, xs[j]? = some u → w.cell? (ad.add j) = some u := by
  intro ad m c hv j u hu
  rcases h.2 with ⟨rfl, _⟩ | ⟨g, o, cap, zs, rfl, h2, rfl⟩
  · cases hv
  · injection hv with hv1
    injection hv1 with hv1
    subst hv1
    rw [Go.Proofs.Ytminpglkipnhcaa.add_plain]
    rw [List.getElem?_drop] at hu
    have hj : o * size + j < (o + n) * size := by
      have h4 := (List.getElem?_eq_some_iff.1 hu).1
      rw [h2.1] at h4
      exact h4
    rw [h2.cellAt _ hj]
    exact hu
/-- without the first one -/
theorem OwnO.tail {g off cap : Nat} (h : OwnO w base e size (.slice (some ⟨g, off, none⟩) (n + 1) cap) (n + 1) xs) : ∃ cap', cap = cap' + 1 ∧ OwnO w base e size (.slice (some ⟨g, off + size, none⟩) n cap') n (xs.drop size) := by
  obtain ⟨hl, h⟩ := h
  rcases h with ⟨h1, _⟩ | ⟨g', o, cap', zs, h1, h2, rfl⟩
  · cases h1
  · injection h1 with h1 h3 h4
    injection h1 with h1
    injection h1 with h5 h6
    subst h5 h6 h4
    have hle : o + (n + 1) ≤ o + cap := by
      rcases h2.2 with ⟨h7, _⟩ | ⟨g2, c2, cur, h7, _, _, h8, _⟩
      · cases h7
      · injection h7 with _ _ h9
        omega
    obtain ⟨c', rfl⟩ : ∃ c', cap = c' + 1 := ⟨cap - 1, by omega⟩
    refine ⟨c', rfl, by rw [List.length_drop, hl, Nat.succ_mul]; omega, .inr ⟨g, o + 1, c', zs, by rw [Nat.succ_mul], ?_, ?_⟩⟩
    · rw [show o + 1 + n = o + (n + 1) by omega, show o + 1 + c' = o + (c' + 1) by omega]
      exact h2
    · rw [List.drop_drop, Nat.succ_mul]
end
/-- append onto it -/
theorem run_append_off {P : Program} {w : World} (base : Nat) (t ty e : TypeId) (i : TypeInfo) (z : Value) (size bytes : Nat) (ht : P.underlying t = some (.slice e)) (hi : P.info? e = some i) (hz : i.zero = some z)
    (hsize : i.size = size) (hby : i.bytes = bytes) (hzs : z.cells.size = size) (hsz : 0 < size)
    (v : Value) (n : Nat) (xs : List Value) (h : OwnO w base e size v n xs)
    (ad : Addr) (m c : Nat) (news : List Value) (hl : news.length = m * size) (hnews : ∀ j u, news[j]? = some u → w.cell? (ad.add j) = some u) (h1 : ∀ u ∈ news, u.oneCell' = true)
    (h63 : n + m ≤ maxLen) (hbytes : (n + m) * bytes ≤ 140737488355328) (hbase : base ≤ w.heap.size) :
    ∃ v' w', (Builtin.append_ #[t, t] ty #[v, .slice (some ad) m c]).run P w = .ok v' w' ∧ OwnO w' base e size v' (n + m) (xs ++ news) ∧ Step (foot v) w w' ∧ Fresh w (foot v) (foot v') := by
  rcases h.2 with ⟨rfl, rfl⟩ | ⟨g, o, cap, zs, rfl, h2, h3⟩
  · have hx : xs = [] := List.eq_nil_of_length_eq_zero (by simpa using h.1)
    subst hx
    obtain ⟨v', w', hr, r2, r3, _, r5⟩ := run_append_own_at (P := P) w base t ty e i z size bytes ht hi hz hsize hby hzs hsz _ 0 [] (World.ownsRow_nil w base e size) ad m c news hl hnews h1 h63 hbytes hbase
    refine ⟨v', w', hr, OwnO.of r2, (Step.refl _ _).grown r3 (fun k hk => .inl (mem_foot.2 hk)), fun k hk => ?_⟩
    rcases r5 with r5 | r5
    · exact .inl (by unfold foot; rw [← r5]; exact hk)
    · right
      have := mem_foot.1 hk
      rw [r5] at this
      cases this
      exact Nat.le_refl _
  · by_cases hroom : n + m ≤ cap
    · obtain ⟨ys, hy1, hy2⟩ := owns_widen h2 (show o + n ≤ o + (n + m) by omega) (by omega)
      have hth := owns_there hy1 ((o + n) * size) (m * size) (by rw [← Nat.add_mul]; exact Nat.mul_le_mul_right _ (by omega))
      have eoff : o * size + n * i.size = (o + n) * size := by rw [hsize, Nat.add_mul]
      have hrun := run_append_room_cells (P := P) w t ty e i ht hi g (o * size) n cap ad m c news (by rw [hsize]; exact hl) hnews h1 hroom
        (fun j hj => by rw [eoff]; exact (hth j (by omega)).1) (fun j hj => by rw [eoff]; exact (hth j (by omega)).2)
      rw [eoff] at hrun
      have h5 := owns_setCells news ((o + n) * size) w _ hy1
      have hyl : ys.length = (o + (n + m)) * size := hy1.1
      have hzl : zs.length = (o + n) * size := h2.1
      have e5 : setL ys ((o + n) * size) news = zs ++ news := by
        have h6 := setL_mid news zs (ys.drop ((o + n) * size)) [] (by rw [List.length_drop, hyl, hl, ← Nat.sub_mul]; congr 1; omega)
        rw [List.append_nil, List.append_nil, ← hy2, List.take_append_drop] at h6
        rw [hy2, hzl] at h6
        exact h6
      rw [e5] at h5
      refine ⟨_, _, hrun, ⟨by rw [List.length_append, h.1, hl, Nat.add_mul], .inr ⟨g, o, cap, zs ++ news, rfl, h5, ?_⟩⟩, (Step.refl _ w).setCells (.inl (by simp [foot, Value.ownBlock])) _ _, fun k hk => .inl (by simp [foot, Value.ownBlock] at hk ⊢; exact hk)⟩
      rw [List.drop_append_of_le_length (by rw [hzl]; exact Nat.mul_le_mul_right _ (by omega)), h3]
    · obtain ⟨v', w', hr, r2, r3⟩ := run_append_arg_grows (P := P) w t ty e i z size bytes ht hi hz hsize hby hzs hsz ⟨g, o * size, none⟩ n cap xs h.1 (h.cell _ _ _ rfl) ad m c news hl hnews (by omega) h63 hbytes
      exact ⟨v', w', hr, OwnO.of (owns_low r2 hbase), ((Step.refl [] w).grown r3 (fun k hk => by cases hk)).mono (by simp), fun k hk => .inr (owns_base r2 k hk)⟩
theorem step_append_off {P : Program} {ops : Array Oper} {o : Oper} {a : Act} {w : World} {K : Act → World → Prop} {Q : Exit → Act → World → Prop} {E : Prop}
    (hg : o.guard = none) (s x : Operand) (t : TypeId) (hop : o.op = Op.call { callee := Callee.builtin Builtin.append, args := #[s, x], argTypes := #[t, t] })
    (base : Nat) (e : TypeId) (i : TypeInfo) (z : Value) (size bytes : Nat) (h1 : P.underlying t = some (.slice e)) (h2 : P.info? e = some i) (h3 : i.zero = some z) (h4 : i.size = size) (h5 : i.bytes = bytes) (h6 : z.cells.size = size) (h7 : 0 < size)
    (v : Value) (n : Nat) (xs : List Value) (hs : a.eval s = v) (hown : OwnO w base e size v n xs)
    (ad : Addr) (m c : Nat) (news : List Value) (hx : a.eval x = .slice (some ad) m c) (hn : news.length = m * size) (hc : ∀ j u, news[j]? = some u → w.cell? (ad.add j) = some u) (h1c : ∀ u ∈ news, u.oneCell' = true)
    (b1 : n + m ≤ maxLen) (b2 : (n + m) * bytes ≤ 140737488355328) (hbase : base ≤ w.heap.size)
    (hK : ∀ v' w', OwnO w' base e size v' (n + m) (xs ++ news) → Step (foot v) w w' → Fresh w (foot v) (foot v') → K (a.put o.dst v') w') :
    if Region.wanted o (yielded ops a.tmps) = true then Oper.wp P o a w K Q else E := by
  have hw : Region.wanted o (yielded ops a.tmps) = true := by simp [Region.wanted, hg]
  rw [if_pos hw]
  obtain ⟨v', w', hr, r2, r3, r4⟩ := run_append_off (P := P) base t o.type e i z size bytes h1 h2 h3 h4 h5 h6 h7 v n xs hown ad m c news hn hc h1c b1 b2 hbase
  unfold Oper.wp execOp
  simp only [hop, resolve, invoke, builtin, Sem.run_bind, Sem.run_pure, Result.andThen_ok, List.map_toArray, List.map_cons, List.map_nil, hs, hx, hr]
  exact hK v' w' r2 r3 r4
theorem wpList_append_off {P : Program} {w : World} {ops : Array Oper} {rest : List Oper} {o : Oper} {a : Act} {Q : Exit → Act → World → Prop} (hgd : o.guard = none) (s x : Operand) (t : TypeId)
    (ho : o.op = .call { callee := .builtin .append, args := #[s, x], argTypes := #[t, t] })
    (base : Nat) (e : TypeId) (i : TypeInfo) (z : Value) (size bytes : Nat) (ht : P.underlying t = some (.slice e)) (hi : P.info? e = some i) (hz : i.zero = some z)
    (hsize : i.size = size) (hby : i.bytes = bytes) (hzs : z.cells.size = size) (hsz : 0 < size)
    (v : Value) (n : Nat) (xs : List Value) (hs : a.eval s = v) (hown : OwnO w base e size v n xs)
    (ad : Addr) (m c : Nat) (news : List Value) (hx : a.eval x = .slice (some ad) m c) (hl : news.length = m * size) (hnews : ∀ j u, news[j]? = some u → w.cell? (ad.add j) = some u) (h1 : ∀ u ∈ news, u.oneCell' = true)
    (h63 : n + m ≤ maxLen) (hbytes : (n + m) * bytes ≤ 140737488355328) (hbase : base ≤ w.heap.size)
    (h : ∀ v' w', OwnO w' base e size v' (n + m) (xs ++ news) → Step (foot v) w w' → Fresh w (foot v) (foot v') → wpList P ops Q rest (a.put o.dst v') w') :
    wpList P ops Q (o :: rest) a w := by
  refine wpList_plain hgd fun K hK => ?_
  obtain ⟨v', w', hr, h2, h3, h4⟩ := run_append_off (P := P) base t o.type e i z size bytes ht hi hz hsize hby hzs hsz v n xs hown ad m c news hl hnews h1 h63 hbytes hbase
  unfold Oper.wp execOp
  simp only [ho, resolve, invoke, builtin, Sem.run_bind, Sem.run_pure, Result.andThen_ok, List.map_toArray, List.map_cons, List.map_nil, hs, hx, hr]
  exact hK _ _ (h v' w' h2 h3 h4)
theorem OwnO.form {w : World} {base e size n : Nat} {v : Value} {xs : List Value} (h : OwnO w base e size v n xs) (hn : 0 < n) : ∃ g o cap, v = .slice (some ⟨g, o * size, none⟩) n cap ∧ n ≤ cap ∧ cap ≤ maxLen := by
  rcases h.2 with ⟨_, h0⟩ | ⟨g, o, cap, zs, hv, h2, h3⟩
  · omega
  · rcases h2.2 with ⟨h7, _⟩ | ⟨g2, c2, cur, h7, _, _, h8, h9, _⟩
    · cases h7
    · injection h7 with _ _ h10
      exact ⟨g, o, cap, hv, by omega, by omega⟩
end Go.Proofs.Ytminpglkipnhcaa
end

section
namespace Go.Proofs.Ytminpglkipnhcaa
set_option linter.unusedVariables false
open Go.RowKit
def Both (Φ Ψ : World → List Nat → Prop) (w : World) (F : List Nat) : Prop := ∃ A B, F = A ++ B ∧ Φ w A ∧ Ψ w B ∧ Dj A B
section
variable {w1 w w' : World} {Φ Φ' Ψ Ψ' : World → List Nat → Prop} {XO : List (Nat × Obj)}
theorem both_stb (h : Stb Φ) (h' : Stb Ψ) : Stb (Both Φ Ψ) := by
  rintro w w' F H ⟨A, B, rfl, ha, hb, hd⟩ hs hdj
  exact ⟨A, B, rfl, h _ _ _ _ ha hs (fun k hk => hdj k (List.mem_append_left _ hk)), h' _ _ _ _ hb hs (fun k hk => hdj k (List.mem_append_right _ hk)), hd⟩
/-- an act on the first one -/
theorem Kept.left (h : Kept w1 (Both Φ Ψ) XO w) (hΨ : Stb Ψ) : ∃ A, Φ w A ∧ (∀ k, k ∈ A → w1.heap.size ≤ k ∧ k < w.heap.size) ∧
    ∀ (w' : World) (A' : List Nat) (Φ' : World → List Nat → Prop), Step A w w' → Fresh w A A' → (∀ k, k ∈ A' → k < w'.heap.size) → Φ' w' A' → Kept w1 (Both Φ' Ψ) XO w' := by
  obtain ⟨F, ⟨A, B, rfl, ha, hb, hd⟩, hF, hx⟩ := h.open
  refine ⟨A, ha, fun k hk => hF k (List.mem_append_left _ hk), fun w' A' Φ' hs hf hl hΦ' => ?_⟩
  have hb' := hΨ _ _ _ _ hb hs (fun k hk hm => hd k hm hk)
  refine h.op (F := A ++ B) (F' := A' ++ B) ⟨A, B, rfl, ha, hb, hd⟩ hF hx (hs.mono (fun k hk => List.mem_append_left _ hk)) (fun k hk => ?_) (fun k hk => ?_) ⟨A', B, rfl, hΦ', hb', fun k hk hm => ?_⟩
  · rcases List.mem_append.1 hk with hk | hk
    · rcases hf k hk with h1 | h1
      · exact .inl (List.mem_append_left _ h1)
      · exact .inr h1
    · exact .inl (List.mem_append_right _ hk)
  · rcases List.mem_append.1 hk with hk | hk
    · exact hl k hk
    · exact Nat.lt_of_lt_of_le (hF k (List.mem_append_right _ hk)).2 hs.size
  · rcases hf k hk with h1 | h1
    · exact hd k h1 hm
    · have := (hF k (List.mem_append_right _ hm)).2
      omega
/-- an act on the second one -/
theorem Kept.right (h : Kept w1 (Both Φ Ψ) XO w) (hΦ : Stb Φ) : ∃ B, Ψ w B ∧ (∀ k, k ∈ B → w1.heap.size ≤ k ∧ k < w.heap.size) ∧
    ∀ (w' : World) (B' : List Nat) (Ψ' : World → List Nat → Prop), Step B w w' → Fresh w B B' → (∀ k, k ∈ B' → k < w'.heap.size) → Ψ' w' B' → Kept w1 (Both Φ Ψ') XO w' := by
  obtain ⟨F, ⟨A, B, rfl, ha, hb, hd⟩, hF, hx⟩ := h.open
  refine ⟨B, hb, fun k hk => hF k (List.mem_append_right _ hk), fun w' B' Ψ' hs hf hl hΨ' => ?_⟩
  have ha' := hΦ _ _ _ _ ha hs (fun k hk hm => hd k hk hm)
  refine h.op (F := A ++ B) (F' := A ++ B') ⟨A, B, rfl, ha, hb, hd⟩ hF hx (hs.mono (fun k hk => List.mem_append_right _ hk)) (fun k hk => ?_) (fun k hk => ?_) ⟨A, B', rfl, ha', hΨ', fun k hk hm => ?_⟩
  · rcases List.mem_append.1 hk with hk | hk
    · exact .inl (List.mem_append_left _ hk)
    · rcases hf k hk with h1 | h1
      · exact .inl (List.mem_append_right _ h1)
      · exact .inr h1
  · rcases List.mem_append.1 hk with hk | hk
    · exact Nat.lt_of_lt_of_le (hF k (List.mem_append_left _ hk)).2 hs.size
    · exact hl k hk
  · rcases hf k hm with h1 | h1
    · exact hd k hk h1
    · have := (hF k (List.mem_append_left _ hk)).2
      omega
end
end Go.Proofs.Ytminpglkipnhcaa
end

section
namespace Go.Proofs.Ytminpglkipnhcaa
set_option linter.unusedVariables false
set_option linter.unusedSimpArgs false
open Go.RowKit
attribute [local go_sem ↓] exec_load_m exec_store_m
attribute [local go_sem] Try.load_m row_drew Try.store_m
def wC (p : Int × Int) : List Value := [.int .i64 p.1, .int .i64 p.2]
theorem wC_len (p : Int × Int) : (wC p).length = 2 := rfl
def flatP (L : List (Int × Int)) : List Value := L.flatMap wC
/-- the law's model: messages X, walls P -/
structure Md (w : World) (base mb : Nat) (xv pv : Value) (X : List Ms) (P : List (Int × Int)) : Prop where
  blk : Blk w mb #[xv, pv] 41
  own : OwnO w base 31 11 xv X.length (flatM X)
  wal : w.ownsRow base 65 2 pv P.length (flatP P)
  low : base ≤ mb
  ap1 : mb ∉ foot xv
  ap2 : mb ∉ foot pv
  ap3 : Dj (foot xv) (foot pv)
  few : X.length ≤ 65
  fewp : P.length ≤ 200
def footM (mb : Nat) (xv pv : Value) : List Nat := mb :: (foot xv ++ foot pv)
section
variable {w w' : World} {base mb : Nat} {xv pv : Value} {X : List Ms} {P : List (Int × Int)} {F : List Nat}
theorem Md.step (h : Md w base mb xv pv X P) (hs : Step F w w') (hd : Dj (footM mb xv pv) F) : Md w' base mb xv pv X P :=
  ⟨h.blk.step hs (hd mb List.mem_cons_self), h.own.step hs (fun k hk => hd k (by simp [footM, hk])), owns_step h.wal hs (fun k hk => hd k (by simp [footM, hk])), h.low, h.ap1, h.ap2, h.ap3, h.few, h.fewp⟩
theorem Md.step0 (h : Md w base mb xv pv X P) (hs : Step [] w w') : Md w' base mb xv pv X P := h.step hs (fun k _ => List.not_mem_nil)
theorem Md.live (h : Md w base mb xv pv X P) : ∀ k, k ∈ footM mb xv pv → base ≤ k ∧ k < w.heap.size := by
  intro k hk
  simp only [footM, List.mem_cons, List.mem_append] at hk
  rcases hk with rfl | hk | hk
  · exact ⟨h.low, h.blk.lt⟩
  · exact h.own.low k hk
  · exact foot_lt h.wal k hk
/-- other messages are stored -/
theorem Md.stored {w8 : World} {xv8 : Value} {X8 : List Ms} (h : Md w base mb xv pv X P) (hs : Step (foot xv) w w8) (ho : OwnO w8 base 31 11 xv8 X8.length (flatM X8)) (hf : Fresh w (foot xv) (foot xv8)) (hfew : X8.length ≤ 65) :
    Md (w8.setCell ⟨mb, 0, none⟩ xv8) base mb xv8 pv X8 P ∧ Step (footM mb xv pv) w (w8.setCell ⟨mb, 0, none⟩ xv8) ∧ Fresh w (footM mb xv pv) (footM mb xv8 pv) := by
  have hst : Step [mb] w8 (w8.setCell ⟨mb, 0, none⟩ xv8) := (Step.refl [mb] w8).setCell (.inl (by simp)) 0 _
  have hmb : mb ∉ foot xv8 := fun hk => by
    rcases hf _ hk with h1 | h1
    · exact h.ap1 h1
    · have := h.blk.lt
      omega
  refine ⟨⟨(h.blk.step hs h.ap1).set 0 _, ho.step hst (fun k hk hm => by simp at hm; subst hm; exact hmb hk), owns_step (owns_step h.wal hs (fun k hk hm => h.ap3 k hm hk)) hst (fun k hk hm => by simp at hm; subst hm; exact h.ap2 hk), h.low, hmb, h.ap2, fun k hk hm => ?_, hfew, h.fewp⟩, (hs.mono (fun k hk => by simp [footM, hk])).then hst (fun k hk => .inl (by simp at hk; simp [footM, hk])), fun k hk => ?_⟩
  · rcases hf k hk with h1 | h1
    · exact h.ap3 k h1 hm
    · have := (foot_lt h.wal k hm).2
      omega
  · simp only [footM, List.mem_cons, List.mem_append] at hk ⊢
    rcases hk with rfl | hk | hk
    · exact .inl (.inl rfl)
    · rcases hf k hk with h1 | h1
      · exact .inl (.inr (.inl h1))
      · exact .inr h1
    · exact .inl (.inr (.inr hk))
def MdPost (base mb : Nat) (xv pv : Value) (X : List Ms) (P : List (Int × Int)) (w w' : World) : Prop := ∃ xv', Md w' base mb xv' pv X P ∧ Step (footM mb xv pv) w w' ∧ Fresh w (footM mb xv pv) (footM mb xv' pv)
set_option maxRecDepth 20000 in
set_option maxHeartbeats 2000000 in
theorem mput_any (x : Ms) (w : World) (h : Md w base mb xv pv X P) (h64 : X.length ≤ 64) :
    Calls Try.prog 27 #[.pointer (some ⟨mb, 0, none⟩), .agg (msC x).toArray] w fun e w' => e = .returned (.tuple #[]) ∧ MdPost base mb xv pv (putL X x) P w w' := by
  obtain ⟨i0, hi0, hz0, hz1, hz2⟩ := infoM_parts
  have HI := Lib.hid (And.intro hi0 (And.intro hz0 (And.intro hz1 hz2)))
  have hmx := Blk.new w (msC x).toArray 31
  have hsx := (Step.refl [] w).alloc (.cells (msC x).toArray 31)
  have h1 := h.step0 hsx
  obtain ⟨b1, hb1⟩ : ∃ b, w.heap.size = b := ⟨_, rfl⟩
  obtain ⟨W, hW⟩ : ∃ W, w.alloc (.cells (msC x).toArray 31) = W := ⟨_, rfl⟩
  have HW := Lib.hid (And.intro hW hb1)
  rw [hW] at hmx hsx h1
  rw [hb1] at hmx
  have c0 := h1.blk.cell 0
  simp only [List.getElem?_toArray, List.getElem?_cons_zero] at c0
  have hltm := h1.blk.lt
  have HH := Lib.hid h1
  have HS := Lib.hid hsx
  have HM := Lib.hid hmx
  clear h h1 hsx hmx hi0 hz0 hz1 hz2 hW hb1
  obtain ⟨PL, hPL⟩ : ∃ PL, putL X x = PL := ⟨_, rfl⟩
  have HPL := Lib.hid hPL
  rw [hPL]
  clear hPL
  go_enter Try.func27, Try.ntmps27
  go_wp2_with fail
  rw [HW.out.1, HW.out.2]
  have hne0 : Nonempty (ClsW (fun _ => True)) := ⟨⟨W, trivial⟩⟩
  have hne : Nonempty (ClsW (Step [] W.drew)) := ⟨⟨_, Step.refl _ _⟩⟩
  have d0 : ∀ y : ClsW (Step [] W.drew), y.val.cell? ⟨mb, 0, none⟩ = some xv := fun y => (y.ok.cell hltm (by simp)).trans c0
  have d1 : ∀ y : ClsW (Step [] W.drew), rowC y.val b1 0 11 = some (msC x) := fun y => msg_row ((HM.out.drew).step y.ok (by simp))
  refine wp_region_prt sp0_law 4 7 (by kernel_rfl) (by kernel_rfl) (fun c a d v w h => by cases d <;> exact h) ?_
  simp only [List.take_succ_cons, List.take_zero, List.drop_succ_cons, List.drop_zero]
  repeat (go_big_quiet_step (fail))
  refine wpQuiet_nil ?_
  refine wpR_pre sp0_law anti_tail 2 _ _ _ ?_ rfl
  simp only [List.take_succ_cons, List.take_zero, List.drop_succ_cons, List.drop_zero]
  repeat (go_big_quiet_step (fail))
  refine wpQuiet_nil ?_
  refine wpR_make sp0_law anti_tail (SpB W.heap.size x) (by rfl) (fun w1 hg => ⟨.slice (some ⟨w1.heap.size, 0, none⟩) 1 1, w1.alloc (.cells (msC x).toArray 31), by rw [execOp_oneBig]; simp [Act.eval, one_m, oVal], (Step.refl [] w1).alloc _, ⟨_, rfl, Blk.new _ _ _, hg.size⟩⟩) (spB_step _ _) ?_
  rintro v10 ⟨w10, hg10, b10, rfl, -, -⟩
  go_simp
  unfold wpR
  rintro w7 hs7 ⟨b10', hb10', hblk10, hlow10⟩
  have hbb : b10 = b10' := by simpa using hb10'
  subst hbb
  have hs70 : Step [] W w7 := (Step.refl [] W).drew.then hs7 (by simp)
  have hH7 := HH.out.step0 hs70
  refine wpList_append_off rfl (.tmp 8) (.tmp 10) 38 rfl base 31 i0 _ 11 136 Try.underlying38 HI.out.1 HI.out.2.1 HI.out.2.2.1 HI.out.2.2.2 rfl (by decide) xv X.length (flatM X) rfl hH7.own ⟨b10, 0, none⟩ 1 1 (msC x) rfl rfl (fun j u hu => by rw [Go.Proofs.Ytminpglkipnhcaa.add_plain, hblk10.cell]; simpa using hu) (msC_one x) (by unfold maxLen; omega) (by omega) (by have := hH7.low; have := hH7.blk.lt; omega) ?_
  intro v8 w8 ho8 hst8 hf8
  have ho8' : OwnO w8 base 31 11 v8 (X ++ [x]).length (flatM (X ++ [x])) := by
    rw [List.length_append]
    unfold flatM at ho8 ⊢
    rw [flatF_app]
    simpa using ho8
  obtain ⟨hN, hS, hFr⟩ := hH7.stored hst8 ho8' hf8 (by simp; omega)
  obtain ⟨g, o, cap, hv8, hcap1, hcap2⟩ := ho8'.form (by simp)
  have hlen : (X ++ [x]).length = X.length + 1 := by simp
  rw [hlen] at hv8 hcap1
  subst hv8
  have k0 := (hH7.blk.step hst8 hH7.ap1).cell 0
  have kf := (hH7.blk.step hst8 hH7.ap1).free 0
  simp only [List.getElem?_toArray, List.getElem?_cons_zero] at k0
  have hST : Step (footM mb xv pv) w (w8.setCell ⟨mb, 0, none⟩ (.slice (some ⟨g, o * 11, none⟩) (X.length + 1) cap)) := ((HS.out.then hs70 (by simp)).mono (by simp)).then hS (fun k hk => .inl hk)
  have hFR : Fresh w (footM mb xv pv) (footM mb (.slice (some ⟨g, o * 11, none⟩) (X.length + 1) cap) pv) := fun k hk => by
    rcases hFr k hk with h1 | h1
    · exact .inl h1
    · exact .inr (by have := HS.out.size; have := hs70.size; omega)
  have HP := Lib.hid (And.intro hN (And.intro hST hFR))
  obtain ⟨m, hm⟩ : ∃ m, X.length = m := ⟨_, rfl⟩
  have HML := Lib.hid hm
  rw [hm] at HP h64 hcap1 ⊢
  clear hN hST hFR hS hFr ho8 ho8' hf8 hst8 hH7 hs70 hs7 hblk10 hlow10 d0 d1 hne hne0 c0 hlen hb10' hg10 hm
  by_cases h5 : m = 64
  · subst h5
    have hp : putL X x = (X ++ [x]).drop 1 := by
      rw [putL_of_ge (by rw [HML.out]; omega)]
      cases X <;> simp
    have hl2 : (X ++ [x]).length = 65 := by rw [List.length_append, HML.out]; rfl
    have ho := HP.out.1.own
    rw [hl2] at ho
    obtain ⟨cap', rfl, ht⟩ := ho.tail
    have hpl : PL = (X ++ [x]).drop 1 := by rw [← HPL.out, hp]
    have hl3 : ((X ++ [x]).drop 1).length = 64 := by rw [List.length_drop, hl2]
    have e1 : (flatM (X ++ [x])).drop 11 = flatM ((X ++ [x]).drop 1) := (flatF_drop msC_len (X ++ [x]) 1).symm
    rw [e1] at ht
    obtain ⟨hN9, hS9, hF9⟩ := HP.out.1.stored (X8 := (X ++ [x]).drop 1) (xv8 := .slice (some ⟨g, o * 11 + 11, none⟩) 64 cap') ((Step.refl [] _).mono (by simp)) (by rw [hl3]; exact ht) (fun k hk => .inl (by simp [foot, Value.ownBlock] at hk ⊢; exact hk)) (by rw [hl3]; omega)
    have HF := Lib.hid (show MdPost base mb xv pv PL P w _ from ⟨_, by rw [hpl]; exact hN9, HP.out.2.1.then hS9 (fun k hk => HP.out.2.2 k hk), fun k hk => by
      rcases hF9 k hk with h1 | h1
      · exact HP.out.2.2 k h1
      · exact .inr (Nat.le_trans HP.out.2.1.size h1)⟩)
    have c8 := HP.out.1.blk.cell 0
    have f8 := HP.out.1.blk.free 0
    simp only [List.getElem?_toArray, List.getElem?_cons_zero] at c8
    have q1 : (65 : Int) ≤ (cap' : Int) + 1 := by omega
    have q2 : (1 : Int) ≤ (cap' : Int) + 1 := by omega
    have q3 : ¬ (cap' : Int) + 1 = 1 := by omega
    have q4 : ¬ cap' = 0 := by omega
    have q5 : cap' + 1 - 1 = cap' := by omega
    clear hp hl2 ho ht hpl hl3 e1 hN9 hS9 hF9 hcap1 hcap2
    go_wp2_with fail
    go_end0
    refine ⟨rfl, ?_⟩
    exact HF.out
  · have hp : PL = X ++ [x] := by rw [← HPL.out, putL_of_lt (by rw [HML.out]; omega)]
    have HF := Lib.hid (show MdPost base mb xv pv PL P w _ from ⟨_, by rw [hp]; exact HP.out.1, HP.out.2.1, HP.out.2.2⟩)
    have q1 : ¬ (64 : Int) < (m : Int) + 1 := by omega
    have q2 : ¬ 64 < m + 1 := by omega
    clear hp
    go_wp2_with fail
    go_end0
    exact ⟨rfl, HF.out⟩
end
end Go.Proofs.Ytminpglkipnhcaa
end

section
namespace Go.Proofs.Ytminpglkipnhcaa
set_option linter.unusedVariables false
set_option linter.unusedSimpArgs false
open Go.RowKit
attribute [local go_sem ↓] exec_load_m exec_store_m
attribute [local go_sem] Try.load_m row_drew Try.store_m
section
variable {base mb : Nat} {xv pv : Value} {X : List Ms} {P : List (Int × Int)}
/-- a new slice, empty, and its block -/
def SpE (B : Nat) (v : Value) (w : World) : Prop := ∃ b, v = .slice (some ⟨b, 0, none⟩) 0 0 ∧ Blk w b #[] 31 ∧ B ≤ b
theorem spE_step (B : Nat) : ∀ v w w', SpE B v w → Step [] w w' → SpE B v w' := by
  rintro v w w' ⟨b, h1, h2, h3⟩ hs
  exact ⟨b, h1, h2.step hs (by simp), h3⟩
theorem oVal_append {P : Program} {o : Oper} {a : Act} {w w' : World} {v' : Value} (s x : Operand) (t : TypeId) (hop : o.op = Op.call { callee := Callee.builtin Builtin.append, args := #[s, x], argTypes := #[t, t] }) (hrun : (Builtin.append_ #[t, t] o.type #[a.eval s, a.eval x]).run P w = .ok v' w') :
    oVal ((execOp a.eval o).run P w) = some (v', w') := by
  unfold execOp
  simp [hop, resolve, invoke, builtin, hrun, oVal, Result.andThen]
/-- the first part of a row, anew; or the empty slice, as it was -/
def SpH (B b5 i : Nat) (X : List Ms) (v : Value) (w : World) : Prop := (i = 0 ∧ v = .slice (some ⟨b5, 0, none⟩) 0 0) ∨ w.ownsRow B 31 11 v i (flatM (X.take i))
theorem spH_step (B b5 i : Nat) (X : List Ms) : ∀ v w w', SpH B b5 i X v w → Step [] w w' → SpH B b5 i X v w' := by
  rintro v w w' (h | h) hs
  · exact .inl h
  · exact .inr (owns_step h hs (by simp))
theorem SpH.row {B b5 i : Nat} {v : Value} {w : World} (h : SpH B b5 i X v w) (hb : Blk w b5 #[] 31) (hlo : B ≤ b5) : w.ownsRow B 31 11 v i (flatM (X.take i)) := by
  rcases h with ⟨rfl, rfl⟩ | h
  · exact ⟨rfl, .inr ⟨b5, 0, #[], rfl, hlo, hb, Nat.le_refl _, Nat.zero_le _, rfl, rfl⟩⟩
  · exact h
theorem owns_sl {w : World} {B e m n : Nat} {v : Value} {xs : List Value} (h : w.ownsRow B e m v n xs) : ∃ a c, v = .slice a n c := by
  rcases h.2 with ⟨rfl, h0⟩ | ⟨g, c, cur, rfl, _⟩
  · exact ⟨none, 0, by rw [h0]⟩
  · exact ⟨_, _, rfl⟩
theorem erase_flat (X : List Ms) (i : Nat) : flatM (X.take i) ++ flatM (X.drop (i + 1)) = flatM (X.eraseIdx i) := by
  rw [List.eraseIdx_eq_take_drop_succ]
  exact (flatF_app _ _).symm
/-- the end: what was appended is stored -/
theorem cut_end {w w7 w8 : World} {v20 v12 : Value} {i N m : Nat} (h : Md w base mb xv pv X P) (hN : X.length = N) (hi : i < N) (hm : i + m = N - 1) (hs : Step [] w w7) (h12 : w7.ownsRow w.heap.size 31 11 v12 i (flatM (X.take i)))
    (ho : w8.ownsRow w.heap.size 31 11 v20 (i + m) (flatM (X.take i) ++ flatM (X.drop (i + 1)))) (hg : w7.grownBy w8 v12.ownBlock) :
    MdPost base mb xv pv (X.eraseIdx i) P w (w8.setCell ⟨mb, 0, none⟩ v20) ∧ w8.cell? ⟨mb, 0, none⟩ = some xv ∧ w8.frozen? ⟨mb, 0, none⟩ = false := by
  have hs8 : Step [] w w8 := hs.grown hg (fun k hk => .inr (owns_base h12 k (mem_foot.2 hk)))
  rw [erase_flat] at ho
  have hl : (X.eraseIdx i).length = i + m := by rw [List.length_eraseIdx, hN, if_pos hi, hm]
  have hlow : base ≤ w.heap.size := by have := h.low; have := h.blk.lt; omega
  obtain ⟨k1, k2, k3⟩ := h.stored (X8 := X.eraseIdx i) (xv8 := v20) (hs8.mono (by simp)) (by rw [hl]; exact OwnO.of (owns_low ho hlow)) (fun k hk => .inr (owns_base ho k hk)) (by have := h.few; omega)
  have hb := h.blk.step hs8 (by simp)
  have c0 := hb.cell 0
  simp only [List.getElem?_toArray, List.getElem?_cons_zero] at c0
  exact ⟨⟨_, k1, k2, k3⟩, c0, hb.free 0⟩
theorem head_made {w : World} {i0 : TypeInfo} {B b5 g o N cap i : Nat} (h1 : Try.prog.info? 31 = some i0) (h2 : i0.zero = some (msV ms0)) (h3 : i0.size = 11) (h4 : i0.bytes = 136) (hB : B ≤ w.heap.size) (hi : i < N) (hN : X.length = N) (h65 : N ≤ 65)
    (hc : ∀ j u, (flatM X)[j]? = some u → w.cell? (Addr.add ⟨g, o, none⟩ j) = some u) : ∃ v' w', (∀ ty, (Builtin.append_ #[38, 38] ty #[.slice (some ⟨b5, 0, none⟩) 0 0, .slice (some ⟨g, o, none⟩) i cap]).run Try.prog w = .ok v' w') ∧ Step [] w w' ∧ SpH B b5 i X v' w' := by
  have hl : ((flatM X).take (i * 11)).length = i * 11 := by rw [List.length_take, flatM_len, hN]; omega
  have hnews : ∀ j u, ((flatM X).take (i * 11))[j]? = some u → w.cell? (Addr.add ⟨g, o, none⟩ j) = some u := fun j u hu => by
    rw [List.getElem?_take] at hu
    split at hu
    · exact hc j u hu
    · cases hu
  by_cases h0 : i = 0
  · subst h0
    refine ⟨_, _, fun ty => run_append_room_cells (P := Try.prog) w 38 ty 31 i0 Try.underlying38 h1 b5 0 0 0 ⟨g, o, none⟩ 0 cap [] (by simp) (fun j u hu => by simp at hu) (fun u hu => by cases hu) (Nat.le_refl _) (fun j hj => by simp at hj) (fun j hj => by simp at hj), Step.refl _ _, .inl ⟨rfl, rfl⟩⟩
  · obtain ⟨v', w', hr, r2, r3⟩ := run_append_arg_grows (P := Try.prog) w 38 38 31 i0 (msV ms0) 11 136 Try.underlying38 h1 h2 h3 h4 rfl (by decide) ⟨b5, 0, none⟩ 0 0 [] rfl (fun j u hu => by simp at hu) ⟨g, o, none⟩ i cap _ hl hnews (by omega) (by unfold maxLen; omega) (by omega)
    refine ⟨v', w', fun ty => hr, (Step.refl [] w).grown r3 (fun k hk => by cases hk), .inr ?_⟩
    rw [List.nil_append, Nat.zero_add] at r2
    have e : (flatM X).take (i * 11) = flatM (X.take i) := (flatF_take msC_len X i).symm
    rw [e] at r2
    exact owns_low r2 hB
set_option maxRecDepth 20000 in
set_option maxHeartbeats 2000000 in
theorem mcut_any (i : Nat) (w : World) (h : Md w base mb xv pv X P) (hi : i < X.length) :
    Calls Try.prog 28 #[.pointer (some ⟨mb, 0, none⟩), .int .i64 (i : Int)] w fun e w' => e = .returned (.tuple #[]) ∧ MdPost base mb xv pv (X.eraseIdx i) P w w' := by
  obtain ⟨g, o, cap, rfl, hc1, hc2⟩ := h.own.form (by omega)
  obtain ⟨i0, hi0, hz0, hz1, hz2⟩ := infoM_parts
  have HI := Lib.hid (And.intro hi0 (And.intro hz0 (And.intro hz1 hz2)))
  have c0 := h.blk.cell 0
  simp only [List.getElem?_toArray, List.getElem?_cons_zero] at c0
  have hlt := h.blk.lt
  have hfew := h.few
  obtain ⟨N, hN⟩ : ∃ N, X.length = N := ⟨_, rfl⟩
  have HN := Lib.hid hN
  rw [hN] at c0 hi hc1 hfew
  have HH := Lib.hid h
  have q1 : (0 : Int) ≤ (i : Int) := by omega
  have q2 : (i : Int) ≤ (cap : Int) := by omega
  have q3 : (i : Int) ≤ (N : Int) := by omega
  have q4 : (i : Int) + 1 ≤ (N : Int) := by omega
  have q5 : (N : Int) ≤ (cap : Int) := by omega
  have q6 : (0 : Int) ≤ (i : Int) + 1 := by omega
  have q7 : (i : Int) + 1 ≤ (cap : Int) := by omega
  have e1 : IntKind.i64.wrap ((i : Int) + 1) = (i : Int) + 1 := by rw [IntKind.wrap_i64]; omega
  clear h hi0 hz0 hz1 hz2 hN
  go_enter Try.func28, Try.ntmps28
  go_wp2_with fail
  have hne : Nonempty (ClsW (Step [] w.drew)) := ⟨⟨_, Step.refl _ _⟩⟩
  have d0 : ∀ y : ClsW (Step [] w.drew), y.val.cell? ⟨mb, 0, none⟩ = some (.slice (some ⟨g, o * 11, none⟩) N cap) := fun y => (y.ok.cell hlt (by simp)).trans c0
  have hne0 : Nonempty (ClsW (fun _ => True)) := ⟨⟨w, trivial⟩⟩
  refine wp_region_prt sp0_law 1 16 (by kernel_rfl) (by kernel_rfl) (fun c a d v w h => by cases d <;> exact h) ?_
  simp only [List.take_succ_cons, List.take_zero, List.drop_succ_cons, List.drop_zero]
  repeat (go_big_quiet_step (fail))
  refine wpQuiet_nil ?_
  refine wpR_make sp0_law anti_tail (SpE w.heap.size) (by rfl) (fun w1 hg => ⟨.slice (some ⟨w1.heap.size, 0, none⟩) 0 0, w1.alloc (.cells #[] 31), by kernel_rfl, (Step.refl [] w1).alloc _, ⟨_, rfl, Blk.new _ _ _, hg.size⟩⟩) (spE_step _) ?_
  rintro v5 ⟨w5, hg5, b5, rfl, -, -⟩
  refine wpR_pre sp0_law anti_tail 6 _ _ _ ?_ rfl
  simp only [List.take_succ_cons, List.take_zero, List.drop_succ_cons, List.drop_zero]
  go_simp
  repeat (go_big_quiet_step (fail))
  refine wpQuiet_nil ?_
  have hcell : ∀ w1, Step [] w.drew w1 → ∀ j u, (flatM X)[j]? = some u → w1.cell? (Addr.add ⟨g, o * 11, none⟩ j) = some u := fun w1 hg => by
    have h1 := (HH.out.own.step ((Step.refl [] w).drew.then hg (by simp)) (by simp)).cell _ _ _ rfl
    exact h1
  have HCE := Lib.hid hcell
  clear hcell
  refine wpR_make sp0_law anti_tail (SpH w.heap.size b5 i X) (by rfl) (fun w1 hg => ?_) (spH_step _ _ _ _) ?_
  · obtain ⟨v', w', k1, k2, k3⟩ := head_made (X := X) (B := w.heap.size) (b5 := b5) (cap := cap) HI.out.1 HI.out.2.1 HI.out.2.2.1 HI.out.2.2.2 hg.size hi HN.out hfew (HCE.out w1 hg)
    exact ⟨v', w', oVal_append (.tmp 5) (.tmp 11) 38 rfl (k1 _), k2, k3⟩
  rintro v12 ⟨w12, hg12, hv12⟩
  clear hv12 hg12 w12 hg5 w5
  have hm2 : N - (i + 1) + (i + 1) = N := by omega
  by_cases hci : cap = i + 1
  · subst hci
    obtain rfl : N = i + 1 := by omega
    refine wpR_pre sp0_law anti_tail 7 _ _ _ ?_ rfl
    simp only [List.take_succ_cons, List.take_zero, List.drop_succ_cons, List.drop_zero]
    go_simp
    repeat (go_big_quiet_step (fail))
    refine wpQuiet_nil ?_
    unfold wpR
    rintro w7 hs7 ⟨⟨b5', hb5', hbl5, hlo5⟩, hv12⟩
    obtain rfl : b5 = b5' := by simpa using hb5'
    have hs70 : Step [] w w7 := (Step.refl [] w).drew.then hs7 (by simp)
    have h12 := hv12.row hbl5 hlo5
    have hnil : flatM (X.drop (i + 1)) = [] := by rw [List.drop_of_length_le (by rw [HN.out]; omega)]; rfl
    refine wpList_append_own_any rfl (.tmp 12) (.tmp 19) 38 rfl w.heap.size 31 i0 _ 11 136 Try.underlying38 HI.out.1 HI.out.2.1 HI.out.2.2.1 HI.out.2.2.2 rfl (by decide) v12 i _ rfl h12 (some ⟨g, o * 11, none⟩) 0 0 [] rfl (fun h => by cases h) rfl (fun ad he j u hu => by simp at hu) (fun u hu => by cases hu) (by unfold maxLen; omega) (by omega) hs70.size ?_
    intro v20 w8 ho8 hg8
    obtain ⟨a20, c20, rfl⟩ := owns_sl ho8
    obtain ⟨k1, k2, k3⟩ := cut_end HH.out HN.out hi (m := 0) (by omega) hs70 h12 (by rw [hnil]; exact ho8) hg8
    have HF := Lib.hid k1
    rw [HN.out] at k2
    clear k1 ho8 hg8 hs70 hs7 h12 hv12 hbl5 hlo5 hb5' d0 hne hne0
    go_wp2_with fail
    go_end0
    exact ⟨rfl, HF.out⟩
  · have q8 : ¬ (cap : Int) = (i : Int) + 1 := by omega
    have q9 : ¬ cap = i := by omega
    refine wpR_pre sp0_law anti_tail 7 _ _ _ ?_ rfl
    simp only [List.take_succ_cons, List.take_zero, List.drop_succ_cons, List.drop_zero]
    go_simp
    repeat (go_big_quiet_step (fail))
    refine wpQuiet_nil ?_
    unfold wpR
    rintro w7 hs7 ⟨⟨b5', hb5', hbl5, hlo5⟩, hv12⟩
    obtain rfl : b5 = b5' := by simpa using hb5'
    have hs70 : Step [] w w7 := (Step.refl [] w).drew.then hs7 (by simp)
    have h12 := hv12.row hbl5 hlo5
    have hdr : flatM (X.drop (i + 1)) = (flatM X).drop ((i + 1) * 11) := flatF_drop msC_len X (i + 1)
    have hcl := HCE.out w7 hs7
    refine wpList_append_own_any rfl (.tmp 12) (.tmp 19) 38 rfl w.heap.size 31 i0 _ 11 136 Try.underlying38 HI.out.1 HI.out.2.1 HI.out.2.2.1 HI.out.2.2.2 rfl (by decide) v12 i _ rfl h12 (some ⟨g, o * 11 + (i + 1) * 11, none⟩) (N - (i + 1)) (cap - (i + 1)) (flatM (X.drop (i + 1))) rfl (fun h => by cases h) (by rw [flatM_len, List.length_drop, HN.out]) (fun ad he j u hu => by
      cases he
      rw [hdr, List.getElem?_drop] at hu
      have := hcl _ u hu
      rw [Go.Proofs.Ytminpglkipnhcaa.add_plain] at this ⊢
      rw [Nat.add_assoc]
      exact this) (flatM_one _) (by unfold maxLen; omega) (by omega) hs70.size ?_
    intro v20 w8 ho8 hg8
    obtain ⟨a20, c20, rfl⟩ := owns_sl ho8
    obtain ⟨k1, k2, k3⟩ := cut_end HH.out HN.out hi (m := N - (i + 1)) (by omega) hs70 h12 ho8 hg8
    have HF := Lib.hid k1
    rw [HN.out] at k2
    clear k1 ho8 hg8 hs70 hs7 h12 hv12 hbl5 hlo5 hb5' d0 hne hne0 hdr hcl
    go_wp2_with fail
    go_end0
    exact ⟨rfl, HF.out⟩
end
end Go.Proofs.Ytminpglkipnhcaa
end

section
namespace Go.Proofs.Ytminpglkipnhcaa
set_option linter.unusedVariables false
set_option linter.unusedSimpArgs false
open Go.RowKit
theorem eq_pair (a b c d : Int) (w : World) : (Op.equalIn 10000 65 (.agg #[.int .i64 a, .int .i64 b]) (.agg #[.int .i64 c, .int .i64 d])).run Try.prog w = .ok (a == c && b == d) w := by
  have u3 := Try.underlying3
  have a3 := Try.isAgg3
  have z3 := Try.sizeOf3
  rw [show (10000 : Nat) = 9999 + 1 from rfl, Op.equalIn]
  simp only [Sem.run_bind, run_underlying Try.underlying65, Result.andThen_ok]
  simp only [Std.Legacy.Range.forIn_eq_forIn_range', Std.Legacy.Range.size, Nat.sub_zero, Nat.add_sub_cancel, Nat.div_one, List.range'_succ, List.range'_zero, List.forIn_cons, List.forIn_nil]
  go_simp
  by_cases h1 : a = c <;> by_cases h2 : b = d <;> simp [h1, h2]
end Go.Proofs.Ytminpglkipnhcaa
end

section
namespace Go.Proofs.Ytminpglkipnhcaa
set_option linter.unusedVariables false
set_option linter.unusedSimpArgs false
open Go.RowKit
section
variable {base mb : Nat} {xv pv : Value} {X : List Ms} {P : List (Int × Int)}
/-- is there a wall, one way or the other? -/
def hasW (P : List (Int × Int)) (a b : Int) : Bool := P.any fun p => (p.1 == a && p.2 == b) || (p.1 == b && p.2 == a)
theorem pair_cells {w : World} {B g n cap : Nat} (h : w.ownsRow B 65 2 (.slice (some ⟨g, 0, none⟩) n cap) n (flatP P)) (q : Nat) (hq : q < n) :
    w.cell? ⟨g, q * 2, none⟩ = some (.int .i64 (P.getD q (0, 0)).1) ∧ w.cell? ⟨g, q * 2 + 1, none⟩ = some (.int .i64 (P.getD q (0, 0)).2) := by
  have hl : P.length = n := by have := h.1; unfold flatP at this; rw [flatF_len wC_len] at this; omega
  have e : P.getD q (0, 0) = P[q]'(by omega) := by simp [List.getD, show q < P.length by omega]
  rw [e]
  refine ⟨?_, ?_⟩
  · have := flatF_at wC_len P q 0 (by omega) (by omega)
    rw [Nat.add_zero] at this
    rw [h.cellAt _ (by omega)]
    exact this
  · have := flatF_at wC_len P q 1 (by omega) (by omega)
    rw [h.cellAt _ (by omega)]
    exact this
set_option maxRecDepth 20000 in
set_option maxHeartbeats 1000000 in
theorem mwalled_any (a b : Int) (w : World) (h : Md w base mb xv pv X P) :
    Calls Try.prog 26 #[.pointer (some ⟨mb, 0, none⟩), .int .i64 a, .int .i64 b] w fun e w' => e = .returned (.bool (hasW P a b)) ∧ Step [] w w' := by
  obtain ⟨ao, cap, rfl⟩ := owns_sl h.wal
  have c1 := h.blk.cell 1
  simp only [List.getElem?_toArray, List.getElem?_cons_zero, List.getElem?_cons_succ] at c1
  have hfew := h.fewp
  obtain ⟨n, hn⟩ : ∃ n, P.length = n := ⟨_, rfl⟩
  have HN := Lib.hid hn
  have hw := h.wal
  rw [hn] at c1 hfew hw
  have HW := Lib.hid hw
  obtain ⟨R, hR⟩ : ∃ R, hasW P a b = R := ⟨_, rfl⟩
  have HR := Lib.hid hR
  rw [hR]
  clear h hn hw hR
  go_enter Try.func26, Try.ntmps26
  go_wp2_with fail
  go_loopw [14] (fun s wr => ∃ q : Nat, s = .int .i64 (q : Int) ∧ q ≤ n ∧ Step [] w wr ∧ hasW (P.take q) a b = false) (fun s _ => n - (intOf s).toNat)
  case atStart => exact ⟨0, rfl, Nat.zero_le _, Step.refl _ _, rfl⟩
  case round =>
    obtain ⟨q, rfl, hq, hs, hno⟩ := hrel
    have HS := Lib.hid (And.intro hs hno)
    by_cases hlt : q < n
    · obtain ⟨g, c, hv, _⟩ := owns_form HW.out (by omega)
      injection hv with hv1 hv3 hv2
      subst hv1
      obtain ⟨k0, k1⟩ := pair_cells (owns_step HW.out hs (by simp)) q hlt
      obtain ⟨⟨x, y⟩, hxy⟩ : ∃ p, P.getD q (0, 0) = p := ⟨_, rfl⟩
      rw [hxy] at k0 k1
      have hp : P[q]'(by rw [HN.out]; exact hlt) = (x, y) := by
        rw [← hxy]
        simp [List.getD, show q < P.length by rw [HN.out]; exact hlt]
      have HP := Lib.hid hp
      have p1 : (q : Int) < (n : Int) := by omega
      have p0 : (0 : Int) ≤ (q : Int) := by omega
      have he1 := fun w => eq_pair x y a b w
      have he2 := fun w => eq_pair x y b a w
      have hst : hasW (P.take (q + 1)) a b = (hasW (P.take q) a b || ((x == a && y == b) || (x == b && y == a))) := by
        unfold hasW
        rw [List.take_succ_eq_append_getElem (by rw [HN.out]; exact hlt), List.any_append, hp]
        simp
      rw [hno, Bool.false_or] at hst
      have hmem : ((x == a && y == b) || (x == b && y == a)) = true → R = true := fun h => by
        rw [← HR.out]
        unfold hasW
        rw [List.any_eq_true]
        exact ⟨(x, y), by rw [← hp]; exact List.getElem_mem _, h⟩
      obtain ⟨r1, h1⟩ : ∃ r, (x == a && y == b) = r := ⟨_, rfl⟩
      obtain ⟨r2, h2⟩ : ∃ r, (x == b && y == a) = r := ⟨_, rfl⟩
      rw [h1] at he1
      rw [h2] at he2
      rw [h1, h2] at hst hmem
      have HST := Lib.hid (And.intro hst hmem)
      clear hs hno hv3 hv2 hxy hp hst hmem h1 h2
      cases r1 with
      | true =>
        have hR := HST.out.2 rfl
        subst hR
        go_wp2_with fail
        go_ret
        exact ⟨rfl, HS.out.1.alloc _⟩
      | false =>
        cases r2 with
        | true =>
          have hR := HST.out.2 rfl
          subst hR
          go_wp2_with fail
          go_ret
          exact ⟨rfl, HS.out.1.alloc _⟩
        | false =>
          go_wp2_with fail
          exact ⟨⟨q + 1, by go_num, hlt, HS.out.1.alloc _, HST.out.1⟩, by simp [intOf]; omega⟩
    · have hqe : q = n := by omega
      subst hqe
      have hR : R = false := by
        rw [← HR.out, ← hno, List.take_of_length_le (by rw [HN.out]; omega)]
      subst hR
      clear hs hno hlt
      go_wp2_with fail
      go_ret
      exact ⟨rfl, HS.out.1⟩
end
end Go.Proofs.Ytminpglkipnhcaa
end

section
namespace Go.Proofs.Ytminpglkipnhcaa
set_option linter.unusedVariables false
open Go.RowKit

def bstr (l : List UInt8) : ByteArray := ⟨⟨l⟩⟩
theorem Bytes.str {P : Program} {w : World} {a : Option Addr} {l : List UInt8} (h : Bytes w a l) (hn : a = none → l.length = 0) (cap : Nat) (src dst e : TypeId) (hs : P.underlying src = some (.slice e)) (he : P.underlying e = some (.int .u8)) (hd : P.underlying dst = some .string) :
    (convert src dst (.slice a l.length cap)).run P w = .ok (.string (bstr l)) w := by
  cases a with
  | none =>
    have hl : l = [] := List.eq_nil_of_length_eq_zero (hn rfl)
    subst hl
    exact Lib.run_convert_nil_bytes w src dst e cap hs he hd
  | some ad =>
    refine run_convert_bytes_back w src dst e ad cap l hs he hd fun j hj => ?_
    obtain ⟨b, off, ha, _, hc⟩ := h j hj
    cases ha
    rw [add_plain, hc]
    simp [List.getD, hj]
end Go.Proofs.Ytminpglkipnhcaa
end

section
namespace Go.Proofs.Ytminpglkipnhcaa
set_option linter.unusedVariables false
set_option linter.unusedSimpArgs false
open Go.RowKit
attribute [local go_sem ↓] exec_load_m exec_store_m
attribute [local go_sem] Try.load_m row_drew Try.store_m
/-- the cells of a message by what it says -/
theorem cellsM {W w : World} {b : Nat} {x : Ms} {M : PM} {D : List Nat} (hb : Blk W b (msC x).toArray 31) (h : MsOk w D x M) :
    W.cell? ⟨b, 0, none⟩ = some (.int .i64 M.kd) ∧ W.cell? ⟨b, 1, none⟩ = some (.int .i64 M.fr) ∧ W.cell? ⟨b, 2, none⟩ = some (.int .i64 M.too) ∧ W.cell? ⟨b, 3, none⟩ = some (.int .u64 M.tm) ∧ W.cell? ⟨b, 4, none⟩ = some (.int .u64 M.ix) ∧ W.cell? ⟨b, 5, none⟩ = some (.int .u64 M.lt)
      ∧ W.cell? ⟨b, 6, none⟩ = some (.int .u64 M.cm) ∧ W.cell? ⟨b, 7, none⟩ = some (.bool M.ys) ∧ W.cell? ⟨b, 8, none⟩ = some (.slice x.ea M.es.length x.ec) ∧ W.cell? ⟨b, 9, none⟩ = some (.slice x.ma M.ms.length x.mc) ∧ W.cell? ⟨b, 10, none⟩ = some (.slice x.da M.da.length x.dc) := by
  obtain ⟨L, h1, h2, _⟩ := h.es.rows
  refine ⟨?_, ?_, ?_, ?_, ?_, ?_, ?_, ?_, ?_, ?_, ?_⟩
  · rw [hb.cell 0, ← h.kd]; rfl
  · rw [hb.cell 1, ← h.fr]; rfl
  · rw [hb.cell 2, ← h.too]; rfl
  · rw [hb.cell 3, ← h.tm]; rfl
  · rw [hb.cell 4, ← h.ix]; rfl
  · rw [hb.cell 5, ← h.lt]; rfl
  · rw [hb.cell 6, ← h.cm]; rfl
  · rw [hb.cell 7, ← h.ys]; rfl
  · rw [hb.cell 8, h2]; rfl
  · rw [hb.cell 9, h.ms.len]; rfl
  · rw [hb.cell 10, h.da.len]; rfl
theorem slb_str {w : World} {D : List Nat} {a : Option Addr} {n c : Nat} {l : List UInt8} (h : SlB w D a n c l) : (convert 29 9 (.slice a l.length c)).run Try.prog w = .ok (.string (bstr l)) w :=
  Bytes.str (P := Try.prog) h.rd (fun e => by have := (h.nil e).1; have := h.len; omega) c 29 9 5 Try.underlying29 Try.underlying5 Try.underlying9
set_option maxRecDepth 20000 in
set_option maxHeartbeats 2000000 in
theorem same_any (x y : Ms) (M : PM) (D D' : List Nat) (w : World) (hx : MsOk w D x M) (hy : MsOk w D' y M) (hf : Few M) :
    Calls Try.prog 13 #[.agg (msC x).toArray, .agg (msC y).toArray] w fun e w' => e = .returned (.bool true) ∧ Step [] w w' := by
  have hb2 := (Blk.new w (msC x).toArray 31).alloc (.cells (msC y).toArray 31)
  have hb3 := Blk.new (w.alloc (.cells (msC x).toArray 31)) (msC y).toArray 31
  rw [World.size_alloc] at hb3
  have hs := ((Step.refl [] w).alloc (.cells (msC x).toArray 31)).alloc (.cells (msC y).toArray 31)
  have HX := Lib.hid (And.intro (hx.step hs (fun k _ => List.not_mem_nil)) (And.intro (hy.step hs (fun k _ => List.not_mem_nil)) (And.intro hs (And.intro hb2 hb3))))
  obtain ⟨x0, x1, x2, x3, x4, x5, x6, x7, x8, x9, x10⟩ := cellsM hb2 hx
  obtain ⟨y0, y1, y2, y3, y4, y5, y6, y7, y8, y9, y10⟩ := cellsM hb3 hy
  have hcx := slb_str (HX.out.1.da)
  have hcy := slb_str (HX.out.2.1.da)
  have hfe := hf.es
  have hfm := hf.ms
  clear hx hy hs hb2 hb3
  go_enter Try.func13, Try.ntmps13
  go_wp2_with fail
  clear x0 x1 x2 x3 x4 x5 x6 x7 x10 y0 y1 y2 y3 y4 y5 y6 y7 y10 hcx hcy
  obtain ⟨W, hW⟩ : ∃ W, (w.alloc (.cells (msC x).toArray 31)).alloc (.cells (msC y).toArray 31) = W := ⟨_, rfl⟩
  rw [hW] at x8 x9 y8 y9 HX ⊢
  obtain ⟨b2, hb2e⟩ : ∃ b, w.heap.size = b := ⟨_, rfl⟩
  rw [hb2e] at x8 x9 y8 y9 HX ⊢
  obtain ⟨b3, hb3e⟩ : ∃ b, b2 + 1 = b := ⟨_, rfl⟩
  rw [hb3e] at y8 y9 HX ⊢
  have hne : b2 ≠ b3 := by omega
  clear hW hb2e hb3e
  obtain ⟨K, hK⟩ : ∃ K, M.es.length = K := ⟨_, rfl⟩
  have HK := Lib.hid hK
  rw [hK] at x8 y8 hfe ⊢
  clear hK
  go_loopw [93] (fun s wr => ∃ q : Nat, s = .int .i64 (q : Int) ∧ q ≤ K ∧ Step [] W wr) (fun s _ => K - (intOf s).toNat)
  case atStart => exact ⟨0, rfl, Nat.zero_le _, Step.refl _ _⟩
  case round =>
    obtain ⟨q, rfl, hq, hs⟩ := hrel
    have HS := Lib.hid hs
    by_cases hlt : q < K
    · obtain ⟨LX, lx1, lx2, lx3, lx4⟩ := HX.out.1.es.rows
      obtain ⟨LY, ly1, ly2, ly3, ly4⟩ := HX.out.2.1.es.rows
      have hqX : q < LX.length := by rw [lx1, ← lx2, HK.out]; exact hlt
      have hqY : q < LY.length := by rw [ly1, ← ly2, HK.out]; exact hlt
      obtain ⟨bx, ox, hxa, hxl, i0, i1, i2, i3⟩ := lx3 q hqX
      obtain ⟨by', oy, hya, hyl, j0, j1, j2, j3⟩ := ly3 q hqY
      obtain ⟨X, hX⟩ : ∃ X, LX.getD q en0 = X := ⟨_, rfl⟩
      obtain ⟨Y, hY⟩ : ∃ Y, LY.getD q en0 = Y := ⟨_, rfl⟩
      obtain ⟨E, hE⟩ : ∃ E, M.es[q]? = some E := ⟨_, List.getElem?_eq_getElem (by rw [HK.out]; exact hlt)⟩
      have hXo := lx4 q X E (by rw [← hX]; simp [List.getD, hqX]) hE
      have hYo := ly4 q Y E (by rw [← hY]; simp [List.getD, hqY]) hE
      have HE := Lib.hid (And.intro hXo hYo)
      rw [hX] at i0 i1 i2 i3
      rw [hY] at j0 j1 j2 j3
      have g8 := (hs.cell HX.out.2.2.2.1.lt (by simp)).trans x8
      have h8 := (hs.cell HX.out.2.2.2.2.lt (by simp)).trans y8
      rw [hxa] at g8
      rw [hya] at h8
      have z0 := (hs.cell hxl (by simp)).trans i0
      have z1 := (hs.cell hxl (by simp)).trans i1
      have z2 := (hs.cell hxl (by simp)).trans i2
      have z3 := (hs.cell hxl (by simp)).trans i3
      have v0 := (hs.cell hyl (by simp)).trans j0
      have v1 := (hs.cell hyl (by simp)).trans j1
      have v2 := (hs.cell hyl (by simp)).trans j2
      have v3 := (hs.cell hyl (by simp)).trans j3
      have p1 : (q : Int) < (K : Int) := by omega
      have p0 : (0 : Int) ≤ (q : Int) := by omega
      have hl2 := Nat.lt_of_lt_of_le HX.out.2.2.2.1.lt hs.size
      have hl3 := Nat.lt_of_lt_of_le HX.out.2.2.2.2.lt hs.size
      have hlx := Nat.lt_of_lt_of_le hxl hs.size
      have hly := Nat.lt_of_lt_of_le hyl hs.size
      clear hs x8 y8 x9 y9 i0 i1 i2 i3 j0 j1 j2 j3 hX hY hE hXo hYo lx1 lx2 lx3 lx4 ly1 ly2 ly3 ly4 hqX hqY hxl hyl hxa hya
      go_wp2_with fail
      go_cut [6, 7] from 96 to 105 (fun a b wx => ∃ p q : Nat, a = .pointer (some ⟨p, 0, none⟩) ∧ b = .pointer (some ⟨q, 0, none⟩) ∧ Step [] wr wx ∧ Blk wx p (enCells X).toArray 45 ∧ Blk wx q (enCells Y).toArray 45)
      case first =>
        go_region
        · go_wp2_with fail
          go_meet
          case rel => exact ⟨_, _, rfl, rfl, (((Step.refl [] wr).alloc _).alloc _).drew, by have := (Blk.new wr (enCells X).toArray 45).alloc (.cells (enCells Y).toArray 45); exact this.drew, by have := Blk.new (wr.alloc (.cells (enCells X).toArray 45)) (enCells Y).toArray 45; rw [World.size_alloc] at this; exact this.drew⟩
        · go_wp2_with fail
          go_meet
          case rel => exact ⟨_, _, rfl, rfl, (((Step.refl [] wr).alloc _).alloc _).drew, by have := Blk.new (wr.alloc (.cells (enCells Y).toArray 45)) (enCells X).toArray 45; rw [World.size_alloc] at this; exact this.drew, by have := (Blk.new wr (enCells Y).toArray 45).alloc (.cells (enCells X).toArray 45); exact this.drew⟩
      case rest =>
        obtain ⟨p, r, rfl, rfl, hs, hp, hr⟩ := hcut
        have HS2 := Lib.hid (HS.out.then hs (by simp))
        obtain ⟨X1, X2, X3, X4⟩ := HE.out.1
        obtain ⟨Y1, Y2, Y3, Y4⟩ := HE.out.2
        have m0 := hp.cell 0
        have m1 := hp.cell 1
        have m2 := hp.cell 2
        have m3 := hp.cell 3
        have n0 := hr.cell 0
        have n1 := hr.cell 1
        have n2 := hr.cell 2
        have n3 := hr.cell 3
        simp only [List.getElem?_toArray, List.getElem?_cons_zero, List.getElem?_cons_succ, enCells] at m0 m1 m2 m3 n0 n1 n2 n3
        have hcx := slb_str (X4.step HS2.out (fun k _ => List.not_mem_nil))
        have hcy := slb_str (Y4.step HS2.out (fun k _ => List.not_mem_nil))
        rw [X1] at m0
        rw [X2] at m1
        rw [X3] at m2
        rw [← X4.len] at m3
        rw [Y1] at n0
        rw [Y2] at n1
        rw [Y3] at n2
        rw [← Y4.len] at n3
        clear hs hp hr X1 X2 X3 X4 Y1 Y2 Y3 Y4 z0 z1 z2 z3 v0 v1 v2 v3 g8 h8 hl2 hl3 hlx hly HE
        go_wp2_with fail
        exact ⟨⟨q + 1, by go_num, hlt, HS2.out⟩, by simp [intOf]; omega⟩
    · have hqe : q = K := by omega
      subst hqe
      have z9 := (hs.cell HX.out.2.2.2.1.lt (by simp)).trans x9
      have v9 := (hs.cell HX.out.2.2.2.2.lt (by simp)).trans y9
      obtain ⟨N, hN⟩ : ∃ N, M.ms.length = N := ⟨_, rfl⟩
      have HN := Lib.hid hN
      rw [hN] at z9 v9 hfm
      clear hs hN hlt hq x8 x9 y8 y9
      go_wp2_with fail
      clear z9 v9
      go_loopw [138] (fun s wr => ∃ q : Nat, s = .int .i64 (q : Int) ∧ q ≤ N ∧ Step [] W wr) (fun s _ => N - (intOf s).toNat)
      case atStart => exact ⟨0, rfl, Nat.zero_le _, HS.out⟩
      case round =>
        obtain ⟨k, rfl, hk, hs⟩ := hrel
        have HV := Lib.hid hs
        by_cases hkt : k < N
        · obtain ⟨bx, ox, hxa, hxl, hxc⟩ := HX.out.1.ms.rd k (by rw [HN.out]; exact hkt)
          obtain ⟨by', oy, hya, hyl, hyc⟩ := HX.out.2.1.ms.rd k (by rw [HN.out]; exact hkt)
          obtain ⟨u, hu⟩ : ∃ u, M.ms.getD k 0 = u := ⟨_, rfl⟩
          rw [hu] at hxc hyc
          have z9 := (hs.cell HX.out.2.2.2.1.lt (by simp)).trans ((HX.out.2.2.2.1.cell 9).trans rfl)
          have v9 := (hs.cell HX.out.2.2.2.2.lt (by simp)).trans ((HX.out.2.2.2.2.cell 9).trans rfl)
          have g9 : wr.cell? ⟨b2, 9, none⟩ = some (.slice (some ⟨bx, ox, none⟩) N x.mc) := by
            rw [z9, ← hxa, ← HN.out, HX.out.1.ms.len]
            rfl
          have h9 : wr.cell? ⟨b3, 9, none⟩ = some (.slice (some ⟨by', oy, none⟩) N y.mc) := by
            rw [v9, ← hya, ← HN.out, HX.out.2.1.ms.len]
            rfl
          have k1 := (hs.cell hxl (by simp)).trans hxc
          have k2 := (hs.cell hyl (by simp)).trans hyc
          have p1 : (k : Int) < (N : Int) := by omega
          have p0 : (0 : Int) ≤ (k : Int) := by omega
          have hl2 := Nat.lt_of_lt_of_le HX.out.2.2.2.1.lt hs.size
          have hl3 := Nat.lt_of_lt_of_le HX.out.2.2.2.2.lt hs.size
          have hlx := Nat.lt_of_lt_of_le hxl hs.size
          have hly := Nat.lt_of_lt_of_le hyl hs.size
          clear hs hxc hyc hxl hyl hu z9 v9 hxa hya
          go_wp2_with fail
          have hnn : Nonempty (ClsW (Step [] wr.drew)) := ⟨⟨_, Step.refl _ _⟩⟩
          have d1 : ∀ z : ClsW (Step [] wr.drew), z.val.cell? ⟨b2, 9, none⟩ = some (.slice (some ⟨bx, ox, none⟩) N x.mc) := fun z => (z.ok.cell hl2 (by simp)).trans g9
          have d2 : ∀ z : ClsW (Step [] wr.drew), z.val.cell? ⟨b3, 9, none⟩ = some (.slice (some ⟨by', oy, none⟩) N y.mc) := fun z => (z.ok.cell hl3 (by simp)).trans h9
          have d3 : ∀ z : ClsW (Step [] wr.drew), z.val.cell? ⟨bx, ox + k, none⟩ = some (.int .i64 u) := fun z => (z.ok.cell hlx (by simp)).trans k1
          have d4 : ∀ z : ClsW (Step [] wr.drew), z.val.cell? ⟨by', oy + k, none⟩ = some (.int .i64 u) := fun z => (z.ok.cell hly (by simp)).trans k2
          refine region_cls (G := Step [] wr.drew) (by kernel_rfl) (by kernel_rfl) (Step.refl _ _) ?_
          repeat (go_big_quiet_step (fail))
          refine wpQuiet_nil ?_
          rintro w2 ⟨⟨w2i, hw2⟩, he⟩
          have he' : w2 = w2i := he
          subst he'
          clear he
          have HS2 := Lib.hid ((HV.out.then (Step.refl [] wr).drew (by simp)).then hw2 (by simp))
          clear hnn d1 d2 d3 d4 hw2 g9 h9 k1 k2
          go_wp2_with fail
          exact ⟨⟨k + 1, by go_num, hkt, HS2.out⟩, by simp [intOf]; omega⟩
        · have hke : k = N := by omega
          subst hke
          clear hs hkt hk
          go_wp2_with fail
          go_ret
          exact ⟨rfl, HX.out.2.2.1.then HV.out (by simp)⟩
end Go.Proofs.Ytminpglkipnhcaa
end
