/- net: Take, Lose, Last, Send, Twice. -/
import Derived.Test.YtminpglkipnhcaaNetG
namespace Go.Proofs.Ytminpglkipnhcaa
set_option linter.unusedVariables false
open Go.RowKit
attribute [local go_sem ↓] exec_load_m exec_store_m
attribute [local go_sem] Try.load_m row_drew Try.store_m

def SpT (hv wv : Bool) (f : FuncId) (_ : Array Value) (v : Value) (_ : World) : Prop := v = .bool (if f = 24 then hv else wv)
theorem spT_law (hv wv : Bool) : RelLaw (Step []) (SpT hv wv) where
  refl := fun w => Step.refl [] w
  trans := fun w w' w'' h h' => h.then h' (by simp)
  stable := fun f args v w w' h hs => h

/-- the result of Take: a message, and whether it came -/
theorem take_results {tmps : Array Value} {w : World} {b : Nat} {x : Ms} {r : Value} (h4 : tmps.getD 4 undef = .pointer (some ⟨b, 0, none⟩)) (h5 : tmps.getD 5 undef = r) (hb : Blk w b (msC x).toArray 31) :
    (results Try.f10 tmps).run Try.prog w = .ok (.tuple #[.agg (msC x).toArray, r]) w := by
  rw [results_cell_tmp rfl]
  have hl := run_loadVar_row (P := Try.prog) w b 31 31 (msC x).toArray (0, 0) _ hb Try.underlying31 rfl (by kernel_rfl)
  rw [h4, h5]
  simp [asAddr, hl]

def TakeNo (w : World) (e : Ending) (w' : World) : Prop := e = .returned (.tuple #[.agg (msC ms0).toArray, .bool false]) ∧ Step [] w w'

set_option maxRecDepth 20000 in
set_option maxHeartbeats 400000 in
theorem take_no (base nb mb : Nat) (lv : Value) (L : List Ms) (n : Nat) (f : PK → Option Bool) (i : Int) (w : World) (h : Nt w base nb mb lv L n f) (hi : hasI i L.length = false) :
    Calls Try.prog 10 #[.pointer (some ⟨nb, 0, none⟩), .int .i64 i] w (TakeNo w) := by
  have hzv := zeroM
  unfold msV at hzv
  have hC0 : ¬ (msC ms0).toArray = #[] := by decide
  have hb4 := Blk.new w (msC ms0).toArray 31
  have hst := (Step.refl [] w).alloc (.cells (msC ms0).toArray 31)
  obtain ⟨W, hW⟩ : ∃ W, w.alloc (.cells (msC ms0).toArray 31) = W := ⟨_, rfl⟩
  rw [hW] at hb4 hst
  obtain ⟨b, hb⟩ : ∃ b, w.heap.size = b := ⟨_, rfl⟩
  rw [hb] at hb4
  have HB := Lib.hid (And.intro hW hb)
  have HN := Lib.hid (h.step0 hst)
  have H4 := Lib.hid hb4
  have HS := Lib.hid hst
  have HI := Lib.hid hi
  clear h hb4 hst hW hb hi
  go_enter Try.func10, Try.ntmps10
  go_wp2_with fail
  rw [HB.out.1, HB.out.2]
  clear hzv
  have hne : Nonempty (ClsW (Step [] W.drew)) := ⟨⟨_, Step.refl _ _⟩⟩
  refine region_cls (G := Step [] W.drew) (by kernel_rfl) (by kernel_rfl) (Step.refl _ _) ?_
  repeat (go_big_quiet_step ((go_at_call 24; exact cls_call ((has_any base nb mb lv L n f i _ (HN.out.step0 ((Step.refl [] W).drew.then (ClsW.ok _) (by simp)))).mono fun e w3 h => ⟨by rw [h.1, HI.out], by rw [← h.2]; exact ClsW.ok _⟩))))
  refine wpQuiet_nil ?_
  rintro w2 ⟨⟨w2i, hw2⟩, he⟩
  have he' : w2 = w2i := he
  subst he'
  clear he
  have hs2 : Step [] W w2 := (Step.refl [] W).drew.then hw2 (by simp)
  have hb2 := H4.out.step hs2 (by simp)
  have t2 := msg_there hb2
  have hb3 := msg_set (y := ms0) hb2
  have HF := Lib.hid (And.intro ((HS.out.then hs2 (by simp)).setCells (b := b) (.inr (by rw [HB.out.2]; exact Nat.le_refl _)) (msC ms0) 0) hb3)
  have hst0 : (storeBig 31 (.pointer (some ⟨b, 0, none⟩)) (.agg #[.int .i64 0, .int .i64 0, .int .i64 0, .int .u64 0, .int .u64 0, .int .u64 0, .int .u64 0, .bool false, .slice none 0 0, .slice none 0 0, .slice none 0 0])).run Try.prog w2 = .ok () (w2.setCells b 0 (msC ms0)) := Try.store_m w2 b 0 ms0 t2
  clear hne hw2 hs2 hb2 hb3 t2
  go_wp2_with fail
  exact bodyPost_ret (v := .tuple #[.agg (msC ms0).toArray, .bool false]) (take_results rfl rfl HF.out.2) rfl ⟨rfl, HF.out.1⟩

set_option maxRecDepth 20000 in
set_option maxHeartbeats 400000 in
theorem take_nil (i : Int) (w : World) : Calls Try.prog 10 #[.pointer none, .int .i64 i] w (TakeNo w) := by
  have hzv := zeroM
  unfold msV at hzv
  have hC0 : ¬ (msC ms0).toArray = #[] := by decide
  have hb4 := Blk.new w (msC ms0).toArray 31
  have hst := (Step.refl [] w).alloc (.cells (msC ms0).toArray 31)
  obtain ⟨W, hW⟩ : ∃ W, w.alloc (.cells (msC ms0).toArray 31) = W := ⟨_, rfl⟩
  rw [hW] at hb4 hst
  obtain ⟨b, hb⟩ : ∃ b, w.heap.size = b := ⟨_, rfl⟩
  rw [hb] at hb4
  have HB := Lib.hid (And.intro hW hb)
  have H4 := Lib.hid hb4
  have HS := Lib.hid hst
  clear hb4 hst hW hb
  go_enter Try.func10, Try.ntmps10
  go_wp2_with fail
  rw [HB.out.1, HB.out.2]
  clear hzv
  have hne : Nonempty (ClsW (Step [] W.drew)) := ⟨⟨_, Step.refl _ _⟩⟩
  refine region_cls (G := Step [] W.drew) (by kernel_rfl) (by kernel_rfl) (Step.refl _ _) ?_
  repeat (go_big_quiet_step ((go_at_call 24; exact cls_call ((has_nil i _).mono fun e w3 h => ⟨h.1, by rw [← h.2]; exact ClsW.ok _⟩))))
  refine wpQuiet_nil ?_
  rintro w2 ⟨⟨w2i, hw2⟩, he⟩
  have he' : w2 = w2i := he
  subst he'
  clear he
  have hs2 : Step [] W w2 := (Step.refl [] W).drew.then hw2 (by simp)
  have hb2 := H4.out.step hs2 (by simp)
  have t2 := msg_there hb2
  have hb3 := msg_set (y := ms0) hb2
  have HF := Lib.hid (And.intro ((HS.out.then hs2 (by simp)).setCells (b := b) (.inr (by rw [HB.out.2]; exact Nat.le_refl _)) (msC ms0) 0) hb3)
  have hst0 : (storeBig 31 (.pointer (some ⟨b, 0, none⟩)) (.agg #[.int .i64 0, .int .i64 0, .int .i64 0, .int .u64 0, .int .u64 0, .int .u64 0, .int .u64 0, .bool false, .slice none 0 0, .slice none 0 0, .slice none 0 0])).run Try.prog w2 = .ok () (w2.setCells b 0 (msC ms0)) := Try.store_m w2 b 0 ms0 t2
  clear hne hw2 hs2 hb2 hb3 t2
  go_wp2_with fail
  exact bodyPost_ret (v := .tuple #[.agg (msC ms0).toArray, .bool false]) (take_results rfl rfl HF.out.2) rfl ⟨rfl, HF.out.1⟩

def TakeYes (base nb mb : Nat) (lv : Value) (L : List Ms) (n : Nat) (f : PK → Option Bool) (i : Nat) (w : World) (e : Ending) (w' : World) : Prop :=
  e = .returned (.tuple #[.agg (msC (L.getD i ms0)).toArray, .bool true]) ∧ PutPost base nb mb lv (L.eraseIdx i) n f w w'
def TakeBoth (base nb mb : Nat) (lv : Value) (L : List Ms) (n : Nat) (f : PK → Option Bool) (i : Nat) (wv : Bool) (w : World) (e : Ending) (w' : World) : Prop :=
  if wv then TakeNo w e w' else TakeYes base nb mb lv L n f i w e w'
set_option maxRecDepth 20000 in
set_option maxHeartbeats 400000 in
theorem take_yes (base nb mb : Nat) (lv : Value) (L : List Ms) (n : Nat) (f : PK → Option Bool) (i : Nat) (w : World) (h : Nt w base nb mb lv L n f) (hi : i < L.length)
    (ha : (Lit.int .i64 (L.getD i ms0).fr).wf = true) (hb : (Lit.int .i64 (L.getD i ms0).too).wf = true) :
    Calls Try.prog 10 #[.pointer (some ⟨nb, 0, none⟩), .int .i64 (i : Int)] w (TakeBoth base nb mb lv L n f i (wld f (pk (L.getD i ms0).fr (L.getD i ms0).too ha hb)) w) := by
  obtain ⟨g, cap, hlv, -⟩ := owns_form h.own (by omega)
  subst hlv
  obtain ⟨wv, hwv⟩ : ∃ wv, wld f (pk (L.getD i ms0).fr (L.getD i ms0).too ha hb) = wv := ⟨_, rfl⟩
  have hzv := zeroM
  unfold msV at hzv
  have hC0 : ¬ (msC ms0).toArray = #[] := by decide
  have hb4 := Blk.new w (msC ms0).toArray 31
  have hst := (Step.refl [] w).alloc (.cells (msC ms0).toArray 31)
  have HN0 := Lib.hid h
  have hN := h.step0 hst
  obtain ⟨W, hW⟩ : ∃ W, w.alloc (.cells (msC ms0).toArray 31) = W := ⟨_, rfl⟩
  rw [hW] at hb4 hst hN
  obtain ⟨b, hbb⟩ : ∃ b, w.heap.size = b := ⟨_, rfl⟩
  rw [hbb] at hb4
  have HB := Lib.hid (And.intro hW hbb)
  have H4 := Lib.hid hb4
  have HS := Lib.hid hst
  have c0 := hN.blk.cell 0
  simp only [List.getElem?_toArray, List.getElem?_cons_zero] at c0
  have hrow := range_of_row _ _ _ _ _ (owns_msg hN.own i hi)
  have c1 : W.cell? ⟨g, i * 11 + 1, none⟩ = some (.int .i64 (L.getD i ms0).fr) := hrow.1 1 _ rfl
  have c2 : W.cell? ⟨g, i * 11 + 2, none⟩ = some (.int .i64 (L.getD i ms0).too) := hrow.1 2 _ rfl
  have hW1 := Lib.hid (fun (w1 : World) (hs : Step [] W w1) => walled_any base nb mb _ L n f (L.getD i ms0).fr (L.getD i ms0).too ha hb w1 (hN.step0 hs))
  rw [hwv] at hW1 ⊢
  have hH1 := Lib.hid (fun (w1 : World) (hs : Step [] W w1) => has_any base nb mb _ L n f (i : Int) w1 (hN.step0 hs))
  have hhas : hasI (i : Int) L.length = true := by simp [hasI, hi]
  rw [hhas] at hH1
  have hlt := hN.blk.lt
  have hgl := (hN.live g (by simp [footN, foot_some])).2
  have hfew := hN.few
  have HN := Lib.hid hN
  obtain ⟨x, hx⟩ : ∃ x, L.getD i ms0 = x := ⟨_, rfl⟩
  have HX := Lib.hid hx
  rw [hx] at c1 c2 hW1
  obtain ⟨m, hm⟩ : ∃ m, L.length = m := ⟨_, rfl⟩
  have HM := Lib.hid hm
  rw [hm] at c0 hi hfew
  have hkk : (i : Int) < (m : Int) := by omega
  have hk0 : (0 : Int) ≤ (i : Int) := by omega
  clear h hb4 hst hW hbb hrow hhas hN hx hm hwv
  go_enter Try.func10, Try.ntmps10
  go_wp2_with fail
  rw [HB.out.1, HB.out.2]
  clear hzv
  have hne : Nonempty (ClsW (Step [] W.drew)) := ⟨⟨_, Step.refl _ _⟩⟩
  have d0 : ∀ y : ClsW (Step [] W.drew), y.val.cell? ⟨nb, 0, none⟩ = some (.slice (some ⟨g, 0, none⟩) m cap) := fun y => (y.ok.cell hlt (by simp)).trans c0
  have d1 : ∀ y : ClsW (Step [] W.drew), y.val.cell? ⟨g, i * 11 + 1, none⟩ = some (.int .i64 x.fr) := fun y => (y.ok.cell hgl (by simp)).trans c1
  have d2 : ∀ y : ClsW (Step [] W.drew), y.val.cell? ⟨g, i * 11 + 2, none⟩ = some (.int .i64 x.too) := fun y => (y.ok.cell hgl (by simp)).trans c2
  refine wp_region_rel (spT_law true wv) (by kernel_rfl) (by kernel_rfl) ?_
  refine wpR_pre (spT_law true wv) anti_norm 2 _ _ _ ?_ rfl
  simp only [List.take_succ_cons, List.take_zero, List.drop_succ_cons, List.drop_zero]
  repeat (go_big_quiet_step (fail))
  refine wpQuiet_nil ?_
  refine wpR_callF 24 _ _ rfl (by rfl) Try.func24 (by kernel_rfl) (by kernel_rfl) #[.pointer (some ⟨nb, 0, none⟩), .int .i64 (i : Int)] (by simp [Act.eval]) (fun w1 hg => (hH1.out w1 ((Step.refl [] W).drew.then hg (by simp))).mono (fun e w'' h => ⟨_, h.1, rfl, by rw [← h.2]; exact Step.refl _ _⟩)) ?_
  rintro v ⟨_, _, hv⟩
  unfold SpT at hv
  rw [if_pos rfl] at hv
  subst hv
  refine wpR_pre (spT_law true wv) anti_norm 19 _ _ _ ?_ rfl
  simp only [List.take_succ_cons, List.take_zero, List.drop_succ_cons, List.drop_zero]
  go_simp
  repeat (go_big_quiet_step (fail))
  refine wpQuiet_nil ?_
  refine wpR_callF 21 _ _ rfl (by rfl) Try.func21 (by kernel_rfl) (by kernel_rfl) #[.pointer (some ⟨nb, 0, none⟩), .int .i64 x.fr, .int .i64 x.too] (by simp [Act.eval]) (fun w1 hg => (hW1.out w1 ((Step.refl [] W).drew.then hg (by simp))).mono (fun e w'' h => ⟨_, h.1, rfl, h.2⟩)) ?_
  rintro v ⟨_, _, hv⟩
  unfold SpT at hv
  rw [if_neg (by decide)] at hv
  subst hv
  refine wpR_pre (spT_law true wv) anti_norm 1 _ _ _ ?_ rfl
  simp only [List.take_succ_cons, List.take_zero, List.drop_succ_cons, List.drop_zero]
  go_simp
  repeat (go_big_quiet_step (fail))
  refine wpQuiet_nil ?_
  unfold wpR
  intro w2 hw2 _
  have hs2 : Step [] W w2 := (Step.refl [] W).drew.then hw2 (by simp)
  have hb2 := H4.out.step hs2 (by simp)
  have t2 := msg_there hb2
  have HSZ := Lib.hid (HB.out.2)
  clear hne d0 d1 d2 hW1 hH1 c0 c1 c2 hw2
  cases wv with
  | true =>
    have hb3 := msg_set (y := ms0) hb2
    have HF := Lib.hid (And.intro ((HS.out.then hs2 (by simp)).setCells (b := b) (.inr (by rw [HB.out.2]; exact Nat.le_refl _)) (msC ms0) 0) hb3)
    have hst0 : (storeBig 31 (.pointer (some ⟨b, 0, none⟩)) (.agg #[.int .i64 0, .int .i64 0, .int .i64 0, .int .u64 0, .int .u64 0, .int .u64 0, .int .u64 0, .bool false, .slice none 0 0, .slice none 0 0, .slice none 0 0])).run Try.prog w2 = .ok () (w2.setCells b 0 (msC ms0)) := Try.store_m w2 b 0 ms0 t2
    clear hs2 hb2 hb3 t2
    go_wp2_with fail
    exact bodyPost_ret (v := .tuple #[.agg (msC ms0).toArray, .bool false]) (take_results rfl rfl HF.out.2) rfl ⟨rfl, HF.out.1⟩
  | false =>
    have hN2 := HN.out.step0 hs2
    have HC := Lib.hid (cut_any base nb mb _ L n f i w2 hN2 (by rw [HM.out]; exact hi))
    rw [HX.out] at HC
    have hfb : ∀ k, k ∈ nb :: foot (.slice (some ⟨g, 0, none⟩) L.length cap) → k < b := by
      intro k hk
      rw [← HB.out.2]
      rcases List.mem_cons.1 hk with h1 | h1
      · subst h1; exact HN0.out.blk.lt
      · exact (foot_lt HN0.out.own k h1).2
    have HFB := Lib.hid hfb
    have HS2 := Lib.hid hs2
    have HB2 := Lib.hid hb2
    have hml : mb < b := by
      rw [← HB.out.2]
      exact HN0.out.walls.lt
    clear hs2 hb2 t2 hN2 hfb
    go_wp2_with fail
    refine HC.out.mono ?_
    rintro e w9 ⟨rfl, lv', hN9, hs9, hf9⟩
    have hb9 := HB2.out.step hs9 (fun hm => by have := HFB.out b hm; omega)
    have t9 := msg_there hb9
    have hb10 := msg_set (y := x) hb9
    have hst10 : Step [b] w9 (w9.setCells b 0 (msC x)) := (Step.refl [b] w9).setCells (.inl (by simp)) _ _
    have hbl := HB2.out.lt
    have hN10 := hN9.step hst10 (fun k hk hm => by
      simp at hm
      subst hm
      simp only [footN, List.mem_cons] at hk
      rcases hk with h1 | h1 | h1
      · have := HFB.out nb (by simp); omega
      · omega
      · rcases hf9 k h1 with h2 | h2
        · have := HFB.out k (List.mem_cons_of_mem _ h2); omega
        · omega)
    have HQ := Lib.hid (show PutPost base nb mb (.slice (some ⟨g, 0, none⟩) L.length cap) (L.eraseIdx i) n f w (w9.setCells b 0 (msC x)) from
      ⟨lv', hN10, ((((HS.out.then HS2.out (by simp)).mono (by simp)).then hs9 (fun k hk => .inl hk))).then hst10 (fun k hk => .inr (by simp at hk; subst hk; rw [HB.out.2]; exact Nat.le_refl _)), fun k hk => (hf9 k hk).elim .inl (fun h2 => .inr (by have := HS.out.size; have := HS2.out.size; omega))⟩)
    have HB10 := Lib.hid hb10
    clear hb9 hb10 hst10 hN10 hN9 hs9 hf9 HC
    go_wp2_with fail
    refine bodyPost_ret (v := .tuple #[.agg (msC x).toArray, .bool true]) (take_results rfl rfl HB10.out) rfl ?_
    unfold TakeBoth TakeYes
    rw [HX.out]
    exact ⟨rfl, HQ.out⟩
end Go.Proofs.Ytminpglkipnhcaa
