/- Several texts in one: StillQ, DoA, DoB, DoF, DoH0. -/
import Derived.Test.YtminpglkipnhcaaBlocks
import Derived.StillTail
import Derived.Test.YtminpglkipnhcaaNpA
import Derived.Test.YtminpglkipnhcaaNetP
import Derived.Deep.CutRange
import Derived.RegionTactic
import Derived.BigRegion
import Derived.StillTailTactics
section
namespace Go.Proofs.Ytminpglkipnhcaa
set_option linter.unusedVariables false
open Go.RowKit
section
variable {P : Program} {ops : Array Oper} {Q : Act → Prop} {w : World}
theorem wpStill_of_quiet : ∀ (l : List Oper) (a : Act), wpQuiet P ops (fun w' => ∃ x : ClsW (fun W => W = w), w' = x.val) Q l a → wpStill P ops w Q l a
  | [], _, h => h
  | o :: rest, a, h => by
    simp only [wpQuiet] at h
    simp only [wpStill]
    split at h
    · rename_i hw
      rw [if_pos hw]
      obtain ⟨v, h1, h2⟩ := h
      have h3 := h1 w ⟨⟨w, rfl⟩, rfl⟩
      have h4 := wpStill_of_quiet rest _ h2
      unfold Oper.quietAt at h3
      unfold Oper.still
      generalize (execOp a.eval o).run P w = x at h3 ⊢
      match x, h3 with
      | .ok (.value u) w', h3 => exact ⟨h3.1, by rw [h3.2]; exact h4⟩
      | .ok .skip w', h3 => exact ⟨h3.1, by rw [← h3.2]; exact h4⟩
      | .ok (.enter f args) w', h3 => exact ⟨h3.1, v, h3.2.mono fun e w'' hh => ⟨hh.1, by obtain ⟨x, hx⟩ := hh.2; rw [hx, x.ok]⟩, h4⟩
    · rename_i hw
      rw [if_neg hw]
      exact wpStill_of_quiet rest _ h
end
end Go.Proofs.Ytminpglkipnhcaa
end

section
namespace Go.Proofs.Ytminpglkipnhcaa
set_option linter.unusedVariables false
open Go.RowKit
/-- the law's model, in blocks F -/
def MdΦ (mo : Nat) (X : List Ms) (P : List (Int × Int)) (w : World) (F : List Nat) : Prop := ∃ base xv pv, F = footM mo xv pv ∧ Md w base mo xv pv X P
theorem mdΦ_stb (mo : Nat) (X : List Ms) (P : List (Int × Int)) : Stb (MdΦ mo X P) := by
  rintro w w' F H ⟨base, xv, pv, rfl, h⟩ hs hd
  exact ⟨base, xv, pv, rfl, h.step hs hd⟩
/-- both, and what else lies there -/
def St (w0 : World) (nb mb mo : Nat) (T E : List Tm) (n : Nat) (f : PK → Option Bool) (X : List Ms) (P : List (Int × Int)) (XO : List (Nat × Obj)) (w : World) : Prop :=
  Kept w0 (Both (NetΦ nb mb T E n f) (MdΦ mo X P)) XO w
section
variable {w0 w w' : World} {nb mb mo : Nat} {T E : List Tm} {n : Nat} {f : PK → Option Bool} {X : List Ms} {P : List (Int × Int)} {XO XO' : List (Nat × Obj)}
theorem St.stb : Stb (Both (NetΦ nb mb T E n f) (MdΦ mo X P)) := both_stb (netΦ_stb _ _ _ _ _ _) (mdΦ_stb _ _ _)
theorem St.step (h : St w0 nb mb mo T E n f X P XO w) (hs : Step [] w w') : St w0 nb mb mo T E n f X P XO w' := Kept.step h St.stb hs
theorem St.add (h : St w0 nb mb mo T E n f X P XO w) (hs : Step [] w w') (NO : List (Nat × Obj)) (hN : ∀ x, x ∈ NO → w.heap.size ≤ x.1 ∧ w'.heap[x.1]? = some x.2) : St w0 nb mb mo T E n f X P (NO ++ XO) w' := Kept.add h St.stb hs NO hN
theorem St.less (h : St w0 nb mb mo T E n f X P XO w) (hx : ∀ x, x ∈ XO' → x ∈ XO) : St w0 nb mb mo T E n f X P XO' w := Kept.mono h hx
theorem St.st (h : St w0 nb mb mo T E n f X P XO w) : Step [] w0 w := Kept.st h
theorem St.blk (h : St w0 nb mb mo T E n f X P XO w) {b : Nat} {C : Array Value} {T' : TypeId} (hb : (b, Obj.cells C T' (0, 0)) ∈ XO) : Blk w b C T' := Kept.blk h hb
theorem St.net (h : St w0 nb mb mo T E n f X P XO w) : ∃ base lv, NtE w base nb mb lv T E n f ∧
    ∀ w' lv' T' E' n' f', Step (footE nb mb lv T E) w w' → Fresh w (footE nb mb lv T E) (footE nb mb lv' T' E') → NtE w' base nb mb lv' T' E' n' f' → St w0 nb mb mo T' E' n' f' X P XO w' := by
  obtain ⟨A, ⟨base, lv, rfl, hN⟩, hA, hK⟩ := Kept.left h (mdΦ_stb _ _ _)
  exact ⟨base, lv, hN, fun w' lv' T' E' n' f' hs hf hN' => hK w' _ _ hs hf hN'.live ⟨base, lv', rfl, hN'⟩⟩
theorem St.md (h : St w0 nb mb mo T E n f X P XO w) : ∃ base xv pv, Md w base mo xv pv X P ∧
    ∀ w' xv' pv' X' P', Step (footM mo xv pv) w w' → Fresh w (footM mo xv pv) (footM mo xv' pv') → Md w' base mo xv' pv' X' P' → St w0 nb mb mo T E n f X' P' XO w' := by
  obtain ⟨A, ⟨base, xv, pv, rfl, hN⟩, hA, hK⟩ := Kept.right h (netΦ_stb _ _ _ _ _ _)
  exact ⟨base, xv, pv, hN, fun w' xv' pv' X' P' hs hf hN' => hK w' _ _ hs hf (fun k hk => (hN'.live k hk).2) ⟨base, xv', pv', rfl, hN'⟩⟩
theorem St.tm (h : St w0 nb mb mo T E n f X P XO w) {t : Tm} (ht : t ∈ T ++ E) : TmOk w t := by
  obtain ⟨base, lv, hN, _⟩ := h.net
  exact (hN.ok t ht).1
theorem St.fewT (h : St w0 nb mb mo T E n f X P XO w) : T.length ≤ 65 := by
  obtain ⟨base, lv, hN, _⟩ := h.net
  simpa using hN.net.few
/-- the loose ones are let go -/
theorem St.drop (h : St w0 nb mb mo T E n f X P XO w) : St w0 nb mb mo T [] n f X P XO w := by
  obtain ⟨base, lv, hN, hK⟩ := h.net
  refine hK w lv T [] n f (Step.refl _ _) (fun k hk => .inl ?_) ⟨hN.net, fun t ht => hN.ok t (List.mem_append_left _ (by simpa using ht)), ?_⟩
  · rcases mem_footE.1 hk with hk | ⟨s, hs, hk⟩
    · exact mem_footE.2 (.inl hk)
    · exact mem_footE.2 (.inr ⟨s, List.mem_append_left _ (by simpa using hs), hk⟩)
  · have := hN.dj
    rw [List.pairwise_append] at this
    simpa using this.1
/-! the net's acts -/
theorem St.send_yes (h : St w0 nb mb mo T E n f X P XO w) (x : Ms) (M : PM) (D : List Nat) (hx : MsOk w D x M) (hf : Few M) (h64 : T.length ≤ 64) (ha : (Lit.int .i64 x.fr).wf = true) (hb : (Lit.int .i64 x.too).wf = true) (hwl : wld f (pk x.fr x.too ha hb) = false) :
    Calls Try.prog 8 #[.pointer (some ⟨nb, 0, none⟩), .agg (msC x).toArray] w fun e w' => e = .returned (.bool true) ∧ ∃ t, t.M = M ∧ St w0 nb mb mo (putT T t) E n f X P XO w' := by
  obtain ⟨base, lv, hN, hK⟩ := h.net
  refine (Go.Proofs.Ytminpglkipnhcaa.send_yes base nb mb lv _ n f x M D w hN.net hx hf (by simpa using h64) ha hb hwl).mono ?_
  rintro e w' ⟨rfl, hP⟩
  obtain ⟨lv', t, ht, h1, h2, h3⟩ := hN.sent hf hP
  exact ⟨rfl, t, ht, hK w' lv' _ _ _ _ (h2.mono sub_footE) h3 h1⟩
theorem St.send_no (h : St w0 nb mb mo T E n f X P XO w) (x : Ms) (ha : (Lit.int .i64 x.fr).wf = true) (hb : (Lit.int .i64 x.too).wf = true) (hwl : wld f (pk x.fr x.too ha hb) = true) :
    Calls Try.prog 8 #[.pointer (some ⟨nb, 0, none⟩), .agg (msC x).toArray] w fun e w' => e = .returned (.bool false) ∧ St w0 nb mb mo T E n f X P XO w' := by
  obtain ⟨base, lv, hN, hK⟩ := h.net
  exact (Go.Proofs.Ytminpglkipnhcaa.send_no base nb mb lv _ n f x w hN.net ha hb hwl).mono fun e w' ⟨h1, h2⟩ => ⟨h1, h.step h2⟩
theorem St.take_yes (h : St w0 nb mb mo T E n f X P XO w) (i : Nat) (hi : i < T.length) (ha : (Lit.int .i64 (T.getD i tm0).M.fr).wf = true) (hb : (Lit.int .i64 (T.getD i tm0).M.too).wf = true) (hwl : wld f (pk (T.getD i tm0).M.fr (T.getD i tm0).M.too ha hb) = false) :
    Calls Try.prog 10 #[.pointer (some ⟨nb, 0, none⟩), .int .i64 (i : Int)] w fun e w' => e = .returned (.tuple #[.agg (msC (T.getD i tm0).x).toArray, .bool true]) ∧ St w0 nb mb mo (T.eraseIdx i) (T.getD i tm0 :: E) n f X P XO w' := by
  obtain ⟨base, lv, hN, hK⟩ := h.net
  have hg : (T.map (·.x)).getD i ms0 = (T.getD i tm0).x := by simp [List.getD, hi]
  have hm : T.getD i tm0 ∈ T ++ E := List.mem_append_left _ (by simp [List.getD, hi])
  have hok := (hN.ok _ hm).1.ok
  refine (Go.Proofs.Ytminpglkipnhcaa.take_yes base nb mb lv _ n _ i w hN.net (by simpa using hi) (by rw [hg, hok.fr]; exact ha) (by rw [hg, hok.too]; exact hb)).mono ?_
  intro e w' hP
  unfold TakeBoth at hP
  simp only [hg, hok.fr, hok.too] at hP
  rw [if_neg (by rw [hwl]; simp)] at hP
  obtain ⟨rfl, hP⟩ := hP
  rw [hg]
  rw [← eraseIdx_map] at hP
  have hp := erase_perm T E i hi
  obtain ⟨lv', h1, h2, h3⟩ := hN.post2 (fun t ht => hp.subset ht) (hN.perm hp) hP
  exact ⟨rfl, hK w' lv' _ _ _ _ (h2.mono sub_footE) h3 h1⟩
theorem St.take_wall (h : St w0 nb mb mo T E n f X P XO w) (i : Nat) (hi : i < T.length) (ha : (Lit.int .i64 (T.getD i tm0).M.fr).wf = true) (hb : (Lit.int .i64 (T.getD i tm0).M.too).wf = true) (hwl : wld f (pk (T.getD i tm0).M.fr (T.getD i tm0).M.too ha hb) = true) :
    Calls Try.prog 10 #[.pointer (some ⟨nb, 0, none⟩), .int .i64 (i : Int)] w fun e w' => e = .returned (.tuple #[.agg (msC ms0).toArray, .bool false]) ∧ St w0 nb mb mo T E n f X P XO w' := by
  obtain ⟨base, lv, hN, hK⟩ := h.net
  have hg : (T.map (·.x)).getD i ms0 = (T.getD i tm0).x := by simp [List.getD, hi]
  have hm : T.getD i tm0 ∈ T ++ E := List.mem_append_left _ (by simp [List.getD, hi])
  have hok := (hN.ok _ hm).1.ok
  refine (Go.Proofs.Ytminpglkipnhcaa.take_yes base nb mb lv _ n _ i w hN.net (by simpa using hi) (by rw [hg, hok.fr]; exact ha) (by rw [hg, hok.too]; exact hb)).mono ?_
  intro e w' hP
  unfold TakeBoth at hP
  simp only [hg, hok.fr, hok.too] at hP
  rw [if_pos hwl] at hP
  exact ⟨hP.1, h.step hP.2⟩
theorem St.take_no (h : St w0 nb mb mo T E n f X P XO w) (i : Int) (hi : hasI i T.length = false) :
    Calls Try.prog 10 #[.pointer (some ⟨nb, 0, none⟩), .int .i64 i] w fun e w' => e = .returned (.tuple #[.agg (msC ms0).toArray, .bool false]) ∧ St w0 nb mb mo T E n f X P XO w' := by
  obtain ⟨base, lv, hN, hK⟩ := h.net
  exact (Go.Proofs.Ytminpglkipnhcaa.take_no base nb mb lv _ n f i w hN.net (by simpa using hi)).mono fun e w' ⟨h1, h2⟩ => ⟨h1, h.step h2⟩
theorem St.lose_yes (h : St w0 nb mb mo T E n f X P XO w) (i : Nat) (hi : i < T.length) :
    Calls Try.prog 16 #[.pointer (some ⟨nb, 0, none⟩), .int .i64 (i : Int)] w fun e w' => e = .returned (.bool true) ∧ St w0 nb mb mo (T.eraseIdx i) E n f X P XO w' := by
  obtain ⟨base, lv, hN, hK⟩ := h.net
  refine (Go.Proofs.Ytminpglkipnhcaa.lose_yes base nb mb lv _ n f i w hN.net (by simpa using hi)).mono ?_
  rintro e w' ⟨rfl, hP⟩
  rw [← eraseIdx_map] at hP
  obtain ⟨lv', h1, h2, h3⟩ := hN.post (List.eraseIdx_sublist _ _) hP
  exact ⟨rfl, hK w' lv' _ _ _ _ (h2.mono sub_footE) h3 h1⟩
theorem St.lose_no (h : St w0 nb mb mo T E n f X P XO w) (i : Int) (hi : hasI i T.length = false) :
    Calls Try.prog 16 #[.pointer (some ⟨nb, 0, none⟩), .int .i64 i] w fun e w' => e = .returned (.bool false) ∧ w = w' := by
  obtain ⟨base, lv, hN, hK⟩ := h.net
  exact Go.Proofs.Ytminpglkipnhcaa.lose_no base nb mb lv _ n f i w hN.net (by simpa using hi)
theorem St.twice_yes (h : St w0 nb mb mo T E n f X P XO w) (i : Nat) (hi : i < T.length) (h64 : T.length ≤ 64) :
    Calls Try.prog 15 #[.pointer (some ⟨nb, 0, none⟩), .int .i64 (i : Int)] w fun e w' => e = .returned (.bool true) ∧ ∃ t, t.M = (T.getD i tm0).M ∧ St w0 nb mb mo (putT T t) E n f X P XO w' := by
  obtain ⟨base, lv, hN, hK⟩ := h.net
  have hg : (T.map (·.x)).getD i ms0 = (T.getD i tm0).x := by simp [List.getD, hi]
  have hm : T.getD i tm0 ∈ T ++ E := List.mem_append_left _ (by simp [List.getD, hi])
  refine (Go.Proofs.Ytminpglkipnhcaa.twice_yes base nb mb lv _ n f i (T.getD i tm0).M (T.getD i tm0).D w hN.net (by simpa using hi) (by rw [hg]; exact (hN.ok _ hm).1.ok) (hN.ok _ hm).1.few (by simpa using h64)).mono ?_
  rintro e w' ⟨rfl, hP⟩
  obtain ⟨lv', t, ht, h1, h2, h3⟩ := hN.sent (hN.ok _ hm).1.few hP
  exact ⟨rfl, t, ht, hK w' lv' _ _ _ _ (h2.mono sub_footE) h3 h1⟩
theorem St.twice_no (h : St w0 nb mb mo T E n f X P XO w) (i : Int) (hi : hasI i T.length = false) :
    Calls Try.prog 15 #[.pointer (some ⟨nb, 0, none⟩), .int .i64 i] w fun e w' => e = .returned (.bool false) ∧ w = w' := by
  obtain ⟨base, lv, hN, hK⟩ := h.net
  exact Go.Proofs.Ytminpglkipnhcaa.twice_no base nb mb lv _ n f i w hN.net (by simpa using hi)
theorem putT_erase_perm (T E : List Tm) (i : Nat) (hi : i < T.length) (h64 : T.length ≤ 64) : putT (T.eraseIdx i) (T.getD i tm0) = T.eraseIdx i ++ [T.getD i tm0] := by
  unfold putT
  rw [if_neg]
  simp only [List.length_append, List.length_eraseIdx, if_pos hi, List.length_cons, List.length_nil]
  omega
theorem St.last_yes (h : St w0 nb mb mo T E n f X P XO w) (i : Nat) (hi : i < T.length) (h64 : T.length ≤ 64) :
    Calls Try.prog 17 #[.pointer (some ⟨nb, 0, none⟩), .int .i64 (i : Int)] w fun e w' => e = .returned (.bool true) ∧ St w0 nb mb mo (T.eraseIdx i ++ [T.getD i tm0]) E n f X P XO w' := by
  obtain ⟨base, lv, hN, hK⟩ := h.net
  have hg : (T.map (·.x)).getD i ms0 = (T.getD i tm0).x := by simp [List.getD, hi]
  refine (Go.Proofs.Ytminpglkipnhcaa.last_yes base nb mb lv _ n f i w hN.net (by simpa using hi) (by simp; omega)).mono ?_
  rintro e w' ⟨rfl, hP⟩
  rw [hg, ← eraseIdx_map, ← putT_map, putT_erase_perm T E i hi h64] at hP
  have hp : (T.eraseIdx i ++ [T.getD i tm0] ++ E).Perm (T ++ E) := by
    have := erase_perm T E i hi
    simpa using this
  obtain ⟨lv', h1, h2, h3⟩ := hN.post2 (fun t ht => hp.subset ht) (hN.perm hp) hP
  exact ⟨rfl, hK w' lv' _ _ _ _ (h2.mono sub_footE) h3 h1⟩
theorem St.last_no (h : St w0 nb mb mo T E n f X P XO w) (i : Int) (hi : hasI i T.length = false) :
    Calls Try.prog 17 #[.pointer (some ⟨nb, 0, none⟩), .int .i64 i] w fun e w' => e = .returned (.bool false) ∧ w = w' := by
  obtain ⟨base, lv, hN, hK⟩ := h.net
  exact Go.Proofs.Ytminpglkipnhcaa.last_no base nb mb lv _ n f i w hN.net (by simpa using hi)
/-- the walls are others -/
theorem NtE.walls {base : Nat} {lv : Value} (hN : NtE w base nb mb lv T E n f) {n' : Nat} {f' : PK → Option Bool} (h1 : Nt w' base nb mb lv (T.map (·.x)) n' f') (hs : Step [mb] w w') : NtE w' base nb mb lv T E n' f' :=
  ⟨h1, fun t ht => ⟨(hN.ok t ht).1.step hs (fun k hk hm => by
    simp only [List.mem_cons, List.not_mem_nil, or_false] at hm
    subst hm
    exact (hN.ok t ht).2 k hk (by simp [footN])), (hN.ok t ht).2⟩, hN.dj⟩
theorem mb_footE {lv : Value} : ∀ k, k ∈ [mb] → k ∈ footE nb mb lv T E := fun k hk => by
  simp only [List.mem_cons, List.not_mem_nil, or_false] at hk
  subst hk
  exact mem_footE.2 (.inl (by simp [footN]))
theorem St.wall_up (h : St w0 nb mb mo T E n f X P XO w) (a b : Int) (hn : n ≤ 900) (ha : 1 ≤ a ∧ a ≤ 7) (hb : 1 ≤ b ∧ b ≤ 7) (hab : a ≠ b) (wa : (Lit.int .i64 a).wf = true) (wb : (Lit.int .i64 b).wf = true) :
    Calls Try.prog 18 #[.pointer (some ⟨nb, 0, none⟩), .int .i64 a, .int .i64 b, .bool true] w fun e w' => e = .returned (.int .i64 0) ∧ St w0 nb mb mo T E (n + 1) (upd f (pk a b wa wb) (some true)) X P XO w' := by
  obtain ⟨base, lv, hN, hK⟩ := h.net
  exact (Go.Proofs.Ytminpglkipnhcaa.wall_up a b w hN.net hn ha hb hab wa wb).mono fun e w' ⟨h1, h2, h3⟩ => ⟨h1, hK w' lv _ _ _ _ (h3.mono mb_footE) (fun k hk => .inl hk) (hN.walls h2 h3)⟩
theorem St.wall_down (h : St w0 nb mb mo T E n f X P XO w) (a b : Int) (ha : 1 ≤ a ∧ a ≤ 7) (hb : 1 ≤ b ∧ b ≤ 7) (hab : a ≠ b) (wa : (Lit.int .i64 a).wf = true) (wb : (Lit.int .i64 b).wf = true) :
    Calls Try.prog 18 #[.pointer (some ⟨nb, 0, none⟩), .int .i64 a, .int .i64 b, .bool false] w fun e w' => e = .returned (.int .i64 0) ∧ St w0 nb mb mo T E n (upd f (pk a b wa wb) none) X P XO w' := by
  obtain ⟨base, lv, hN, hK⟩ := h.net
  exact (Go.Proofs.Ytminpglkipnhcaa.wall_down a b w hN.net ha hb hab wa wb).mono fun e w' ⟨h1, h2, h3⟩ => ⟨h1, hK w' lv _ _ _ _ (h3.mono mb_footE) (fun k hk => .inl hk) (hN.walls h2 h3)⟩
theorem St.walled (h : St w0 nb mb mo T E n f X P XO w) (a b : Int) (ha : (Lit.int .i64 a).wf = true) (hb : (Lit.int .i64 b).wf = true) :
    Calls Try.prog 21 #[.pointer (some ⟨nb, 0, none⟩), .int .i64 a, .int .i64 b] w fun e w' => e = .returned (.bool (wld f (pk a b ha hb))) ∧ Step [] w w' := by
  obtain ⟨base, lv, hN, hK⟩ := h.net
  exact walled_any base nb mb lv _ n f a b ha hb w hN.net
theorem St.len (h : St w0 nb mb mo T E n f X P XO w) :
    Calls Try.prog 9 #[.pointer (some ⟨nb, 0, none⟩)] w fun e w' => e = .returned (.int .i64 (T.length : Int)) ∧ Step [] w w' := by
  obtain ⟨base, lv, hN, hK⟩ := h.net
  have := len_any base nb mb lv _ n f w hN.net
  rw [List.length_map] at this
  exact this
def keepU (T : List Tm) (node : Int) : List Tm := T.filter fun t => !(t.M.too == node)
theorem keepU_map {T : List Tm} (node : Int) (h : ∀ t, t ∈ T → t.x.too = t.M.too) : (keepU T node).map (·.x) = keepT (T.map (·.x)) node := by
  induction T with
  | nil => rfl
  | cons t r ih =>
    have h1 := h t List.mem_cons_self
    have h2 := ih (fun s hs => h s (List.mem_cons_of_mem _ hs))
    unfold keepU keepT at h2 ⊢
    rw [List.map_cons, List.filter_cons, List.filter_cons, h1]
    split
    · rw [List.map_cons, h2]
    · exact h2
theorem St.forget (h : St w0 nb mb mo T E n f X P XO w) (node : Int) :
    Calls Try.prog 19 #[.pointer (some ⟨nb, 0, none⟩), .int .i64 node] w fun e w' => e = .returned (.int .i64 ((T.length : Int) - ((keepU T node).length : Int))) ∧ St w0 nb mb mo (keepU T node) E n f X P XO w' := by
  obtain ⟨base, lv, hN, hK⟩ := h.net
  have hm := keepU_map node (fun t ht => (hN.ok t (List.mem_append_left _ ht)).1.ok.too)
  refine (forget_any base nb mb lv _ n f node w hN.net).mono ?_
  rintro e w' ⟨rfl, hP⟩
  rw [← hm] at hP ⊢
  obtain ⟨lv', h1, h2, h3⟩ := hN.post List.filter_sublist hP
  exact ⟨by simp, hK w' lv' _ _ _ _ (h2.mono sub_footE) h3 h1⟩
theorem St.copy (h : St w0 nb mb mo T E n f X P XO w) (h64 : T.length ≤ 64) :
    Calls Try.prog 20 #[.pointer (some ⟨nb, 0, none⟩)] w (CopyPost T.length n f w) := by
  obtain ⟨base, lv, hN, hK⟩ := h.net
  exact copy_any base nb mb lv T E n f w hN h64
/-! the model's acts -/
theorem St.put (h : St w0 nb mb mo T E n f X P XO w) (x : Ms) (h64 : X.length ≤ 64) :
    Calls Try.prog 27 #[.pointer (some ⟨mo, 0, none⟩), .agg (msC x).toArray] w fun e w' => e = .returned (.tuple #[]) ∧ St w0 nb mb mo T E n f (putL X x) P XO w' := by
  obtain ⟨base, xv, pv, hN, hK⟩ := h.md
  exact (mput_any x w hN h64).mono fun e w' ⟨h1, xv', h2, h3, h4⟩ => ⟨h1, hK w' xv' _ _ _ h3 h4 h2⟩
theorem St.cut (h : St w0 nb mb mo T E n f X P XO w) (i : Nat) (hi : i < X.length) :
    Calls Try.prog 28 #[.pointer (some ⟨mo, 0, none⟩), .int .i64 (i : Int)] w fun e w' => e = .returned (.tuple #[]) ∧ St w0 nb mb mo T E n f (X.eraseIdx i) P XO w' := by
  obtain ⟨base, xv, pv, hN, hK⟩ := h.md
  exact (mcut_any i w hN hi).mono fun e w' ⟨h1, xv', h2, h3, h4⟩ => ⟨h1, hK w' xv' _ _ _ h3 h4 h2⟩
theorem St.mwalled (h : St w0 nb mb mo T E n f X P XO w) (a b : Int) :
    Calls Try.prog 26 #[.pointer (some ⟨mo, 0, none⟩), .int .i64 a, .int .i64 b] w fun e w' => e = .returned (.bool (hasW P a b)) ∧ Step [] w w' := by
  obtain ⟨base, xv, pv, hN, hK⟩ := h.md
  exact mwalled_any a b w hN
end
/-! what the model's messages say is what the net's say -/
structure Good (w0 : World) (x : Ms) (M : PM) : Prop where
  ok : ∃ D, MsOk w0 D x M
  few : Few M
  wa : (Lit.int .i64 x.fr).wf = true
  wb : (Lit.int .i64 x.too).wf = true
inductive RX (w0 : World) : List Ms → List PM → Prop
  | nil : RX w0 [] []
  | cons {x M X L} : Good w0 x M → RX w0 X L → RX w0 (x :: X) (M :: L)
section
variable {w0 : World} {X : List Ms} {L : List PM}
theorem RX.len (h : RX w0 X L) : X.length = L.length := by
  induction h with
  | nil => rfl
  | cons _ _ ih => simp [ih]
theorem RX.at (h : RX w0 X L) : ∀ i, i < X.length → Good w0 (X.getD i ms0) (L.getD i pm0) := by
  induction h with
  | nil => intro i hi; simp at hi
  | cons h1 _ ih =>
    intro i hi
    cases i with
    | zero => simpa using h1
    | succ i => simpa using ih i (by simpa using hi)
theorem RX.app {X' : List Ms} {L' : List PM} (h : RX w0 X L) (h' : RX w0 X' L') : RX w0 (X ++ X') (L ++ L') := by
  induction h with
  | nil => exact h'
  | cons h1 _ ih => exact .cons h1 ih
theorem RX.erase (h : RX w0 X L) : ∀ i, RX w0 (X.eraseIdx i) (L.eraseIdx i) := by
  induction h with
  | nil => intro i; exact .nil
  | cons h1 h2 ih =>
    intro i
    cases i with
    | zero => exact h2
    | succ i => exact .cons h1 (ih i)
theorem RX.put {x : Ms} {T : List Tm} {t : Tm} (h : RX w0 X (T.map (·.M))) (hx : Good w0 x t.M) : RX w0 (putL X x) ((putT T t).map (·.M)) := by
  have hl := h.len
  have h1 := h.app (.cons hx .nil)
  unfold putL putT
  simp only [List.length_append, List.length_cons, List.length_nil] at *
  simp only [List.length_map] at hl
  rw [hl]
  split
  · have := h1.erase 0
    cases T with
    | nil => cases X <;> simp at hl; simpa using this
    | cons a r => cases X <;> simp at hl; simpa using this
  · simpa using h1
theorem RX.keep (h : RX w0 X L) (node : Int) : RX w0 (keepT X node) (L.filter fun M => !(M.too == node)) := by
  induction h with
  | nil => exact .nil
  | cons h1 _ ih =>
    obtain ⟨D, hD⟩ := h1.ok
    unfold keepT at ih ⊢
    rw [List.filter_cons, List.filter_cons, hD.too]
    split
    · exact .cons h1 ih
    · exact ih
theorem keepU_M (T : List Tm) (node : Int) : (keepU T node).map (·.M) = (T.map (·.M)).filter fun M => !(M.too == node) := by
  unfold keepU
  rw [List.filter_map]
  rfl
end
end Go.Proofs.Ytminpglkipnhcaa
end

section
namespace Go.Proofs.Ytminpglkipnhcaa
set_option linter.unusedVariables false
set_option linter.unusedSimpArgs false
open Go.RowKit
attribute [local go_sem ↓] exec_load_m exec_store_m
attribute [local go_sem] Try.load_m row_drew Try.store_m
/-- the cells of an act -/
def actC (k i j : Int) (u : Bool) (x : Ms) : List Value := [.int .i64 k, .int .i64 i, .int .i64 j, .bool u, .int .i64 x.kd, .int .i64 x.fr, .int .i64 x.too, .int .u64 x.tm, .int .u64 x.ix, .int .u64 x.lt, .int .u64 x.cm, .bool x.ys, .slice x.ea x.en x.ec, .slice x.ma x.mn x.mc, .slice x.da x.dn x.dc]
theorem act_cells {W : World} {b : Nat} {k i j : Int} {u : Bool} {x : Ms} (hb : Blk W b (actC k i j u x).toArray 43) :
    W.cell? ⟨b, 0, none⟩ = some (.int .i64 k) ∧ W.cell? ⟨b, 1, none⟩ = some (.int .i64 i) ∧ W.cell? ⟨b, 2, none⟩ = some (.int .i64 j) ∧ W.cell? ⟨b, 3, none⟩ = some (.bool u) ∧ W.cell? ⟨b, 5, none⟩ = some (.int .i64 x.fr) ∧ W.cell? ⟨b, 6, none⟩ = some (.int .i64 x.too) :=
  ⟨hb.cell 0, hb.cell 1, hb.cell 2, hb.cell 3, hb.cell 5, hb.cell 6⟩
/-- the state at a round of the law -/
structure Rd (w0 : World) (nb mb mo q : Nat) (T : List Tm) (X : List Ms) (n : Nat) (f : PK → Option Bool) (P : List (Int × Int)) (XO : List (Nat × Obj)) (w : World) : Prop where
  st : St w0 nb mb mo T [] n f X P XO w
  rx : RX w0 X (T.map (·.M))
  wr : ∀ a b ha hb, hasW P a b = wld f (pk a b ha hb)
  n64 : T.length ≤ 64
  nq : n ≤ q
  pq : P.length ≤ q
def RdE (w0 : World) (nb mb mo q : Nat) (XO : List (Nat × Obj)) (w : World) : Prop := ∃ T X n f P, Rd w0 nb mb mo q T X n f P XO w
section
variable {w0 w : World} {nb mb mo q : Nat} {T : List Tm} {X : List Ms} {n : Nat} {f : PK → Option Bool} {P : List (Int × Int)} {XO : List (Nat × Obj)}
theorem Rd.lenX (h : Rd w0 nb mb mo q T X n f P XO w) : X.length = T.length := by
  have := h.rx.len
  simpa using this
theorem row_step {w w' : World} {F : List Nat} {g o k : Nat} {cs : List Value} (h : rowC w g o k = some cs) (hg : g < w.heap.size) (hs : Step F w w') (hn : g ∉ F) : rowC w' g o k = some cs := by
  obtain ⟨h1, h2⟩ := range_of_row w g k o cs h
  rw [← h2]
  exact row_of_range _ g cs o (fun j v hj => by rw [hs.cell hg hn]; exact h1 j v hj)
theorem Rd.row (h : Rd w0 nb mb mo q T X n f P XO w) (m : Nat) (hm : m < T.length) : ∃ g o c pv, Blk w mo #[.slice (some ⟨g, o, none⟩) T.length c, pv] 41 ∧ g < w.heap.size ∧ rowC w g (o + m * 11) 11 = some (msC (X.getD m ms0)) := by
  obtain ⟨base, xv, pv, hN, hK⟩ := h.st.md
  have hl := h.lenX
  obtain ⟨g, o, c, rfl, -, -⟩ := hN.own.form (by omega)
  refine ⟨g, o * 11, c, pv, by have := hN.blk; rwa [hl] at this, (hN.own.low g (by simp [foot, Value.ownBlock])).2, ?_⟩
  have hc := hN.own.cell _ _ _ rfl
  have hg : X.getD m ms0 = X[m]'(by omega) := by simp [List.getD, show m < X.length by omega]
  refine row_of_range w g (msC (X.getD m ms0)) (o * 11 + m * 11) (fun j u hu => ?_)
  have hj : j < 11 := (List.getElem?_eq_some_iff.1 hu).1
  have := hc (m * 11 + j) u (by unfold flatM; rw [flatF_at msC_len X m j (by omega) hj, ← hg]; exact hu)
  rw [Go.Proofs.Ytminpglkipnhcaa.add_plain, ← Nat.add_assoc] at this
  exact this
theorem Rd.mod (h : Rd w0 nb mb mo q T X n f P XO w) : ∃ a c pv, Blk w mo #[.slice a T.length c, pv] 41 := by
  obtain ⟨base, xv, pv, hN, hK⟩ := h.st.md
  have hl := h.lenX
  rcases hN.own.2 with ⟨rfl, h0⟩ | ⟨g, o, cap, zs, rfl, h2, h3⟩
  · exact ⟨none, 0, pv, by have := hN.blk; rw [hl] at h0; rw [h0]; exact this⟩
  · exact ⟨_, cap, pv, by have := hN.blk; rwa [hl] at this⟩
theorem act_row {W : World} {b : Nat} {k i j : Int} {u : Bool} {x : Ms} (hb : Blk W b (actC k i j u x).toArray 43) : rowC W b 4 11 = some (msC x) :=
  row_of_range W b (msC x) 4 (fun jj v hj => by
    rw [hb.cell (4 + jj)]
    have e : actC k i j u x = [.int .i64 k, .int .i64 i, .int .i64 j, .bool u] ++ msC x := rfl
    rw [e, List.getElem?_toArray, List.getElem?_append_right (by simp)]
    simpa using hj)
theorem putT_le {T : List Tm} (h : T.length ≤ 64) (t : Tm) : (putT T t).length ≤ 64 := by
  unfold putT
  split
  · rw [List.length_eraseIdx]
    simp only [List.length_append, List.length_cons, List.length_nil] at *
    split <;> omega
  · simp only [List.length_append, List.length_cons, List.length_nil] at *
    omega
theorem mapM_getD (T : List Tm) (m : Nat) (h : m < T.length) : (T.map (·.M)).getD m pm0 = (T.getD m tm0).M := by simp [List.getD, h]
theorem mapM_erase : ∀ (T : List Tm) (i : Nat), (T.eraseIdx i).map (·.M) = (T.map (·.M)).eraseIdx i
  | [], i => by simp
  | t :: r, 0 => by simp
  | t :: r, i + 1 => by simp [mapM_erase r i]
/-- a block of those that are known is set anew -/
theorem St.zero {w' : World} {E : List Tm} {b b2 : Nat} {o o2 : Obj} (h : St w0 nb mb mo T E n f X P ((b2, o2) :: (b, o) :: XO) w) (hs : Step [b] w w') : (∀ x, x ∈ XO → x.1 ≠ b) → St w0 nb mb mo T E n f X P XO w' := fun hb =>
  Kept.set h St.stb (hs.mono (fun k hk => by simp at hk; subst hk; simp)) (fun x hx => ⟨.inl (List.mem_map_of_mem (.tail _ (.tail _ hx))), (hs.block x.1 (Kept.lt h (.tail _ (.tail _ hx))).2 (by simpa using hb x hx)).trans (Kept.get h (.tail _ (.tail _ hx)))⟩)
end
end Go.Proofs.Ytminpglkipnhcaa
end

section
namespace Go.Proofs.Ytminpglkipnhcaa
set_option linter.unusedVariables false
set_option linter.unusedSimpArgs false
open Go.RowKit
section
variable {w0 w w' : World} {base mb : Nat} {xv pv : Value} {X : List Ms} {P : List (Int × Int)}
/-- other walls are stored -/
theorem Md.storedW {w8 : World} {pv8 : Value} {P8 : List (Int × Int)} (h : Md w base mb xv pv X P) (hs : Step (foot pv) w w8) (ho : w8.ownsRow base 65 2 pv8 P8.length (flatP P8)) (hf : Fresh w (foot pv) (foot pv8)) (hfew : P8.length ≤ 200) :
    Md (w8.setCell ⟨mb, 1, none⟩ pv8) base mb xv pv8 X P8 ∧ Step (footM mb xv pv) w (w8.setCell ⟨mb, 1, none⟩ pv8) ∧ Fresh w (footM mb xv pv) (footM mb xv pv8) := by
  have hst : Step [mb] w8 (w8.setCell ⟨mb, 1, none⟩ pv8) := (Step.refl [mb] w8).setCell (.inl (by simp)) 1 _
  have hmb : mb ∉ foot pv8 := fun hk => by
    rcases hf _ hk with h1 | h1
    · exact h.ap2 h1
    · have := h.blk.lt
      omega
  refine ⟨⟨(h.blk.step hs h.ap2).set 1 _, (h.own.step hs (fun k hk hm => h.ap3 k hk hm)).step hst (fun k hk hm => by simp at hm; subst hm; exact h.ap1 hk), owns_step ho hst (fun k hk hm => by simp at hm; subst hm; exact hmb hk), h.low, h.ap1, hmb, fun k hk hm => ?_, h.few, hfew⟩, (hs.mono (fun k hk => by simp [footM, hk])).then hst (fun k hk => .inl (by simp at hk; simp [footM, hk])), fun k hk => ?_⟩
  · rcases hf k hm with h1 | h1
    · exact h.ap3 k hk h1
    · have := (h.own.low k hk).2
      omega
  · simp only [footM, List.mem_cons, List.mem_append] at hk ⊢
    rcases hk with rfl | hk | hk
    · exact .inl (.inl rfl)
    · exact .inl (.inr (.inl hk))
    · rcases hf k hk with h1 | h1
      · exact .inl (.inr (.inr h1))
      · exact .inr h1
end
/-- the walls without those between two nodes -/
def noW (i j : Int) (p : Int × Int) : Bool := !(p.1 == i && p.2 == j) && !(p.1 == j && p.2 == i)
def keepW (P : List (Int × Int)) (i j : Int) : List (Int × Int) := P.filter (noW i j)
theorem keepW_le (P : List (Int × Int)) (i j : Int) : (keepW P i j).length ≤ P.length := List.length_filter_le _ _
theorem keepW_snoc (P : List (Int × Int)) (i j : Int) (q : Nat) (hq : q < P.length) : keepW (P.take (q + 1)) i j = keepW (P.take q) i j ++ if noW i j P[q] then [P[q]] else [] := by
  unfold keepW
  rw [List.take_succ_eq_append_getElem hq, List.filter_append]
  congr 1
  rw [List.filter_cons]
  split <;> rfl
theorem upd_same {f : PK → Option Bool} {p : PK} {v : Option Bool} : upd f p v p = v := by simp [upd]
theorem upd_other {f : PK → Option Bool} {p q : PK} {v : Option Bool} (h : q ≠ p) : upd f p v q = f q := by simp [upd, h]
theorem pk_eq {a b i j : Int} {ha hb hi hj} : pk a b ha hb = pk i j hi hj ↔ (a = i ∧ b = j) ∨ (a = j ∧ b = i) := by
  constructor
  · intro h
    have h1 : (pk a b ha hb).a = (pk i j hi hj).a := by rw [h]
    have h2 : (pk a b ha hb).b = (pk i j hi hj).b := by rw [h]
    simp only [pk] at h1 h2
    omega
  · rintro (⟨rfl, rfl⟩ | ⟨rfl, rfl⟩)
    · rfl
    · exact PK.eq (by simp only [pk]; omega) (by simp only [pk]; omega)
theorem hasW_app (P Q : List (Int × Int)) (a b : Int) : hasW (P ++ Q) a b = (hasW P a b || hasW Q a b) := by
  unfold hasW
  rw [List.any_append]
theorem hasW_keep_same (P : List (Int × Int)) {i j a b : Int} (h : (a = i ∧ b = j) ∨ (a = j ∧ b = i)) : hasW (keepW P i j) a b = false := by
  unfold hasW keepW
  rw [List.any_eq_false]
  intro p hp
  have hn := (List.mem_filter.1 hp).2
  unfold noW at hn
  rcases h with ⟨rfl, rfl⟩ | ⟨rfl, rfl⟩ <;> simp at hn ⊢ <;> omega
theorem hasW_keep_other (P : List (Int × Int)) {i j a b : Int} (h : ¬ ((a = i ∧ b = j) ∨ (a = j ∧ b = i))) : hasW (keepW P i j) a b = hasW P a b := by
  unfold hasW keepW
  rw [List.any_filter]
  congr 1
  funext p
  unfold noW
  rw [Bool.eq_iff_iff]
  simp
  omega
theorem walls_set {P : List (Int × Int)} {f : PK → Option Bool} (hw : ∀ a b ha hb, hasW P a b = wld f (pk a b ha hb)) (i j : Int) (hi : (Lit.int .i64 i).wf = true) (hj : (Lit.int .i64 j).wf = true) :
    (∀ a b ha hb, hasW (keepW P i j ++ [(i, j)]) a b = wld (upd f (pk i j hi hj) (some true)) (pk a b ha hb)) ∧ (∀ a b ha hb, hasW (keepW P i j) a b = wld (upd f (pk i j hi hj) none) (pk a b ha hb)) := by
  refine ⟨fun a b ha hb => ?_, fun a b ha hb => ?_⟩
  · by_cases h : (a = i ∧ b = j) ∨ (a = j ∧ b = i)
    · rw [hasW_app, hasW_keep_same P h]
      have : pk a b ha hb = pk i j hi hj := pk_eq.2 h
      rw [this]
      unfold wld
      rw [upd_same]
      unfold hasW
      rcases h with ⟨rfl, rfl⟩ | ⟨rfl, rfl⟩ <;> simp
    · rw [hasW_app, hasW_keep_other P h, hw a b ha hb]
      have : pk a b ha hb ≠ pk i j hi hj := fun e => h (pk_eq.1 e)
      unfold wld
      rw [upd_other this]
      have : hasW [(i, j)] a b = false := by
        unfold hasW
        simp
        omega
      rw [this, Bool.or_false]
  · by_cases h : (a = i ∧ b = j) ∨ (a = j ∧ b = i)
    · rw [hasW_keep_same P h]
      have : pk a b ha hb = pk i j hi hj := pk_eq.2 h
      rw [this]
      unfold wld
      rw [upd_same]
      rfl
    · rw [hasW_keep_other P h, hw a b ha hb]
      have : pk a b ha hb ≠ pk i j hi hj := fun e => h (pk_eq.1 e)
      unfold wld
      rw [upd_other this]
theorem flatP_app (l r : List (Int × Int)) : flatP (l ++ r) = flatP l ++ flatP r := by simp [flatP]
theorem Try.infoP : (Try.prog.info? 65).map (fun i => (i.zero, i.size, i.bytes)) = some (some (.agg #[.int .i64 0, .int .i64 0]), 2, 16) := by kernel_rfl
theorem one_p (w : World) (p : Int × Int) : (oneBig 39 (.agg (wC p).toArray)).run Try.prog w = .ok (.slice (some ⟨w.heap.size, 0, none⟩) 1 1) (w.alloc (.cells (wC p).toArray 65)) := by
  obtain ⟨i0, hi0, hz0, hz1, hz2⟩ := info_parts Try.infoP
  exact run_oneBig 39 65 2 i0 _ Try.underlying39 hi0 hz0 hz1 (by decide) (by decide) _ rfl w
/-- a new block with a wall -/
def SpW (B : Nat) (p : Int × Int) (v : Value) (w : World) : Prop := ∃ b, v = .slice (some ⟨b, 0, none⟩) 1 1 ∧ Blk w b (wC p).toArray 65 ∧ B ≤ b
theorem spW_step (B : Nat) (p : Int × Int) : ∀ v w w', SpW B p v w → Step [] w w' → SpW B p v w' := by
  rintro v w w' ⟨b, h1, h2, h3⟩ hs
  exact ⟨b, h1, h2.step hs (by simp), h3⟩
section
variable {w0 wc wr : World} {nb mb mo q : Nat} {T E : List Tm} {X : List Ms} {n : Nat} {f : PK → Option Bool} {P P8 : List (Int × Int)} {XO : List (Nat × Obj)}
/-- other walls, of new memory, are stored -/
theorem St.walls (h : St w0 nb mb mo T E n f X P XO wc) (hs : Step [] wc wr) {l : Value} (ho : wr.ownsRow wc.heap.size 65 2 l P8.length (flatP P8)) (hf : P8.length ≤ 200) :
    St w0 nb mb mo T E n f X P8 XO (wr.setCell ⟨mo, 1, none⟩ l) ∧ (wr.cell? ⟨mo, 1, none⟩).isSome = true ∧ wr.frozen? ⟨mo, 1, none⟩ = false := by
  obtain ⟨base, xv, pv, hM, hK⟩ := h.md
  obtain ⟨h1, h2, h3⟩ := hM.storedW (w8 := wr) (pv8 := l) (P8 := P8) (hs.mono (by simp)) (owns_low ho (Nat.le_trans hM.low (Nat.le_of_lt hM.blk.lt))) (fun k hk => .inr (owns_base ho k hk)) hf
  refine ⟨hK _ _ _ _ _ h2 h3 h1, ?_, (hM.blk.step hs (by simp)).free 1⟩
  rw [(hM.blk.step hs (by simp)).cell 1]
  rfl
/-- one more wall -/
theorem St.wallApp (h : St w0 nb mb mo T E n f X P XO wc) : ∃ base xv pv, Md wc base mo xv pv X P ∧ ∀ w8 pv8, Step (foot pv) wc w8 → w8.ownsRow base 65 2 pv8 P8.length (flatP P8) → Fresh wc (foot pv) (foot pv8) → P8.length ≤ 200 →
    St w0 nb mb mo T E n f X P8 XO (w8.setCell ⟨mo, 1, none⟩ pv8) ∧ w8.cell? ⟨mo, 1, none⟩ = some pv ∧ w8.frozen? ⟨mo, 1, none⟩ = false := by
  obtain ⟨base, xv, pv, hM, hK⟩ := h.md
  refine ⟨base, xv, pv, hM, fun w8 pv8 hs ho hfr hf => ?_⟩
  obtain ⟨h1, h2, h3⟩ := hM.storedW hs ho hfr hf
  exact ⟨hK _ _ _ _ _ h2 h3 h1, (hM.blk.step hs hM.ap2).cell 1, (hM.blk.step hs hM.ap2).free 1⟩
end
theorem row_new2 (w : World) (l : List Value) (T : TypeId) : ∀ j u, l[j]? = some u → (w.alloc (.cells l.toArray T)).cell? (Addr.add ⟨w.heap.size, 0, none⟩ j) = some u := by
  intro j u hu
  rw [add_plain, Nat.zero_add, (Blk.new w l.toArray T).cell j]
  simpa using hu
theorem one_p2 (w : World) (i j : Int) : (oneBig 39 (.agg #[.int .i64 i, .int .i64 j])).run Try.prog w = .ok (.slice (some ⟨w.heap.size, 0, none⟩) 1 1) (w.alloc (.cells (wC (i, j)).toArray 65)) := one_p w (i, j)
end Go.Proofs.Ytminpglkipnhcaa
end

section
namespace Go.Proofs.Ytminpglkipnhcaa
set_option linter.unusedVariables false
set_option linter.unusedSimpArgs false
open Go.RowKit
section
variable {w0 wc wr : World} {nb mb mo q : Nat} {T E : List Tm} {X X8 : List Ms} {n : Nat} {f : PK → Option Bool} {P : List (Int × Int)} {XO : List (Nat × Obj)}
theorem St.msgs (h : St w0 nb mb mo T E n f X P XO wc) (hs : Step [] wc wr) {l : Value} (ho : wr.ownsRow wc.heap.size 31 11 l X8.length (flatM X8)) (hf : X8.length ≤ 65) :
    St w0 nb mb mo T E n f X8 P XO (wr.setCell ⟨mo, 0, none⟩ l) ∧ (wr.cell? ⟨mo, 0, none⟩).isSome = true ∧ wr.frozen? ⟨mo, 0, none⟩ = false := by
  obtain ⟨base, xv, pv, hM, hK⟩ := h.md
  obtain ⟨h1, h2, h3⟩ := hM.stored (w8 := wr) (xv8 := l) (X8 := X8) (hs.mono (by simp)) (OwnO.of (owns_low ho (Nat.le_trans hM.low (Nat.le_of_lt hM.blk.lt)))) (fun k hk => .inr (owns_base ho k hk)) hf
  refine ⟨hK _ _ _ _ _ h2 h3 h1, ?_, (hM.blk.step hs (by simp)).free 0⟩
  rw [(hM.blk.step hs (by simp)).cell 0]
  rfl
end
theorem keepT_snoc (X : List Ms) (i : Int) (r : Nat) (hr : r < X.length) : keepT (X.take (r + 1)) i = keepT (X.take r) i ++ if (X.getD r ms0).too == i then [] else [X.getD r ms0] := by
  have e : X.getD r ms0 = X[r] := by simp [List.getD, hr]
  unfold keepT
  rw [List.take_succ_eq_append_getElem hr, List.filter_append, e]
  congr 1
  rw [List.filter_cons]
  cases (X[r].too == i) <;> rfl
theorem keep_same {w0 : World} {X : List Ms} {T : List Tm} (h : RX w0 X (T.map (·.M))) (i : Int) : (keepU T i).length = (keepT X i).length := by
  have h1 := (h.keep i).len
  rw [← keepU_M, List.length_map] at h1
  exact h1.symm
theorem flatM_app (l r : List Ms) : flatM (l ++ r) = flatM l ++ flatM r := by simp [flatM]
end Go.Proofs.Ytminpglkipnhcaa
end
