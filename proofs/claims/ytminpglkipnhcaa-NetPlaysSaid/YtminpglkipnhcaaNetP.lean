/- NetKeeps: what is taken, what is spoiled, what is the caller's own. -/
import Derived.Test.YtminpglkipnhcaaNetM
import Derived.Test.YtminpglkipnhcaaNetH
import Derived.Test.YtminpglkipnhcaaStepApp
namespace Go.Proofs.Ytminpglkipnhcaa
set_option linter.unusedVariables false
open Go.RowKit
/-- append onto a row of the call's own, at a step of a region that draws, be there something or not -/
theorem step_append_own_any {P : Program} {ops : Array Oper} {o : Oper} {a : Act} {w : World} {K : Act → World → Prop} {Q : Exit → Act → World → Prop} {E : Prop}
    (hg : o.guard = none) (s x : Operand) (t : TypeId) (hop : o.op = Op.call { callee := Callee.builtin Builtin.append, args := #[s, x], argTypes := #[t, t] })
    (base : Nat) (e : TypeId) (i : TypeInfo) (z : Value) (size bytes : Nat) (h1 : P.underlying t = some (.slice e)) (h2 : P.info? e = some i) (h3 : i.zero = some z) (h4 : i.size = size) (h5 : i.bytes = bytes) (h6 : z.cells.size = size) (h7 : 0 < size)
    (v : Value) (n : Nat) (xs : List Value) (hs : a.eval s = v) (hown : w.ownsRow base e size v n xs)
    (ad : Option Addr) (m c : Nat) (news : List Value) (hx : a.eval x = .slice ad m c) (h0 : ad = none → m = 0 ∧ c = 0) (hn : news.length = m * size) (hc : ∀ b, ad = some b → ∀ j u, news[j]? = some u → w.cell? (b.add j) = some u) (h1c : ∀ u ∈ news, u.oneCell' = true)
    (b1 : n + m ≤ maxLen) (b2 : (n + m) * bytes ≤ 140737488355328) (hbase : base ≤ w.heap.size)
    (hK : ∀ v' w', w'.ownsRow base e size v' (n + m) (xs ++ news) → Step (foot v) w w' → Fresh w (foot v) (foot v') → K (a.put o.dst v') w') :
    if Region.wanted o (yielded ops a.tmps) = true then Oper.wp P o a w K Q else E := by
  cases ad with
  | none =>
    obtain ⟨rfl, rfl⟩ := h0 rfl
    have hnil : news = [] := List.eq_nil_of_length_eq_zero (by omega)
    subst hnil
    exact step_append_none hg s x t hop base e i size h1 h2 v n xs hs hown hx (hK v w (by simpa using hown) (Step.refl _ _) (fun k hk => .inl hk))
  | some b => exact step_append_own hg s x t hop base e i z size bytes h1 h2 h3 h4 h5 h6 h7 v n xs hs hown b m c news hx hn (hc b rfl) h1c b1 b2 hbase hK
section
variable {w w' : World} {base nb mb : Nat} {lv : Value} {T T' E E' : List Tm} {n : Nat} {f : PK → Option Bool} {F : List Nat}
/-- messages change places -/
theorem NtE.post2 (h : NtE w base nb mb lv T E n f) (hsub : ∀ t, t ∈ T' ++ E' → t ∈ T ++ E) (hpw : (T' ++ E').Pairwise fun a b => Dj a.D b.D) (hP : PutPost base nb mb lv (T'.map (·.x)) n f w w') : ∃ lv', NtE w' base nb mb lv' T' E' n f ∧ Step (nb :: foot lv) w w' ∧ Fresh w (footE nb mb lv T E) (footE nb mb lv' T' E') := by
  obtain ⟨lv', h1, h2, h3⟩ := hP
  have hst : ∀ k, k ∈ nb :: foot lv → k ∈ footN nb mb lv := fun k hk => by
    rcases List.mem_cons.1 hk with h | h
    · simp [footN, h]
    · simp [footN, h]
  refine ⟨lv', ⟨h1, fun t ht => ?_, hpw⟩, h2, fun k hk => ?_⟩
  · obtain ⟨a, b⟩ := h.ok t (hsub t ht)
    exact ⟨a.step h2 (fun k hk hm => b k hk (hst k hm)), b.fresh a.live (footN_fresh h3)⟩
  · rcases mem_footE.1 hk with hk | ⟨t, ht, hk⟩
    · rcases footN_fresh h3 k hk with h4 | h4
      · exact .inl (mem_footE.2 (.inl h4))
      · exact .inr h4
    · exact .inl (mem_footE.2 (.inr ⟨t, hsub t ht, hk⟩))
theorem dj_symm {a b : List Nat} (h : Dj a b) : Dj b a := fun k hk hm => h k hm hk
theorem NtE.perm (h : NtE w base nb mb lv T E n f) (hp : (T' ++ E').Perm (T ++ E)) : (T' ++ E').Pairwise fun a b => Dj a.D b.D :=
  (List.Perm.pairwise_iff (fun {a b} h => dj_symm h) hp).2 h.dj
theorem eraseIdx_map (T : List Tm) (i : Nat) : (T.eraseIdx i).map (·.x) = (T.map (·.x)).eraseIdx i := by
  induction T generalizing i with
  | nil => rfl
  | cons a r ih => cases i with
    | zero => rfl
    | succ i => simp [ih]
theorem erase_perm : ∀ (T E : List Tm) (i : Nat), i < T.length → (T.eraseIdx i ++ T.getD i tm0 :: E).Perm (T ++ E) := by
  intro T
  induction T with
  | nil => intro E i h; simp at h
  | cons a r ih =>
    intro E i h
    cases i with
    | zero => simp [List.perm_middle]
    | succ i => simpa using (ih E i (by simpa using h))
end
section
variable {w0 w w' : World} {nb mb : Nat} {T E : List Tm} {n : Nat} {f : PK → Option Bool} {XO : List (Nat × Obj)}
/-- a message is taken: it is loose from then on -/
theorem NetK.take (h : Kept w0 (NetΦ nb mb T E n (fun _ => none)) XO w) (i : Nat) (hi : i < T.length) (ha : (Lit.int .i64 (T.getD i tm0).M.fr).wf = true) (hb : (Lit.int .i64 (T.getD i tm0).M.too).wf = true) :
    Calls Try.prog 10 #[.pointer (some ⟨nb, 0, none⟩), .int .i64 (i : Int)] w fun e w' => e = .returned (.tuple #[.agg (msC (T.getD i tm0).x).toArray, .bool true]) ∧ Kept w0 (NetΦ nb mb (T.eraseIdx i) (T.getD i tm0 :: E) n (fun _ => none)) XO w' := by
  obtain ⟨F, ⟨base, lv, rfl, hN⟩, hF, hd⟩ := h.open
  have hg : (T.map (·.x)).getD i ms0 = (T.getD i tm0).x := by simp [List.getD, hi]
  have hm : T.getD i tm0 ∈ T ++ E := List.mem_append_left _ (by simp [List.getD, hi])
  have hok := (hN.ok _ hm).1.ok
  refine (take_yes base nb mb lv _ n _ i w hN.net (by simpa using hi) (by rw [hg, hok.fr]; exact ha) (by rw [hg, hok.too]; exact hb)).mono ?_
  intro e w' hP
  unfold TakeBoth at hP
  rw [if_neg (by simp [wld])] at hP
  obtain ⟨rfl, hP⟩ := hP
  rw [hg]
  rw [← eraseIdx_map] at hP
  have hp := erase_perm T E i hi
  obtain ⟨lv', h1, h2, h3⟩ := hN.post2 (fun t ht => hp.subset ht) (hN.perm hp) hP
  exact ⟨rfl, h.op ⟨base, lv, rfl, hN⟩ hF hd (h2.mono sub_footE) h3 h1.live ⟨base, lv', rfl, h1⟩⟩
theorem NetK.tm (h : Kept w0 (NetΦ nb mb T E n f) XO w) {t : Tm} (ht : t ∈ T ++ E) : TmOk w t := by
  obtain ⟨F, ⟨base, lv, rfl, hN⟩, hF, hd⟩ := h.open
  exact (hN.ok t ht).1
theorem putT_nil (t : Tm) : putT [] t = [t] := rfl
theorem putT_one (s t : Tm) : putT [s] t = [s, t] := rfl
/-- a loose message is spoiled: it is forgotten -/
theorem NetK.spoil {t : Tm} (h : Kept w0 (NetΦ nb mb T (t :: E) n f) XO w) (hs : Step t.D w w') : Kept w0 (NetΦ nb mb T E n f) XO w' := by
  obtain ⟨F, ⟨base, lv, rfl, hN⟩, hF, hd⟩ := h.open
  have hm : t ∈ T ++ t :: E := by simp
  have hpw := hN.dj
  rw [List.pairwise_append] at hpw
  obtain ⟨p1, p2, p3⟩ := hpw
  obtain ⟨p4, p5⟩ := List.pairwise_cons.1 p2
  have hsub : ∀ k, k ∈ footE nb mb lv T E → k ∈ footE nb mb lv T (t :: E) ∧ k ∉ t.D := fun k hk => by
    rcases mem_footE.1 hk with hk | ⟨s, hs, hk⟩
    · exact ⟨mem_footE.2 (.inl hk), fun hm' => (hN.ok _ hm).2 k hm' hk⟩
    · rcases List.mem_append.1 hs with hs | hs
      · exact ⟨mem_footE.2 (.inr ⟨s, List.mem_append_left _ hs, hk⟩), fun hm' => p3 s hs t List.mem_cons_self k hk hm'⟩
      · exact ⟨mem_footE.2 (.inr ⟨s, List.mem_append_right _ (List.mem_cons_of_mem _ hs), hk⟩), fun hm' => p4 s hs k hm' hk⟩
  have hN2 : NtE w base nb mb lv T E n f := ⟨hN.net, fun s hs => hN.ok s (by
    rcases List.mem_append.1 hs with hs | hs
    · exact List.mem_append_left _ hs
    · exact List.mem_append_right _ (List.mem_cons_of_mem _ hs)), List.pairwise_append.2 ⟨p1, p5, fun a ha b hb => p3 a ha b (List.mem_cons_of_mem _ hb)⟩⟩
  have hN3 := hN2.step hs (fun k hk => (hsub k hk).2)
  exact h.op ⟨base, lv, rfl, hN⟩ hF hd (hs.mono fun k hk => mem_footE.2 (.inr ⟨t, hm, hk⟩)) (fun k hk => .inl (hsub k hk).1) hN3.live ⟨base, lv, rfl, hN3⟩
/-- a message that the caller made is put to those that are loose -/
theorem NetK.own (h : Kept w0 (NetΦ nb mb T E n f) XO w) (hs : Step [] w w') (t : Tm) (ht : TmOk w' t) (hD : ∀ k, k ∈ t.D → w.heap.size ≤ k) (NO : List (Nat × Obj)) (hNO : ∀ x, x ∈ NO → w.heap.size ≤ x.1 ∧ w'.heap[x.1]? = some x.2 ∧ x.1 ∉ t.D) : Kept w0 (NetΦ nb mb T (t :: E) n f) (NO ++ XO) w' := by
  have key : ∃ F, NetΦ nb mb T (t :: E) n f w' F ∧ (∀ k, k ∈ F → (k < w.heap.size ∧ w0.heap.size ≤ k ∧ k ∉ XO.map Prod.fst) ∨ k ∈ t.D) := by
    obtain ⟨F, ⟨base, lv, rfl, hN⟩, h1, h2, h3, h4, h5⟩ := h
    have hN' := hN.step hs (fun k _ => List.not_mem_nil)
    have hpw := hN.dj
    rw [List.pairwise_append] at hpw
    obtain ⟨p1, p2, p3⟩ := hpw
    have hap : ∀ s, s ∈ T ++ E → Dj s.D t.D := fun s hs k hk hm => by
      have := (hN.ok s hs).1.live k hk
      have := hD k hm
      omega
    have hin : ∀ k, k ∈ footE nb mb lv T E → (k < w.heap.size ∧ w0.heap.size ≤ k ∧ k ∉ XO.map Prod.fst) := fun k hk => ⟨(h1 k hk).2, (h1 k hk).1, fun hm => h3 k hm hk⟩
    refine ⟨footE nb mb lv T (t :: E), ⟨base, lv, rfl, hN'.net, fun s hs => ?_, List.pairwise_append.2 ⟨p1, List.pairwise_cons.2 ⟨fun s hs => dj_symm (hap s (List.mem_append_right _ hs)), p2⟩, fun a ha b hb => ?_⟩⟩, fun k hk => ?_⟩
    · rcases List.mem_append.1 hs with hs | hs
      · exact hN'.ok s (List.mem_append_left _ hs)
      · rcases List.mem_cons.1 hs with rfl | hs
        · exact ⟨ht, fun k hk hm => by
            have := hD k hk
            have := (hN.net.live k hm).2
            omega⟩
        · exact hN'.ok s (List.mem_append_right _ hs)
    · rcases List.mem_cons.1 hb with rfl | hb
      · exact hap a (List.mem_append_left _ ha)
      · exact p3 a ha b hb
    · rcases mem_footE.1 hk with hk2 | ⟨s, hs', hk2⟩
      · exact .inl (hin k (mem_footE.2 (.inl hk2)))
      · rcases List.mem_append.1 hs' with hs' | hs'
        · exact .inl (hin k (mem_footE.2 (.inr ⟨s, List.mem_append_left _ hs', hk2⟩)))
        · rcases List.mem_cons.1 hs' with rfl | hs'
          · exact .inr hk2
          · exact .inl (hin k (mem_footE.2 (.inr ⟨s, List.mem_append_right _ hs', hk2⟩)))
  obtain ⟨F', hF', hin⟩ := key
  obtain ⟨F, _, h1, h2, h3, h4, h5⟩ := h
  have hz := h2.size
  refine ⟨F', hF', fun k hk => ?_, h2.then hs (by simp), fun k hk hm => ?_, fun k hk => ?_, fun x hx => ?_⟩
  · rcases hin k hk with hh | hh
    · exact ⟨hh.2.1, Nat.lt_of_lt_of_le hh.1 hs.size⟩
    · have := hD k hh
      exact ⟨by omega, ht.live k hh⟩
  · rw [List.map_append] at hk
    rcases List.mem_append.1 hk with hk | hk
    · obtain ⟨x, hx, rfl⟩ := List.mem_map.1 hk
      rcases hin _ hm with hh | hh
      · have := (hNO x hx).1
        omega
      · exact (hNO x hx).2.2 hh
    · rcases hin k hm with hh | hh
      · exact hh.2.2 hk
      · have := hD k hh
        have := (h4 k hk).2
        omega
  · rw [List.map_append] at hk
    rcases List.mem_append.1 hk with hk | hk
    · obtain ⟨x, hx, rfl⟩ := List.mem_map.1 hk
      have := hNO x hx
      exact ⟨by omega, (Array.getElem?_eq_some_iff.1 this.2.1).1⟩
    · exact ⟨(h4 k hk).1, Nat.lt_of_lt_of_le (h4 k hk).2 hs.size⟩
  · rcases List.mem_append.1 hx with hx | hx
    · exact (hNO x hx).2.1
    · exact (hs.block x.1 (h4 _ (List.mem_map_of_mem hx)).2 (by simp)).trans (h5 x hx)
end
end Go.Proofs.Ytminpglkipnhcaa
