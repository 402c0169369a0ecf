/- net: Twice; a net that isn't there; a net with what its messages say. -/
import Derived.Test.YtminpglkipnhcaaNetI
import Derived.Test.YtminpglkipnhcaaNetO
import Derived.Test.YtminpglkipnhcaaKept
namespace Go.Proofs.Ytminpglkipnhcaa
set_option linter.unusedVariables false
open Go.RowKit
attribute [local go_sem ↓] exec_load_m exec_store_m
attribute [local go_sem] Try.load_m row_drew Try.store_m
section
variable (base nb mb : Nat) (lv : Value) (L : List Ms) (n : Nat) (f : PK → Option Bool)
set_option maxHeartbeats 400000 in
theorem twice_no (i : Int) (w : World) (h : Nt w base nb mb lv L n f) (hi : hasI i L.length = false) :
    Calls Try.prog 15 #[.pointer (some ⟨nb, 0, none⟩), .int .i64 i] w fun e w' => e = .returned (.bool false) ∧ w = w' := by
  have HH := Lib.hid (has_any base nb mb lv L n f i w h)
  rw [hi] at HH
  clear h hi
  go_enter Try.func15, Try.ntmps15
  go_wp2_with fail
  refine HH.out.mono ?_
  rintro e w' ⟨rfl, rfl⟩
  go_wp2_with fail
  go_ret
  exact ⟨rfl, rfl⟩
theorem twice_nil (i : Int) (w : World) : Calls Try.prog 15 #[.pointer none, .int .i64 i] w fun e w' => e = .returned (.bool false) ∧ w = w' := by
  go_enter Try.func15, Try.ntmps15
  go_wp2_with fail
  refine (has_nil _ _).mono ?_
  rintro e w' ⟨rfl, rfl⟩
  go_wp2_with fail
  go_ret
  exact ⟨rfl, rfl⟩
theorem wall_nil (a b : Int) (up : Bool) (w : World) : Calls Try.prog 18 #[.pointer none, .int .i64 a, .int .i64 b, .bool up] w fun e w' => e = .returned (.int .i64 1) ∧ w = w' := by
  go_enter Try.func18, Try.ntmps18
  go_wp2_with fail
  go_ret
  exact ⟨rfl, rfl⟩
theorem forget_nil (a : Int) (w : World) : Calls Try.prog 19 #[.pointer none, .int .i64 a] w fun e w' => e = .returned (.int .i64 0) ∧ Step [] w w' := by
  go_enter Try.func19, Try.ntmps19
  go_wp2_with fail
  go_ret
  exact ⟨rfl, (Step.refl [] w).alloc _⟩
theorem copy_nil (w : World) : Calls Try.prog 20 #[.pointer none] w fun e w' => e = .returned (.pointer none) ∧ w = w' := by
  go_enter Try.func20, Try.ntmps20
  go_wp2_with fail
  go_ret
  exact ⟨rfl, rfl⟩
set_option maxRecDepth 20000 in
set_option maxHeartbeats 400000 in
theorem twice_yes (i : Nat) (M : PM) (D : List Nat) (w : World) (h : Nt w base nb mb lv L n f) (hi : i < L.length) (hx : MsOk w D (L.getD i ms0) M) (hf : Few M) (h64 : L.length ≤ 64) :
    Calls Try.prog 15 #[.pointer (some ⟨nb, 0, none⟩), .int .i64 (i : Int)] w fun e w' => e = .returned (.bool true) ∧ SendPost base nb mb lv L n f M w w' := by
  obtain ⟨g, cap, hlv, -⟩ := owns_form h.own (by omega)
  subst hlv
  have HH := Lib.hid (has_any base nb mb _ L n f (i : Int) w h)
  have hhas : hasI (i : Int) L.length = true := by simp [hasI, hi]
  rw [hhas] at HH
  have c0 := h.blk.cell 0
  simp only [List.getElem?_toArray, List.getElem?_cons_zero] at c0
  have hrow := owns_msg h.own i hi
  obtain ⟨x, hxx⟩ : ∃ x, L.getD i ms0 = x := ⟨_, rfl⟩
  rw [hxx] at hrow hx
  have HN0 := Lib.hid h
  have HC := Lib.hid (clone_any x M D w hx hf)
  obtain ⟨m, hm⟩ : ∃ m, L.length = m := ⟨_, rfl⟩
  have HM := Lib.hid hm
  rw [hm] at c0 hi h64
  have hkk : (i : Int) < (m : Int) := by omega
  have hk0 : (0 : Int) ≤ (i : Int) := by omega
  rw [hm]
  clear h hx hhas hxx hm
  go_enter Try.func15, Try.ntmps15
  go_wp2_with fail
  refine HH.out.mono ?_
  rintro e w' ⟨rfl, rfl⟩
  go_wp2_with fail
  refine HC.out.mono ?_
  rintro e w2 ⟨x', D', rfl, hok, hD, hs2, hu2⟩
  have HP := Lib.hid (put_any base nb mb _ L n f x' w2 (HN0.out.step0 hs2) (by rw [HM.out]; omega))
  have HO := Lib.hid (And.intro hok (And.intro hD (And.intro hs2 hu2)))
  rw [HM.out] at HP
  clear hok hD hs2 hu2 hrow c0
  go_wp2_with fail
  refine HP.out.mono ?_
  rintro e w3 ⟨rfl, hP⟩
  have HF := Lib.hid (send_post base nb mb _ L n f HN0.out HO.out.1 HO.out.2.1 HO.out.2.2.1 HO.out.2.2.2 (by rw [HM.out]; exact hP))
  rw [HM.out] at HF
  clear hP
  go_wp2_with fail
  go_ret
  exact ⟨rfl, HF.out⟩
end
/-- a message, what it says, and its blocks -/
structure Tm where
  x : Ms
  M : PM
  D : List Nat
def pm0 : PM := ⟨0, 0, 0, 0, 0, 0, 0, false, [], [], []⟩
def tm0 : Tm := ⟨ms0, pm0, []⟩
/-- all of it is as it is said, in blocks that were made -/
structure TmOk (w : World) (t : Tm) : Prop where
  ok : MsOk w t.D t.x t.M
  few : Few t.M
  uf : UnF w t.D
  live : ∀ k, k ∈ t.D → k < w.heap.size
theorem TmOk.step {w w' : World} {t : Tm} {F : List Nat} (h : TmOk w t) (hs : Step F w w') (hd : Dj t.D F) : TmOk w' t :=
  ⟨h.ok.step hs hd, h.few, h.uf.step hs hd, fun k hk => Nat.lt_of_lt_of_le (h.live k hk) hs.size⟩
def footE (nb mb : Nat) (lv : Value) (T E : List Tm) : List Nat := footN nb mb lv ++ (T ++ E).flatMap (·.D)
/-- a net of the messages T; and some messages E, each in blocks of its own -/
structure NtE (w : World) (base nb mb : Nat) (lv : Value) (T E : List Tm) (n : Nat) (f : PK → Option Bool) : Prop where
  net : Nt w base nb mb lv (T.map (·.x)) n f
  ok : ∀ t, t ∈ T ++ E → TmOk w t ∧ Dj t.D (footN nb mb lv)
  dj : (T ++ E).Pairwise fun a b => Dj a.D b.D
section
variable {w w' : World} {base nb mb : Nat} {lv : Value} {T T' E : List Tm} {n : Nat} {f : PK → Option Bool} {F : List Nat}
theorem mem_footE {k : Nat} : k ∈ footE nb mb lv T E ↔ k ∈ footN nb mb lv ∨ ∃ t, t ∈ T ++ E ∧ k ∈ t.D := by
  unfold footE
  rw [List.mem_append, List.mem_flatMap]
theorem NtE.step (h : NtE w base nb mb lv T E n f) (hs : Step F w w') (hd : Dj (footE nb mb lv T E) F) : NtE w' base nb mb lv T E n f :=
  ⟨h.net.step hs (fun k hk => hd k (mem_footE.2 (.inl hk))), fun t ht => ⟨(h.ok t ht).1.step hs (fun k hk => hd k (mem_footE.2 (.inr ⟨t, ht, hk⟩))), (h.ok t ht).2⟩, h.dj⟩
theorem NtE.live (h : NtE w base nb mb lv T E n f) : ∀ k, k ∈ footE nb mb lv T E → k < w.heap.size := fun k hk => by
  rcases mem_footE.1 hk with hk | ⟨t, ht, hk⟩
  · exact (h.net.live k hk).2
  · exact (h.ok t ht).1.live k hk
theorem sub_footE : ∀ k, k ∈ nb :: foot lv → k ∈ footE nb mb lv T E := fun k hk => mem_footE.2 (.inl (by
  rcases List.mem_cons.1 hk with h | h
  · simp [footN, h]
  · simp [footN, h]))
theorem footN_fresh {lv' : Value} (hf : Fresh w (foot lv) (foot lv')) : Fresh w (footN nb mb lv) (footN nb mb lv') := fun k hk => by
  simp only [footN, List.mem_cons] at hk ⊢
  rcases hk with h | h | h
  · exact .inl (.inl h)
  · exact .inl (.inr (.inl h))
  · rcases hf k h with h2 | h2
    · exact .inl (.inr (.inr h2))
    · exact .inr h2
/-- some of the messages stay -/
theorem NtE.post (h : NtE w base nb mb lv T E n f) (hT : T'.Sublist T) (hP : PutPost base nb mb lv (T'.map (·.x)) n f w w') : ∃ lv', NtE w' base nb mb lv' T' E n f ∧ Step (nb :: foot lv) w w' ∧ Fresh w (footE nb mb lv T E) (footE nb mb lv' T' E) := by
  obtain ⟨lv', h1, h2, h3⟩ := hP
  have hsub : (T' ++ E).Sublist (T ++ E) := hT.append (List.Sublist.refl E)
  have hst : ∀ k, k ∈ nb :: foot lv → k ∈ footN nb mb lv := fun k hk => by
    rcases List.mem_cons.1 hk with h | h
    · simp [footN, h]
    · simp [footN, h]
  refine ⟨lv', ⟨h1, fun t ht => ?_, h.dj.sublist hsub⟩, h2, fun k hk => ?_⟩
  · obtain ⟨a, b⟩ := h.ok t (hsub.subset ht)
    exact ⟨a.step h2 (fun k hk hm => b k hk (hst k hm)), b.fresh a.live (footN_fresh h3)⟩
  · rcases mem_footE.1 hk with hk | ⟨t, ht, hk⟩
    · rcases footN_fresh h3 k hk with h4 | h4
      · exact .inl (mem_footE.2 (.inl h4))
      · exact .inr h4
    · exact .inl (mem_footE.2 (.inr ⟨t, hsub.subset ht, hk⟩))
def putT (T : List Tm) (t : Tm) : List Tm := if 64 < (T ++ [t]).length then (T ++ [t]).eraseIdx 0 else T ++ [t]
theorem putT_map (T : List Tm) (t : Tm) : (putT T t).map (·.x) = putL (T.map (·.x)) t.x := by
  unfold putT putL
  simp only [List.length_append, List.length_map, List.length_cons, List.length_nil]
  split
  · cases T with
    | nil => rfl
    | cons a r => simp
  · simp
theorem putT_sub (T : List Tm) (t : Tm) : (putT T t).Sublist (T ++ [t]) := by
  unfold putT
  split
  · exact List.eraseIdx_sublist _ _
  · exact List.Sublist.refl _
/-- a message that was sent, or doubled -/
theorem NtE.sent (h : NtE w base nb mb lv T E n f) {M : PM} (hf : Few M) (hP : SendPost base nb mb lv (T.map (·.x)) n f M w w') :
    ∃ lv' t, t.M = M ∧ NtE w' base nb mb lv' (putT T t) E n f ∧ Step (nb :: foot lv) w w' ∧ Fresh w (footE nb mb lv T E) (footE nb mb lv' (putT T t) E) := by
  obtain ⟨lv', x', D', h1, h2, h3, h4, h5, h6, h7⟩ := hP
  have hst : ∀ k, k ∈ nb :: foot lv → k ∈ footN nb mb lv := fun k hk => by
    rcases List.mem_cons.1 hk with h | h
    · simp [footN, h]
    · simp [footN, h]
  have hok : ∀ t, t ∈ T ++ E → TmOk w' t ∧ Dj t.D (footN nb mb lv') := fun t ht => by
    obtain ⟨a, b⟩ := h.ok t ht
    exact ⟨a.step h2 (fun k hk hm => b k hk (hst k hm)), b.fresh a.live (footN_fresh h3)⟩
  have hsub : ∀ t, t ∈ putT T ⟨x', M, D'⟩ ++ E → t ∈ T ++ E ∨ t = ⟨x', M, D'⟩ := fun t ht => by
    rcases List.mem_append.1 ht with ht | ht
    · have := (putT_sub T ⟨x', M, D'⟩).subset ht
      rcases List.mem_append.1 this with h8 | h8
      · exact .inl (List.mem_append_left _ h8)
      · simp at h8
        exact .inr h8
    · exact .inl (List.mem_append_right _ ht)
  have hpd : (T ++ [(⟨x', M, D'⟩ : Tm)] ++ E).Pairwise fun a b => Dj a.D b.D := by
    have h8 := h.dj
    rw [List.pairwise_append] at h8
    rw [List.append_assoc, List.pairwise_append]
    refine ⟨h8.1, List.pairwise_append.2 ⟨by simp, h8.2.1, fun a ha b hb k hk hm => ?_⟩, fun a ha b hb => ?_⟩
    · simp at ha
      subst ha
      have := (h5 k hk).1
      have := (h.ok b (List.mem_append_right _ hb)).1.live k hm
      omega
    · rcases List.mem_append.1 hb with hb | hb
      · simp at hb
        subst hb
        intro k hk hm
        have := (h5 k hm).1
        have := (h.ok a (List.mem_append_left _ ha)).1.live k hk
        omega
      · exact h8.2.2 a ha b hb
  refine ⟨lv', ⟨x', M, D'⟩, rfl, ⟨by rw [putT_map]; exact h1, fun t ht => ?_, hpd.sublist ((putT_sub T _).append (List.Sublist.refl E))⟩, h2, fun k hk => ?_⟩
  · rcases hsub t ht with ht | rfl
    · exact hok t ht
    · exact ⟨⟨h4, hf, h7, fun k hk => (h5 k hk).2⟩, h6⟩
  · rcases mem_footE.1 hk with hk | ⟨t, ht, hk⟩
    · rcases footN_fresh h3 k hk with h4 | h4
      · exact .inl (mem_footE.2 (.inl h4))
      · exact .inr h4
    · rcases hsub t ht with ht | rfl
      · exact .inl (mem_footE.2 (.inr ⟨t, ht, hk⟩))
      · exact .inr (h5 k hk).1
end
/-- a net, with what its messages say, in blocks F -/
def NetΦ (nb mb : Nat) (T E : List Tm) (n : Nat) (f : PK → Option Bool) (w : World) (F : List Nat) : Prop := ∃ base lv, F = footE nb mb lv T E ∧ NtE w base nb mb lv T E n f
theorem netΦ_stb (nb mb : Nat) (T E : List Tm) (n : Nat) (f : PK → Option Bool) : Stb (NetΦ nb mb T E n f) := by
  rintro w w' F H ⟨base, lv, rfl, h⟩ hs hd
  exact ⟨base, lv, rfl, h.step hs hd⟩
section
variable {w0 w w' : World} {nb mb : Nat} {T E : List Tm} {n : Nat} {f : PK → Option Bool} {XO : List (Nat × Obj)}
theorem NetK.send (h : Kept w0 (NetΦ nb mb T E n f) XO w) (x : Ms) (M : PM) (D : List Nat) (hx : MsOk w D x M) (hf : Few M) (h64 : T.length ≤ 64) (ha : (Lit.int .i64 x.fr).wf = true) (hb : (Lit.int .i64 x.too).wf = true) (hwl : wld f (pk x.fr x.too ha hb) = false) :
    Calls Try.prog 8 #[.pointer (some ⟨nb, 0, none⟩), .agg (msC x).toArray] w fun e w' => e = .returned (.bool true) ∧ ∃ t, t.M = M ∧ Kept w0 (NetΦ nb mb (putT T t) E n f) XO w' := by
  obtain ⟨F, ⟨base, lv, rfl, hN⟩, hF, hd⟩ := h.open
  refine (send_yes base nb mb lv _ n f x M D w hN.net hx hf (by simpa using h64) ha hb hwl).mono ?_
  rintro e w' ⟨rfl, hP⟩
  obtain ⟨lv', t, ht, h1, h2, h3⟩ := hN.sent hf hP
  exact ⟨rfl, t, ht, h.op ⟨base, lv, rfl, hN⟩ hF hd (h2.mono sub_footE) h3 h1.live ⟨base, lv', rfl, h1⟩⟩
theorem NetK.twice (h : Kept w0 (NetΦ nb mb T E n f) XO w) (i : Nat) (hi : i < T.length) (h64 : T.length ≤ 64) :
    Calls Try.prog 15 #[.pointer (some ⟨nb, 0, none⟩), .int .i64 (i : Int)] w fun e w' => e = .returned (.bool true) ∧ ∃ t, t.M = (T.getD i tm0).M ∧ Kept w0 (NetΦ nb mb (putT T t) E n f) XO w' := by
  obtain ⟨F, ⟨base, lv, rfl, hN⟩, hF, hd⟩ := h.open
  have hg : (T.map (·.x)).getD i ms0 = (T.getD i tm0).x := by simp [List.getD, hi]
  have hm : T.getD i tm0 ∈ T ++ E := List.mem_append_left _ (by simp [List.getD, hi])
  refine (twice_yes base nb mb lv _ n f i (T.getD i tm0).M (T.getD i tm0).D w hN.net (by simpa using hi) (by rw [hg]; exact (hN.ok _ hm).1.ok) (hN.ok _ hm).1.few (by simpa using h64)).mono ?_
  rintro e w' ⟨rfl, hP⟩
  obtain ⟨lv', t, ht, h1, h2, h3⟩ := hN.sent (hN.ok _ hm).1.few hP
  exact ⟨rfl, t, ht, h.op ⟨base, lv, rfl, hN⟩ hF hd (h2.mono sub_footE) h3 h1.live ⟨base, lv', rfl, h1⟩⟩
end
end Go.Proofs.Ytminpglkipnhcaa
