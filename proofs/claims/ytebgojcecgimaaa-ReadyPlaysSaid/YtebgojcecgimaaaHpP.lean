/- heaps as rows: the plain law. No program in sight. -/
import Derived.Test.YtebgojcecgimaaaBase
namespace Go.Proofs.Ytebgojcecgimaaa
set_option linter.unusedVariables false
namespace Hp

structure Ord {α : Type} (lt : α → α → Bool) : Prop where
  irr : ∀ a, lt a a = false
  tr : ∀ a b c, lt a b = true → lt b c = true → lt a c = true
  tot : ∀ a b, lt a b = false → lt b a = false → a = b

section
variable {α : Type} {lt : α → α → Bool} {a b c : α}
theorem Ord.asym (o : Ord lt) (h : lt a b = true) : lt b a = false := by
  cases h2 : lt b a with
  | false => rfl
  | true =>
    have := o.tr a b a h h2
    rw [o.irr] at this
    cases this
/-- a is not behind b, nor b behind c -/
theorem Ord.le_trans (o : Ord lt) (h1 : lt b a = false) (h2 : lt c b = false) : lt c a = false := by
  cases h : lt c a with
  | false => rfl
  | true =>
    exfalso
    cases e : lt a b with
    | true =>
      have := o.tr c a b h e
      rw [h2] at this
      cases this
    | false =>
      have := o.tot a b e h1
      subst this
      rw [h2] at h
      cases h
theorem Ord.lt_le (o : Ord lt) (h1 : lt a b = true) (h2 : lt c b = false) : lt a c = true := by
  cases h : lt a c with
  | true => rfl
  | false =>
    have := o.le_trans h2 h
    rw [h1] at this
    cases this
end

section
variable {α : Type} [Inhabited α]
def nth (l : List α) (i : Nat) : α := l.getD i default
theorem nth_get (l : List α) (i : Nat) (h : i < l.length) : nth l i = l[i] := by simp [nth, List.getD, h]
theorem nth_some (l : List α) (i : Nat) (h : i < l.length) : l[i]? = some (nth l i) := by simp [nth, List.getD, h]
theorem nth_set (l : List α) (i : Nat) (x : α) (j : Nat) : nth (l.set i x) j = if j = i ∧ i < l.length then x else nth l j := by
  unfold nth
  by_cases h : j = i ∧ i < l.length
  · obtain ⟨rfl, h⟩ := h
    simp [h]
  · rw [if_neg h]
    by_cases hj : j = i
    · subst hj
      have hl : ¬ j < l.length := fun hl => h ⟨rfl, hl⟩
      simp [List.getD, hl]
    · simp [List.getD, Ne.symm hj]
theorem nth_take (l : List α) (n j : Nat) (h : j < n) : nth (l.take n) j = nth l j := by simp [nth, List.getD, h]
theorem nth_app (l r : List α) (j : Nat) (h : j < l.length) : nth (l ++ r) j = nth l j := by
  unfold nth
  rw [List.getD_eq_getElem?_getD, List.getD_eq_getElem?_getD, List.getElem?_append_left h]
theorem nth_end (l : List α) (x : α) : nth (l ++ [x]) l.length = x := by simp [nth, List.getD]
theorem nth_mem (l : List α) (i : Nat) (h : i < l.length) : nth l i ∈ l := by rw [nth_get l i h]; exact List.getElem_mem h
theorem mem_nth {l : List α} {x : α} (h : x ∈ l) : ∃ i, i < l.length ∧ nth l i = x := by
  obtain ⟨i, hi, e⟩ := List.getElem_of_mem h
  exact ⟨i, hi, by rw [nth_get l i hi, e]⟩
theorem ext_nth {l r : List α} (h : l.length = r.length) (h2 : ∀ i, i < l.length → nth l i = nth r i) : l = r := by
  apply List.ext_getElem h
  intro i h3 h4
  rw [← nth_get l i h3, ← nth_get r i h4]
  exact h2 i h3

def swap (l : List α) (i k : Nat) : List α := (l.set i (nth l k)).set k (nth l i)
theorem swap_len (l : List α) (i k : Nat) : (swap l i k).length = l.length := by simp [swap]
theorem nth_swap (l : List α) (i k j : Nat) (hi : i < l.length) (hk : k < l.length) : nth (swap l i k) j = if j = k then nth l i else if j = i then nth l k else nth l j := by
  unfold swap
  rw [nth_set, nth_set, List.length_set]
  by_cases h1 : j = k
  · rw [if_pos ⟨h1, hk⟩, if_pos h1]
  · rw [if_neg (fun h => h1 h.1), if_neg h1]
    by_cases h2 : j = i
    · rw [if_pos ⟨h2, hi⟩, if_pos h2]
    · rw [if_neg (fun h => h2 h.1), if_neg h2]
theorem swap_perm (l : List α) (i k : Nat) (hi : i < l.length) (hk : k < l.length) : (swap l i k).Perm l := by
  unfold swap
  rw [nth_get l i hi, nth_get l k hk]
  exact List.set_set_perm hi hk

def par (j : Nat) : Nat := (j - 1) / 2
variable (lt : α → α → Bool)
/-- no one is ahead of the one above it -/
def OK (l : List α) : Prop := ∀ j, 0 < j → j < l.length → lt (nth l j) (nth l (par j)) = false
/-- so, but for the place i -/
def Hole (l : List α) (i : Nat) : Prop :=
  (∀ j, 0 < j → j < l.length → j ≠ i → par j ≠ i → lt (nth l j) (nth l (par j)) = false) ∧
  (0 < i → ∀ j, 0 < j → j < l.length → par j = i → lt (nth l j) (nth l (par i)) = false)
/-- so, but for those below the place i -/
def Down (l : List α) (i : Nat) : Prop :=
  (∀ j, 0 < j → j < l.length → par j ≠ i → lt (nth l j) (nth l (par j)) = false) ∧
  (0 < i → ∀ j, 0 < j → j < l.length → par j = i → lt (nth l j) (nth l (par i)) = false)
variable {lt}
theorem hole_up (o : Ord lt) (l : List α) (i : Nat) (h0 : 0 < i) (hi : i < l.length) (h : Hole lt l i) (hlt : lt (nth l i) (nth l (par i)) = true) : Hole lt (swap l i (par i)) (par i) := by
  have hp : par i < i := by unfold par; omega
  have hpl : par i < l.length := by omega
  obtain ⟨h1, h2⟩ := h
  refine ⟨fun j hj hjl hne hpn => ?_, fun hp0 j hj hjl he => ?_⟩
  · rw [swap_len] at hjl
    rw [nth_swap l i (par i) j hi hpl, nth_swap l i (par i) (par j) hi hpl, if_neg hne, if_neg hpn]
    by_cases hji : j = i
    · subst hji
      exact absurd rfl hpn
    · rw [if_neg hji]
      by_cases hpj : par j = i
      · rw [if_pos hpj]
        exact h2 h0 j hj hjl hpj
      · rw [if_neg hpj]
        exact h1 j hj hjl hji hpj
  · rw [swap_len] at hjl
    have hpp : par (par i) < par i := by unfold par at hp0 ⊢; omega
    have hpe : lt (nth l (par i)) (nth l (par (par i))) = false := h1 (par i) hp0 hpl (by omega) (by omega)
    have hjp : j ≠ par i := fun e => by rw [e] at he; omega
    rw [nth_swap l i (par i) j hi hpl, nth_swap l i (par i) (par (par i)) hi hpl, if_neg hjp, if_neg (show ¬ par (par i) = par i by omega), if_neg (show ¬ par (par i) = i by omega)]
    by_cases hji : j = i
    · rw [if_pos hji]
      exact hpe
    · rw [if_neg hji]
      have h3 := h1 j hj hjl hji (by rw [he]; omega)
      rw [he] at h3
      exact o.le_trans hpe h3
theorem hole_stop (l : List α) (i : Nat) (h : Hole lt l i) (hs : i = 0 ∨ lt (nth l i) (nth l (par i)) = false) : Down lt l i := by
  obtain ⟨h1, h2⟩ := h
  refine ⟨fun j hj hjl hpn => ?_, h2⟩
  by_cases hji : j = i
  · subst hji
    rcases hs with hs | hs
    · omega
    · exact hs
  · exact h1 j hj hjl hji hpn
theorem par_of (j i : Nat) (hj : 0 < j) (h : par j = i) : j = 2 * i + 1 ∨ j = 2 * i + 2 := by unfold par at h; omega
theorem par1 (i : Nat) : par (2 * i + 1) = i := by unfold par; omega
theorem par2 (i : Nat) : par (2 * i + 1 + 1) = i := by unfold par; omega
theorem down_step (o : Ord lt) (l : List α) (i k : Nat) (hi : i < l.length) (hk : k < l.length) (h : Down lt l i) (hc : 0 < k ∧ par k = i) (hmin : ∀ j, 0 < j → j < l.length → par j = i → lt (nth l j) (nth l k) = false) (hlt : lt (nth l k) (nth l i) = true) : Down lt (swap l i k) k := by
  obtain ⟨h1, h2⟩ := h
  obtain ⟨hk0, hpk⟩ := hc
  have hik : i < k := by unfold par at hpk; omega
  refine ⟨fun j hj hjl hpn => ?_, fun _ j hj hjl he => ?_⟩
  · rw [swap_len] at hjl
    rw [nth_swap l i k j hi hk, nth_swap l i k (par j) hi hk, if_neg hpn]
    by_cases hjk : j = k
    · subst hjk
      rw [if_pos rfl, if_pos hpk]
      exact o.asym hlt
    · rw [if_neg hjk]
      by_cases hji : j = i
      · subst hji
        have hpi : par j ≠ j := by unfold par; omega
        rw [if_pos rfl, if_neg hpi]
        exact h2 hj k hk0 hk hpk
      · rw [if_neg hji]
        by_cases hpj : par j = i
        · rw [if_pos hpj]
          exact hmin j hj hjl hpj
        · rw [if_neg hpj]
          exact h1 j hj hjl hpj
  · rw [swap_len] at hjl
    have hjk : j ≠ k := by unfold par at he; omega
    have hji : j ≠ i := by unfold par at he; omega
    rw [hpk, nth_swap l i k j hi hk, nth_swap l i k i hi hk, if_neg hjk, if_neg hji, if_neg (show ¬ i = k by omega), if_pos rfl]
    have h3 := h1 j hj hjl (by rw [he]; omega)
    rw [he] at h3
    exact h3
theorem down_stop (l : List α) (i : Nat) (h : Down lt l i) (hs : ∀ j, 0 < j → j < l.length → par j = i → lt (nth l j) (nth l i) = false) : OK lt l := by
  intro j hj hjl
  by_cases he : par j = i
  · have h3 := hs j hj hjl he
    rw [he]
    exact h3
  · exact h.1 j hj hjl he
theorem ok_min (o : Ord lt) (l : List α) (h : OK lt l) : ∀ j, j < l.length → lt (nth l j) (nth l 0) = false := by
  intro j
  induction j using Nat.strongRecOn with
  | _ j ih =>
    intro hj
    by_cases h0 : j = 0
    · subst h0
      exact o.irr _
    · have hp : par j < j := by unfold par; omega
      exact o.le_trans (ih (par j) hp (by omega)) (h j (by omega) hj)
theorem ok_nil : OK lt ([] : List α) := fun j _ h => absurd h (Nat.not_lt_zero _)
/-- one more at the end: a hole there -/
theorem hole_app (l : List α) (x : α) (h : OK lt l) : Hole lt (l ++ [x]) l.length := by
  refine ⟨fun j hj hjl hne hpn => ?_, fun _ j hj hjl he => ?_⟩
  · simp at hjl
    have hp : par j < j := by unfold par; omega
    rw [nth_app _ _ _ (by omega), nth_app _ _ _ (by omega)]
    exact h j hj (by omega)
  · simp at hjl
    unfold par at he
    omega
/-- another one at i: a hole there -/
theorem hole_set (o : Ord lt) (l : List α) (i : Nat) (x : α) (hi : i < l.length) (h : OK lt l) : Hole lt (l.set i x) i := by
  refine ⟨fun j hj hjl hne hpn => ?_, fun h0 j hj hjl he => ?_⟩
  · simp at hjl
    rw [nth_set, nth_set, if_neg (fun h => hne h.1), if_neg (fun h => hpn h.1)]
    exact h j hj hjl
  · simp at hjl
    have h1 : par i ≠ i := by unfold par; omega
    have h2 : j ≠ i := by unfold par at he; omega
    rw [nth_set, nth_set, if_neg (fun h => h2 h.1), if_neg (fun h => h1 h.1)]
    have h3 := h j hj hjl
    rw [he] at h3
    exact o.le_trans (h i h0 hi) h3
theorem ok_take (l : List α) (n : Nat) (h : OK lt l) : OK lt (l.take n) := by
  intro j hj hjl
  simp at hjl
  have hp : par j < j := by unfold par; omega
  rw [nth_take _ _ _ (by omega), nth_take _ _ _ (by omega)]
  exact h j hj (by omega)
/-- the last one at i, and one less: a hole there -/
theorem hole_cut (o : Ord lt) (l : List α) (i n : Nat) (hn : l.length = n + 1) (hi : i < n) (h : OK lt l) : Hole lt ((swap l i n).take n) i := by
  have h1 : (swap l i n).take n = (l.take n).set i (nth l n) := by
    apply ext_nth
    · simp [swap_len]
    · intro j hj
      simp [swap_len, hn] at hj
      rw [nth_take _ _ _ (by omega), nth_swap l i n j (by omega) (by omega), if_neg (by omega), nth_set, nth_take _ _ _ (by omega)]
      simp [hn]
      by_cases e : j = i
      · subst e
        simp [hi]
      · simp [e]
  rw [h1]
  exact hole_set o _ i _ (by simp; omega) (ok_take l n h)
theorem ok_cut (l : List α) (n : Nat) (hn : l.length = n + 1) (h : OK lt l) : OK lt ((swap l n n).take n) := by
  have h1 : (swap l n n).take n = l.take n := by
    apply ext_nth
    · simp [swap_len]
    · intro j hj
      simp [swap_len, hn] at hj
      rw [nth_take _ _ _ (by omega), nth_swap l n n j (by omega) (by omega), if_neg (by omega), if_neg (by omega), nth_take _ _ _ (by omega)]
  rw [h1]
  exact ok_take l n h
end

/-! rows in order -/
section
variable {α : Type} (lt : α → α → Bool)
def Srt (s : List α) : Prop := s.Pairwise (fun a b => lt a b = true)
def ins (x : α) : List α → List α
  | [] => [x]
  | y :: r => if lt x y = true then x :: y :: r else y :: ins x r
variable {lt}
theorem ins_perm (x : α) : ∀ s : List α, (ins lt x s).Perm (x :: s)
  | [] => List.Perm.refl _
  | y :: r => by
    unfold ins
    split
    · exact List.Perm.refl _
    · exact ((ins_perm x r).cons y).trans (List.Perm.swap x y r)
theorem ins_srt (o : Ord lt) (x : α) : ∀ s : List α, Srt lt s → x ∉ s → Srt lt (ins lt x s)
  | [], _, _ => List.pairwise_singleton _ _
  | y :: r, h, hx => by
    obtain ⟨h1, h2⟩ := List.pairwise_cons.1 h
    unfold ins
    by_cases hxy : lt x y = true
    · rw [if_pos hxy]
      refine List.pairwise_cons.2 ⟨fun z hz => ?_, h⟩
      rcases List.mem_cons.1 hz with rfl | hz
      · exact hxy
      · exact o.tr x y z hxy (h1 z hz)
    · rw [if_neg hxy]
      refine List.pairwise_cons.2 ⟨fun z hz => ?_, ins_srt o x r h2 (fun hm => hx (List.mem_cons_of_mem _ hm))⟩
      rcases List.mem_cons.1 ((ins_perm x r).mem_iff.1 hz) with rfl | hz
      · cases hyz : lt y z with
        | true => rfl
        | false =>
          exfalso
          have := o.tot z y (by simpa using hxy) hyz
          subst this
          exact hx List.mem_cons_self
      · exact h1 z hz
theorem srt_nodup (o : Ord lt) {s : List α} (h : Srt lt s) : s.Nodup := h.imp (fun {a b} hab he => by subst he; rw [o.irr] at hab; cases hab)
theorem srt_ext (o : Ord lt) : ∀ {s t : List α}, Srt lt s → Srt lt t → (∀ x, x ∈ s ↔ x ∈ t) → s = t
  | [], [], _, _, _ => rfl
  | [], y :: r, _, _, h => by have := (h y).2 (by simp); cases this
  | x :: r, [], _, _, h => by have := (h x).1 (by simp); cases this
  | x :: r, y :: q, hs, ht, h => by
    obtain ⟨h1, h2⟩ := List.pairwise_cons.1 hs
    obtain ⟨h3, h4⟩ := List.pairwise_cons.1 ht
    have hxy : x = y := by
      rcases List.mem_cons.1 ((h x).1 (by simp)) with e | hx
      · exact e
      · rcases List.mem_cons.1 ((h y).2 (by simp)) with e | hy
        · exact e.symm
        · have a1 := h3 x hx
          have a2 := h1 y hy
          rw [o.asym a1] at a2
          cases a2
    subst hxy
    have : r = q := srt_ext o h2 h4 fun z => by
      constructor
      · intro hz
        rcases List.mem_cons.1 ((h z).1 (List.mem_cons_of_mem _ hz)) with e | hz2
        · subst e
          have := h1 z hz
          rw [o.irr] at this
          cases this
        · exact hz2
      · intro hz
        rcases List.mem_cons.1 ((h z).2 (List.mem_cons_of_mem _ hz)) with e | hz2
        · subst e
          have := h3 z hz
          rw [o.irr] at this
          cases this
        · exact hz2
    rw [this]
theorem srt_perm (o : Ord lt) {s t : List α} (hs : Srt lt s) (ht : Srt lt t) (h : s.Perm t) : s = t := srt_ext o hs ht fun x => h.mem_iff
end
end Hp
end Go.Proofs.Ytebgojcecgimaaa
