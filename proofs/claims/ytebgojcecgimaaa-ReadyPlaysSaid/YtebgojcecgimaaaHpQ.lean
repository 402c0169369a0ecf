/- heaps as rows: where keys are; what is in them. No program in sight. -/
import Derived.Test.YtebgojcecgimaaaHpP
import Derived.Test.YtebgojcecgimaaaMaps
namespace Go.Proofs.Ytebgojcecgimaaa
set_option linter.unusedVariables false
set_option linter.unusedSectionVars false
namespace Hp
section
variable {α κ : Type} [Inhabited α] [DecidableEq κ] (key : α → κ)
/-- where each key is -/
def AtOK (l : List α) (f : κ → Option Int) : Prop :=
  (∀ i, i < l.length → f (key (nth l i)) = some (i : Int)) ∧ ∀ k v, f k = some v → ∃ i : Nat, i < l.length ∧ v = (i : Int) ∧ key (nth l i) = k
variable {key} {l : List α} {f : κ → Option Int}
theorem AtOK.inj (h : AtOK key l f) {i j : Nat} (hi : i < l.length) (hj : j < l.length) (he : key (nth l i) = key (nth l j)) : i = j := by
  have h1 := h.1 i hi
  rw [he, h.1 j hj] at h1
  injection h1 with h1
  omega
theorem at_nil : AtOK key ([] : List α) (fun _ => Option.none) := ⟨fun i h => absurd h (Nat.not_lt_zero _), fun k v h => by cases h⟩
theorem at_swap (h : AtOK key l f) (i k : Nat) (hi : i < l.length) (hk : k < l.length) : AtOK key (swap l i k) (upd (upd f (key (nth l k)) (some (i : Int))) (key (nth l i)) (some (k : Int))) := by
  refine ⟨fun j hj => ?_, fun x v hv => ?_⟩
  · rw [swap_len] at hj
    rw [nth_swap l i k j hi hk]
    unfold upd
    by_cases h1 : j = k
    · rw [if_pos h1, if_pos rfl, h1]
    · rw [if_neg h1]
      by_cases h2 : j = i
      · rw [if_pos h2]
        have : key (nth l k) ≠ key (nth l i) := fun e => h1 (by rw [h2]; exact (h.inj hk hi e).symm)
        rw [if_neg this, if_pos rfl, h2]
      · rw [if_neg h2, if_neg (fun e => h2 (h.inj hj hi e)), if_neg (fun e => h1 (h.inj hj hk e))]
        exact h.1 j hj
  · unfold upd at hv
    by_cases h1 : x = key (nth l i)
    · rw [if_pos h1] at hv
      injection hv with hv
      exact ⟨k, by rw [swap_len]; exact hk, hv.symm, by rw [nth_swap l i k k hi hk, if_pos rfl, h1]⟩
    · rw [if_neg h1] at hv
      by_cases h2 : x = key (nth l k)
      · rw [if_pos h2] at hv
        injection hv with hv
        have hik : i ≠ k := fun e => h1 (by rw [h2, e])
        exact ⟨i, by rw [swap_len]; exact hi, hv.symm, by rw [nth_swap l i k i hi hk, if_neg hik, if_pos rfl, h2]⟩
      · rw [if_neg h2] at hv
        obtain ⟨j, hj, e1, e2⟩ := h.2 x v hv
        refine ⟨j, by rw [swap_len]; exact hj, e1, ?_⟩
        have hjk : j ≠ k := fun e => h2 (by rw [← e2, e])
        have hji : j ≠ i := fun e => h1 (by rw [← e2, e])
        rw [nth_swap l i k j hi hk, if_neg hjk, if_neg hji, e2]
theorem at_app (h : AtOK key l f) (x : α) (hx : f (key x) = Option.none) : AtOK key (l ++ [x]) (upd f (key x) (some (l.length : Int))) := by
  refine ⟨fun j hj => ?_, fun y v hv => ?_⟩
  · simp at hj
    unfold upd
    by_cases h1 : j < l.length
    · rw [nth_app _ _ _ h1]
      have : key (nth l j) ≠ key x := fun e => by
        have := h.1 j h1
        rw [e, hx] at this
        cases this
      rw [if_neg this]
      exact h.1 j h1
    · have : j = l.length := by omega
      subst this
      rw [nth_end, if_pos rfl]
  · unfold upd at hv
    by_cases h1 : y = key x
    · rw [if_pos h1] at hv
      injection hv with hv
      exact ⟨l.length, by simp, hv.symm, by rw [nth_end, h1]⟩
    · rw [if_neg h1] at hv
      obtain ⟨j, hj, e1, e2⟩ := h.2 y v hv
      exact ⟨j, by simp; omega, e1, by rw [nth_app _ _ _ hj, e2]⟩
theorem at_set (h : AtOK key l f) (i : Nat) (x : α) (hi : i < l.length) (hx : key x = key (nth l i)) : AtOK key (l.set i x) f := by
  have hk : ∀ j, key (nth (l.set i x) j) = key (nth l j) := fun j => by
    rw [nth_set]
    by_cases h1 : j = i ∧ i < l.length
    · rw [if_pos h1, hx, h1.1]
    · rw [if_neg h1]
  exact ⟨fun j hj => by rw [hk]; exact h.1 j (by simpa using hj), fun y v hv => by
    obtain ⟨j, hj, e1, e2⟩ := h.2 y v hv
    exact ⟨j, by simpa using hj, e1, by rw [hk]; exact e2⟩⟩
theorem at_take (h : AtOK key l f) (n : Nat) (hn : l.length = n + 1) : AtOK key (l.take n) (upd f (key (nth l n)) Option.none) := by
  refine ⟨fun j hj => ?_, fun y v hv => ?_⟩
  · simp at hj
    have hj2 : j < n := by omega
    rw [nth_take _ _ _ hj2]
    unfold upd
    have : key (nth l j) ≠ key (nth l n) := fun e => by
      have := h.inj (by omega) (by omega) e
      omega
    rw [if_neg this]
    exact h.1 j (by omega)
  · unfold upd at hv
    by_cases h1 : y = key (nth l n)
    · rw [if_pos h1] at hv
      cases hv
    · rw [if_neg h1] at hv
      obtain ⟨j, hj, e1, e2⟩ := h.2 y v hv
      have hjn : j ≠ n := fun e => h1 (by rw [← e2, e])
      exact ⟨j, by simp; omega, e1, by rw [nth_take _ _ _ (by omega), e2]⟩

/-- without a key -/
def wo (k : κ) (l : List α) : List α := l.filter (fun a => !decide (key a = k))
theorem mem_wo {k : κ} {l : List α} {a : α} : a ∈ wo (key := key) k l ↔ a ∈ l ∧ key a ≠ k := by simp [wo]
theorem wo_none (k : κ) (l : List α) (h : ∀ a, a ∈ l → key a ≠ k) : wo (key := key) k l = l := by
  unfold wo
  rw [List.filter_eq_self]
  intro a ha
  simp [h a ha]
theorem AtOK.none (h : AtOK key l f) {k : κ} (hk : f k = Option.none) : ∀ a, a ∈ l → key a ≠ k := by
  intro a ha e
  obtain ⟨i, hi, e2⟩ := mem_nth ha
  have := h.1 i hi
  rw [e2, e, hk] at this
  cases this
theorem AtOK.split (h : AtOK key l f) (i : Nat) (hi : i < l.length) : wo (key := key) (key (nth l i)) l = l.eraseIdx i := by
  have h1 : l = l.take i ++ nth l i :: l.drop (i + 1) := by
    rw [nth_get l i hi]
    simp
  have ha : ∀ a, a ∈ l.take i → key a ≠ key (nth l i) := fun a ha e => by
    obtain ⟨j, hj, e2⟩ := mem_nth ha
    simp at hj
    rw [nth_take _ _ _ (by omega)] at e2
    have := h.inj (i := j) (j := i) (by omega) hi (by rw [e2]; exact e)
    omega
  have hb : ∀ a, a ∈ l.drop (i + 1) → key a ≠ key (nth l i) := fun a ha e => by
    obtain ⟨j, hj, e2⟩ := List.getElem_of_mem ha
    simp at hj
    have e3 : nth l (i + 1 + j) = a := by
      rw [nth_get _ _ (by omega), ← e2]
      simp
    have := h.inj (by omega : i + 1 + j < l.length) hi (by rw [e3]; exact e)
    omega
  rw [List.eraseIdx_eq_take_drop_succ]
  generalize hx : nth l i = x at *
  conv => lhs; rw [h1]
  unfold wo
  rw [List.filter_append, List.filter_cons]
  rw [if_neg (by simp)]
  rw [show List.filter (fun a => !decide (key a = key x)) (l.take i) = l.take i from wo_none (key := key) _ _ ha, show List.filter (fun a => !decide (key a = key x)) (l.drop (i + 1)) = l.drop (i + 1) from wo_none (key := key) _ _ hb]
theorem set_perm (l : List α) (i : Nat) (x : α) (hi : i < l.length) : (l.set i x).Perm (x :: l.eraseIdx i) := by
  have h1 : l.set i x = l.take i ++ x :: l.drop (i + 1) := by
    rw [List.set_eq_take_append_cons_drop, if_pos hi]
  rw [h1, List.eraseIdx_eq_take_drop_succ]
  exact List.perm_middle
theorem get_perm (l : List α) (i : Nat) (hi : i < l.length) : l.Perm (nth l i :: l.eraseIdx i) := by
  have := set_perm l i (nth l i) hi
  rwa [show l.set i (nth l i) = l from by rw [nth_get l i hi]; exact List.set_getElem_self hi] at this
theorem cut_perm (l : List α) (i n : Nat) (hn : l.length = n + 1) (hi : i < l.length) : ((swap l i n).take n).Perm (l.eraseIdx i) := by
  have h1 : swap l i n = (swap l i n).take n ++ [nth l i] := by
    apply ext_nth
    · simp [swap_len, hn]
    · intro j hj
      rw [swap_len] at hj
      by_cases e : j < n
      · rw [nth_app _ _ _ (by simp [swap_len, hn]; omega), nth_take _ _ _ e]
      · have : j = n := by omega
        subst this
        have h2 : ((swap l i j).take j).length = j := by simp [swap_len, hn]
        have h3 := nth_end ((swap l i j).take j) (nth l i)
        rw [h2] at h3
        rw [h3, nth_swap l i j j hi (by omega), if_pos rfl]
  have h2 : (nth l i :: (swap l i n).take n).Perm (nth l i :: l.eraseIdx i) := by
    have h3 : (nth l i :: (swap l i n).take n).Perm (swap l i n) := by
      conv => rhs; rw [h1]
      exact (List.perm_append_singleton _ _).symm
    exact (h3.trans (swap_perm l i n hi (by omega))).trans (get_perm l i hi)
  exact List.Perm.cons_inv h2
end
end Hp
end Go.Proofs.Ytebgojcecgimaaa
