/- An iterator that ranges over iterators: its own blocks are all that were made since, but for those of the rounds. No program in sight. -/
import Derived.Test.YtkogchmnpffiaaaRangeSepD
namespace Go.Proofs.Ytkogchmnpffiaaa
set_option linter.unusedVariables false
open Go.RowKit
/-- of n blocks: those that no round made, and those that are kept -/
def gOf (K C : List Nat) (n : Nat) : List Nat := (List.range n).filter fun k => decide (k ∉ C) || decide (k ∈ K)
theorem mem_gOf {K C : List Nat} {n k : Nat} : k ∈ gOf K C n ↔ k < n ∧ (k ∉ C ∨ k ∈ K) := by
  unfold gOf
  rw [List.mem_filter, List.mem_range]
  simp
theorem gOf_live {K C : List Nat} {A : World} : Live A (gOf K C A.heap.size) := fun k hk => (mem_gOf.1 hk).1
theorem gOf_fresh {K C : List Nat} {A B : World} : Fresh A (gOf K C A.heap.size) (gOf K C B.heap.size) := fun k hk => by
  obtain ⟨h1, h2⟩ := mem_gOf.1 hk
  rcases Nat.lt_or_ge k A.heap.size with h | h
  · exact .inl (mem_gOf.2 ⟨h, h2⟩)
  · exact .inr h
/-- a step apart from C is one of the iterator's own -/
theorem step_gOf {K C H : List Nat} {A B : World} (hs : Step H A B) (hd : Dj C H) : Step (gOf K C A.heap.size) A B :=
  ⟨hs.os, hs.tape, hs.output, hs.size, fun k hk hn => hs.block k hk (fun hm => hn (mem_gOf.2 ⟨hk, .inl (fun hc => hd k hc hm)⟩))⟩
/-- a round's new blocks are put to C -/
theorem gOf_round {K C : List Nat} {a b : Nat} (hab : a ≤ b) (hK : ∀ k, k ∈ K → k < a) : gOf K (C ++ (List.range b).drop a) b = gOf K C a := by
  unfold gOf
  obtain ⟨m, rfl⟩ : ∃ m, b = a + m := ⟨b - a, by omega⟩
  have hr : List.range (a + m) = List.range a ++ (List.range m).map (a + ·) := List.range_add
  have hmem : ∀ k, k ∈ (List.range (a + m)).drop a ↔ a ≤ k ∧ k < a + m := fun k => by
    rw [hr, List.drop_left' (by simp)]
    simp only [List.mem_map, List.mem_range]
    constructor
    · rintro ⟨x, hx, rfl⟩; omega
    · intro h; exact ⟨k - a, by omega, by omega⟩
  generalize hE : (List.range (a + m)).drop a = E at hmem ⊢
  rw [hr]
  rw [List.filter_append]
  have h2 : ((List.range m).map (a + ·)).filter (fun k => decide (k ∉ C ++ E) || decide (k ∈ K)) = [] := by
    rw [List.filter_eq_nil_iff]
    intro k hk
    have hk2 : a ≤ k ∧ k < a + m := by
      simp only [List.mem_map, List.mem_range] at hk
      obtain ⟨x, hx, rfl⟩ := hk
      omega
    have h3 : k ∈ C ++ E := List.mem_append.2 (.inr ((hmem k).2 hk2))
    have h4 : k ∉ K := fun h => by have := hK k h; omega
    simp [h3, h4]
  rw [h2, List.append_nil]
  apply List.filter_congr
  intro k hk
  rw [List.mem_range] at hk
  have h3 : k ∈ C ++ E ↔ k ∈ C := by
    rw [List.mem_append, hmem]
    constructor
    · rintro (h | h)
      · exact h
      · omega
    · exact .inl
  simp only [h3]
end Go.Proofs.Ytkogchmnpffiaaa
