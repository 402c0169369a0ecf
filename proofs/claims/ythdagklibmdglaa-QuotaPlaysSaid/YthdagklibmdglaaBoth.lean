/- Two things of the call's own, apart from each other. No program in sight. -/
import Derived.Test.YthdagklibmdglaaKept
namespace Go.Proofs.Ythdagklibmdglaa
set_option linter.unusedVariables false
open Go.RowKit
def Both (Φ Ψ : World → List Nat → Prop) (w : World) (F : List Nat) : Prop := ∃ A B, F = A ++ B ∧ Φ w A ∧ Ψ w B ∧ Dj A B
section
variable {w1 w w' : World} {Φ Φ' Ψ Ψ' : World → List Nat → Prop} {XO : List (Nat × Obj)}
theorem both_stb (h : Stb Φ) (h' : Stb Ψ) : Stb (Both Φ Ψ) := by
  rintro w w' F H ⟨A, B, rfl, ha, hb, hd⟩ hs hdj
  exact ⟨A, B, rfl, h _ _ _ _ ha hs (fun k hk => hdj k (List.mem_append_left _ hk)), h' _ _ _ _ hb hs (fun k hk => hdj k (List.mem_append_right _ hk)), hd⟩
/-- an act on the first one -/
theorem Kept.left (h : Kept w1 (Both Φ Ψ) XO w) (hΨ : Stb Ψ) : ∃ A, Φ w A ∧ (∀ k, k ∈ A → w1.heap.size ≤ k ∧ k < w.heap.size) ∧
    ∀ (w' : World) (A' : List Nat) (Φ' : World → List Nat → Prop), Step A w w' → Fresh w A A' → (∀ k, k ∈ A' → k < w'.heap.size) → Φ' w' A' → Kept w1 (Both Φ' Ψ) XO w' := by
  obtain ⟨F, ⟨A, B, rfl, ha, hb, hd⟩, hF, hx⟩ := h.open
  refine ⟨A, ha, fun k hk => hF k (List.mem_append_left _ hk), fun w' A' Φ' hs hf hl hΦ' => ?_⟩
  have hb' := hΨ _ _ _ _ hb hs (fun k hk hm => hd k hm hk)
  refine h.op (F := A ++ B) (F' := A' ++ B) ⟨A, B, rfl, ha, hb, hd⟩ hF hx (hs.mono (fun k hk => List.mem_append_left _ hk)) (fun k hk => ?_) (fun k hk => ?_) ⟨A', B, rfl, hΦ', hb', fun k hk hm => ?_⟩
  · rcases List.mem_append.1 hk with hk | hk
    · rcases hf k hk with h1 | h1
      · exact .inl (List.mem_append_left _ h1)
      · exact .inr h1
    · exact .inl (List.mem_append_right _ hk)
  · rcases List.mem_append.1 hk with hk | hk
    · exact hl k hk
    · exact Nat.lt_of_lt_of_le (hF k (List.mem_append_right _ hk)).2 hs.size
  · rcases hf k hk with h1 | h1
    · exact hd k h1 hm
    · have := (hF k (List.mem_append_right _ hm)).2
      omega
/-- an act on the second one -/
theorem Kept.right (h : Kept w1 (Both Φ Ψ) XO w) (hΦ : Stb Φ) : ∃ B, Ψ w B ∧ (∀ k, k ∈ B → w1.heap.size ≤ k ∧ k < w.heap.size) ∧
    ∀ (w' : World) (B' : List Nat) (Ψ' : World → List Nat → Prop), Step B w w' → Fresh w B B' → (∀ k, k ∈ B' → k < w'.heap.size) → Ψ' w' B' → Kept w1 (Both Φ Ψ') XO w' := by
  obtain ⟨F, ⟨A, B, rfl, ha, hb, hd⟩, hF, hx⟩ := h.open
  refine ⟨B, hb, fun k hk => hF k (List.mem_append_right _ hk), fun w' B' Ψ' hs hf hl hΨ' => ?_⟩
  have ha' := hΦ _ _ _ _ ha hs (fun k hk hm => hd k hk hm)
  refine h.op (F := A ++ B) (F' := A ++ B') ⟨A, B, rfl, ha, hb, hd⟩ hF hx (hs.mono (fun k hk => List.mem_append_right _ hk)) (fun k hk => ?_) (fun k hk => ?_) ⟨A, B', rfl, ha', hΨ', fun k hk hm => ?_⟩
  · rcases List.mem_append.1 hk with hk | hk
    · exact .inl (List.mem_append_left _ hk)
    · rcases hf k hk with h1 | h1
      · exact .inl (List.mem_append_right _ h1)
      · exact .inr h1
  · rcases List.mem_append.1 hk with hk | hk
    · exact Nat.lt_of_lt_of_le (hF k (List.mem_append_left _ hk)).2 hs.size
    · exact hl k hk
  · rcases hf k hm with h1 | h1
    · exact hd k hk h1
    · have := (hF k (List.mem_append_left _ hk)).2
      omega
end
end Go.Proofs.Ythdagklibmdglaa
