/- Something of the call's own in blocks F, and what lies in some other blocks of its own. No program in sight. -/
import Derived.Test.YthdagklibmdglaaDj
namespace Go.Proofs.Ythdagklibmdglaa
set_option linter.unusedVariables false
open Go.RowKit
/-- Φ holds in blocks F, made since w1; besides, the blocks of XO, made since w1 too, hold these objects -/
def Kept (w1 : World) (Φ : World → List Nat → Prop) (XO : List (Nat × Obj)) (w : World) : Prop :=
  ∃ F, Φ w F ∧ (∀ k, k ∈ F → w1.heap.size ≤ k ∧ k < w.heap.size) ∧ Step [] w1 w ∧ Dj (XO.map Prod.fst) F ∧ (∀ k, k ∈ XO.map Prod.fst → w1.heap.size ≤ k ∧ k < w.heap.size) ∧ ∀ x, x ∈ XO → w.heap[x.1]? = some x.2
/-- what holds in F goes on, if F is not turned -/
def Stb (Φ : World → List Nat → Prop) : Prop := ∀ w w' F H, Φ w F → Step H w w' → Dj F H → Φ w' F
section
variable {w1 w w' : World} {Φ Φ' : World → List Nat → Prop} {XO XO' NO : List (Nat × Obj)}
theorem Kept.st (h : Kept w1 Φ XO w) : Step [] w1 w := by
  obtain ⟨F, h1, h2, h3, _⟩ := h
  exact h3
theorem Kept.get (h : Kept w1 Φ XO w) {b : Nat} {o : Obj} (hb : (b, o) ∈ XO) : w.heap[b]? = some o := by
  obtain ⟨F, h1, h2, h3, h4, h5, h6⟩ := h
  exact h6 _ hb
theorem Kept.blk (h : Kept w1 Φ XO w) {b : Nat} {C : Array Value} {T : TypeId} (hb : (b, Obj.cells C T (0, 0)) ∈ XO) : Blk w b C T := h.get hb
theorem Kept.lt (h : Kept w1 Φ XO w) {x : Nat × Obj} (hx : x ∈ XO) : w1.heap.size ≤ x.1 ∧ x.1 < w.heap.size := by
  obtain ⟨F, h1, h2, h3, h4, h5, h6⟩ := h
  exact h5 _ (List.mem_map_of_mem hx)
theorem Kept.mono (h : Kept w1 Φ XO w) (hx : ∀ x, x ∈ XO' → x ∈ XO) : Kept w1 Φ XO' w := by
  obtain ⟨F, h1, h2, h3, h4, h5, h6⟩ := h
  have hk : ∀ k, k ∈ XO'.map Prod.fst → k ∈ XO.map Prod.fst := fun k hk => by
    obtain ⟨x, hx', rfl⟩ := List.mem_map.1 hk
    exact List.mem_map_of_mem (hx x hx')
  exact ⟨F, h1, h2, h3, fun k hk' => h4 k (hk k hk'), fun k hk' => h5 k (hk k hk'), fun x hx' => h6 x (hx x hx')⟩
/-- what holds in F goes on as something else -/
theorem Kept.imp (h : Kept w1 Φ XO w) (hi : ∀ F, Φ w F → Φ' w F) : Kept w1 Φ' XO w := by
  obtain ⟨F, h1, h⟩ := h
  exact ⟨F, hi F h1, h⟩
/-- an act on what lies in F: to be had of its contract for whatever F it is -/
theorem Kept.op (h : Kept w1 Φ XO w) {F F' : List Nat} (hΦ : Φ w F) (hF : ∀ k, k ∈ F → w1.heap.size ≤ k ∧ k < w.heap.size) (hd : Dj (XO.map Prod.fst) F) (hs : Step F w w') (hf : Fresh w F F') (hl : ∀ k, k ∈ F' → k < w'.heap.size) (hΦ' : Φ' w' F') : Kept w1 Φ' XO w' := by
  obtain ⟨_, _, _, h3, _, h5, h6⟩ := h
  have hz := h3.size
  refine ⟨F', hΦ', fun k hk => ⟨?_, hl k hk⟩, h3.then hs (fun k hk => .inr (hF k hk).1), hd.fresh (fun k hk => (h5 k hk).2) hf, fun k hk => ⟨(h5 k hk).1, Nat.lt_of_lt_of_le (h5 k hk).2 hs.size⟩, fun x hx => (hs.block x.1 (h5 _ (List.mem_map_of_mem hx)).2 (hd _ (List.mem_map_of_mem hx))).trans (h6 x hx)⟩
  rcases hf k hk with h7 | h7
  · exact (hF k h7).1
  · omega
/-- taken apart for an act -/
theorem Kept.open (h : Kept w1 Φ XO w) : ∃ F, Φ w F ∧ (∀ k, k ∈ F → w1.heap.size ≤ k ∧ k < w.heap.size) ∧ Dj (XO.map Prod.fst) F := by
  obtain ⟨F, h1, h2, h3, h4, h5, h6⟩ := h
  exact ⟨F, h1, h2, h4⟩
theorem Kept.step (h : Kept w1 Φ XO w) (hst : Stb Φ) (hs : Step [] w w') : Kept w1 Φ XO w' := by
  obtain ⟨F, h1, h2, h3, h4, h5, h6⟩ := h
  exact ⟨F, hst _ _ _ _ h1 hs (fun k _ => List.not_mem_nil), fun k hk => ⟨(h2 k hk).1, Nat.lt_of_lt_of_le (h2 k hk).2 hs.size⟩, h3.then hs (by simp), h4, fun k hk => ⟨(h5 k hk).1, Nat.lt_of_lt_of_le (h5 k hk).2 hs.size⟩, fun x hx => (hs.block x.1 (h5 _ (List.mem_map_of_mem hx)).2 (by simp)).trans (h6 x hx)⟩
/-- blocks that were made since are put to those that are known -/
theorem Kept.add (h : Kept w1 Φ XO w) (hst : Stb Φ) (hs : Step [] w w') (NO : List (Nat × Obj)) (hN : ∀ x, x ∈ NO → w.heap.size ≤ x.1 ∧ w'.heap[x.1]? = some x.2) : Kept w1 Φ (NO ++ XO) w' := by
  obtain ⟨F, h1, h2, h3, h4, h5, h6⟩ := h
  have hz := h3.size
  refine ⟨F, hst _ _ _ _ h1 hs (fun k _ => List.not_mem_nil), fun k hk => ⟨(h2 k hk).1, Nat.lt_of_lt_of_le (h2 k hk).2 hs.size⟩, h3.then hs (by simp), fun k hk hm => ?_, fun k hk => ?_, fun x hx => ?_⟩
  · rw [List.map_append] at hk
    rcases List.mem_append.1 hk with hk | hk
    · obtain ⟨x, hx, rfl⟩ := List.mem_map.1 hk
      have := (hN x hx).1
      have := (h2 _ hm).2
      omega
    · exact h4 k hk hm
  · rw [List.map_append] at hk
    rcases List.mem_append.1 hk with hk | hk
    · obtain ⟨x, hx, rfl⟩ := List.mem_map.1 hk
      have := hN x hx
      exact ⟨by omega, (Array.getElem?_eq_some_iff.1 this.2).1⟩
    · exact ⟨(h5 k hk).1, Nat.lt_of_lt_of_le (h5 k hk).2 hs.size⟩
  · rcases List.mem_append.1 hx with hx | hx
    · exact (hN x hx).2
    · exact (hs.block x.1 (h5 _ (List.mem_map_of_mem hx)).2 (by simp)).trans (h6 x hx)
/-- known blocks are written, others are made -/
theorem Kept.set (h : Kept w1 Φ XO w) (hst : Stb Φ) (hs : Step (XO.map Prod.fst) w w') (hX : ∀ x, x ∈ XO' → (x.1 ∈ XO.map Prod.fst ∨ w.heap.size ≤ x.1) ∧ w'.heap[x.1]? = some x.2) : Kept w1 Φ XO' w' := by
  obtain ⟨F, h1, h2, h3, h4, h5, h6⟩ := h
  have hz := h3.size
  refine ⟨F, hst _ _ _ _ h1 hs (fun k hk hm => h4 k hm hk), fun k hk => ⟨(h2 k hk).1, Nat.lt_of_lt_of_le (h2 k hk).2 hs.size⟩, h3.then hs (fun k hk => .inr (h5 k hk).1), fun k hk hm => ?_, fun k hk => ?_, fun x hx => (hX x hx).2⟩
  · obtain ⟨x, hx, rfl⟩ := List.mem_map.1 hk
    rcases (hX x hx).1 with h7 | h7
    · exact h4 _ h7 hm
    · have := (h2 _ hm).2
      omega
  · obtain ⟨x, hx, rfl⟩ := List.mem_map.1 hk
    have h8 := (Array.getElem?_eq_some_iff.1 (hX x hx).2).1
    rcases (hX x hx).1 with h7 | h7
    · exact ⟨(h5 _ h7).1, h8⟩
    · exact ⟨by omega, h8⟩
theorem Kept.made {F : List Nat} (hΦ : Φ w F) (hF : ∀ k, k ∈ F → w1.heap.size ≤ k ∧ k < w.heap.size) (hs : Step [] w1 w) : Kept w1 Φ [] w :=
  ⟨F, hΦ, hF, hs, fun k hk => absurd hk List.not_mem_nil, fun k hk => absurd hk List.not_mem_nil, fun x hx => absurd hx List.not_mem_nil⟩
end
end Go.Proofs.Ythdagklibmdglaa
