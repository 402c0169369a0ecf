/- A range over a function whose mark is one of the loop's own blocks. No program in sight. -/
import Derived.Test.YtkogchmnpffiaaaRangeSep
namespace Go.Proofs.Ytkogchmnpffiaaa
set_option linter.unusedVariables false
open Go.RowKit
section
variable {F : Fence} {n : Nat} {P : Program} {α : Type}
/-- a range over a function, outermost, whose mark's block is the loop's own -/
theorem wpIn_range_sepD {g : Operand} {ps : Array Tmp} {assign body : Code} {Q : Exit → Act → World → Prop} {a : Act} {w : World}
    (hro : F.round = none) (h1 : 1 ≤ n) {gf : Nat} {lb : Array Value} (hg : a.eval g = .func (.func gf) #[] lb) (hFg : F.fn gf) (eg : ∀ args w, (callFunc gf args).run P w = .ok (.enter gf args) w)
    {encs : α → Array Value} {R : List Nat} {V S Sp : List α → Prop} {Pre : World → Prop} (hseq : SeqSep F (n - 1) P gf lb encs R V S Sp Pre) (hPre : ∀ W, Step [] w W → Pre W) (hps : ∀ x, (encs x).size = ps.size) (hR : Live w R)
    (I : List α → World → List Nat → Prop) (Ix : Code → List α → World → List Nat → Prop)
    (hIs : ∀ s A B C H, I s A C → Step H A B → Dj C H → I s B C) (hIl : ∀ s A C, I s A C → Live A C) (hIR : ∀ s A C, I s A C → Dj R C)
    (hXs : ∀ c s A B C H, Ix c s A C → Step H A B → Dj C H → Ix c s B C) (hXl : ∀ c s A C, Ix c s A C → Live A C)
    (C0 : List Nat) (h0 : I [] (w.alloc (.deferred (some []))) C0) (Ax : α → Act → World → Prop) (hAx : ∀ x a' A B b r, Ax x a' A → A.heap[b]? = some (.loop r) → Step [b] A B → Ax x a' B)
    (hassign : ∀ (l : Nat) (pre : List α) (x : α) (A : World) (C : List Nat) (K : Act → World → Prop), I pre A C → (∀ a' A', Step [] A A' → Ax x a' A' → K a' A') →
      assign.wpIn (F.inRound l) (n - 1 - 1) P (Exit.then K (fun _ _ _ => False)) { tmps := (ps.zip (encs x)).foldl (fun t (p, v) => t.setIfInBounds p v) a.tmps, defers := [] } A)
    (hbody : ∀ (l : Nat) (pre : List α) (x : α) (a' : Act) (A : World) (C : List Nat), (∃ r, A.heap[l]? = some (.loop r)) → l ∉ C → V (pre ++ [x]) → I pre A C → Ax x a' A → body.wpIn (F.inRound l) (n - 1 - 1) P (postSep I Ix (pre ++ [x]) A C) a' A)
    (hdone : ∀ (xs : List α) (B : World) (C : List Nat), S xs → I xs B C → Q .normal { a with defers := { target := .collected w.heap.size, args := #[] } :: a.defers } B)
    (hstop : ∀ (c : Code) (pre : List α) (B : World) (C : List Nat), Sp pre → Ix c pre B C → c.wpIn F n P Q { a with defers := { target := .collected w.heap.size, args := #[] } :: a.defers } B) :
    (Code.rangeFunc g ps assign body).wpIn F n P Q a w := by
  refine wpIn_rangeFunc ?_
  intro fn hfn
  rw [hro]
  obtain ⟨W1, hW1⟩ : ∃ W1, (w.alloc (.deferred (some []))).alloc (.loop { state := .ready, pending := none, fn, tmps := a.tmps, params := ps, assign, body, defers := w.heap.size }) = W1 := ⟨_, rfl⟩
  have hL1 : W1.heap[w.heap.size + 1]? = some (.loop { state := .ready, pending := none, fn, tmps := a.tmps, params := ps, assign, body, defers := w.heap.size }) := by
    rw [← hW1]; have := World.alloc_heap_new (w.alloc (.deferred (some []))) (.loop { state := .ready, pending := none, fn, tmps := a.tmps, params := ps, assign, body, defers := w.heap.size }); rwa [World.size_alloc] at this
  have hK1 : W1.heap[w.heap.size]? = some (.deferred (some [])) := by
    rw [← hW1]; exact (Below.heap_alloc _ _ _ (by simp)).trans (World.alloc_heap_new w _)
  have hs1 : Step [] w W1 := by
    rw [← hW1]
    exact ((Step.refl [] w).alloc _).alloc _
  have hsz : W1.heap.size = w.heap.size + 1 + 1 := by rw [← hW1, World.size_alloc, World.size_alloc]
  have hl0 := hIl _ _ _ h0
  refine ⟨w.heap.size + 1, [{ target := .collected w.heap.size, args := #[] }], W1, { target := .fn (.func gf) lb, args := #[.func (.yield (w.heap.size + 1)) #[] #[]] }, W1, gf,
    #[.func (.yield (w.heap.size + 1)) #[] #[]] ++ lb, W1, ?_, ?_, ?_, ?_, fun _ => h1, ?_⟩
  · rw [← hW1]; exact run_enterLoop_outer _ _ _ _ _
  · simp only [resolve, hg]
    simp [go_sem]
  · intro f' hf'; simp [Target.leads] at hf'; subst hf'; exact hFg
  · simp [invoke, go_sem, eg]
  · have hs2 : Step [] (w.alloc (.deferred (some []))) W1 := by rw [← hW1]; exact (Step.refl [] _).alloc _
    have hszD : (w.alloc (.deferred (some []))).heap.size = w.heap.size + 1 := World.size_alloc _ _
    exact rangeSep_core (X := []) hfn hseq (hPre W1 hs1) hps hL1 (fun k hk => absurd hk List.not_mem_nil) List.not_mem_nil (fun hm => by have := hR _ hm; omega) I Ix hIs hIl hIR hXs hXl C0 (hIs _ _ _ _ _ h0 hs2 (fun k _ => List.not_mem_nil)) (fun hm => by have := hl0 _ hm; omega) (fun k hk => absurd hk List.not_mem_nil) Ax hAx (hassign _) (hbody _)
      (fun xs B C hS hi _ => hdone xs B C hS hi) (fun c pre B C hS hi _ => hstop c pre B C hS hi)
end
end Go.Proofs.Ytkogchmnpffiaaa
