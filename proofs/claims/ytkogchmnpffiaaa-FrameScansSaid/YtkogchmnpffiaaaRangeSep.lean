/- A range over a function whose iterator keeps blocks of its own, and whose body keeps blocks of its own, apart. No program in sight. -/
import Derived.Test.YtkogchmnpffiaaaDj
import Derived.RangeFuncNested
import Derived.RangeFuncLeaves
namespace Go.Proofs.Ytkogchmnpffiaaa
set_option linter.unusedVariables false
open Go.RowKit
section
variable {F : Fence} {n : Nat} {P : Program} {α : Type}

/-- what an iterator does, whatever the loop: it may turn its own blocks G alone, which the loop's invariant J knows; a round leaves G and R as they were -/
def SeqSep (F : Fence) (n : Nat) (P : Program) (gf : Nat) (lb : Array Value) (encs : α → Array Value) (R : List Nat) (V S Sp : List α → Prop) (Pre : World → Prop) : Prop :=
  ∀ (l : Nat) (J Jx : List α → World → List Nat → Prop) (W : World), Pre W →
    (∀ s A B G G', J s A G → Step G A B → Fresh A G G' → Live B G' → J s B G') →
    (∀ s A B G G', Jx s A G → Step G A B → Fresh A G G' → Live B G' → Jx s B G') →
    (∀ pre x A G, J pre A G → V (pre ++ [x]) → YieldAt F (n - 1) P l (encs x) A fun e B =>
      (e = .returned (.bool true) ∧ J (pre ++ [x]) B G ∧ ∃ H, Step H A B ∧ Dj (R ++ G) H) ∨ (e = .returned (.bool false) ∧ Jx (pre ++ [x]) B G ∧ ∃ H, Step H A B ∧ Dj (R ++ G) H)) →
    J [] W [] →
    CallsIn F n P gf (#[.func (.yield l) #[] #[]] ++ lb) W fun e B => (∃ v, e = .returned v) ∧ ((∃ xs G, S xs ∧ J xs B G) ∨ (∃ pre G, Sp pre ∧ Jx pre B G))
theorem SeqSep.inRound {gf : Nat} {lb : Array Value} {encs : α → Array Value} {R : List Nat} {V S Sp : List α → Prop} {Pre : World → Prop} (l : Nat) (h : SeqSep F n P gf lb encs R V S Sp Pre) : SeqSep (F.inRound l) n P gf lb encs R V S Sp Pre := h

/-- how a round may be left -/
def postSep (I : List α → World → List Nat → Prop) (Ix : Code → List α → World → List Nat → Prop) (xs : List α) (A : World) (C : List Nat) : Exit → Act → World → Prop
  | .normal, _, B => ∃ C', I xs B C' ∧ Step C A B ∧ Fresh A C C'
  | .ret, _, B => ∃ C', Ix .ret xs B C' ∧ Step C A B ∧ Fresh A C C'
  | .exit id, _, B => ∃ C', Ix (.exit id) xs B C' ∧ Step C A B ∧ Fresh A C C'
  | .goto t, _, B => ∃ C', Ix (.goto t) xs B C' ∧ Step C A B ∧ Fresh A C C'
  | _, _, _ => False

theorem step_put {W : World} {l : Nat} (o : Obj) : Step [l] W (W.putObj l o) := by
  exact (Step.refl [l] W).grown (grownBy_putObj' W l o) (fun k e => by cases e; exact .inl (by simp))

/-- the loop's own: its invariant, apart from the iterator's blocks; its record; some blocks that nobody turns -/
def JSep (l : Nat) (X : List Nat) (W1 : World) (I : List α → World → List Nat → Prop) (r : Loop) (s : List α) (A : World) (G : List Nat) : Prop :=
  Live A G ∧ l ∉ G ∧ Dj X G ∧ ∃ C, I s A C ∧ Dj C G ∧ l ∉ C ∧ Dj X C ∧ A.heap[l]? = some (.loop r) ∧ (∀ k, k ∈ X → k < A.heap.size ∧ A.heap[k]? = W1.heap[k]?)

theorem JSep.step {l : Nat} {X : List Nat} {W1 A B : World} {I : List α → World → List Nat → Prop} {r : Loop} {s : List α} {G G' : List Nat} (h : JSep l X W1 I r s A G)
    (hIs : ∀ s A B C H, I s A C → Step H A B → Dj C H → I s B C) (hIl : ∀ s A C, I s A C → Live A C) (hs : Step G A B) (hf : Fresh A G G') (hl : Live B G') : JSep l X W1 I r s B G' := by
  obtain ⟨h1, h2, h3, C, h4, h5, h6, h7, h8, h9⟩ := h
  have hlA : l < A.heap.size := (Array.getElem?_eq_some_iff.1 h8).1
  refine ⟨hl, fun hm => ?_, fun k hk hm => ?_, C, hIs _ _ _ _ _ h4 hs h5, h5.fresh (hIl _ _ _ h4) hf, h6, h7, (hs.block l hlA h2).trans h8, fun k hk => ⟨Nat.lt_of_lt_of_le (h9 k hk).1 hs.size, (hs.block k (h9 k hk).1 (h3 k hk)).trans (h9 k hk).2⟩⟩
  · rcases hf l hm with h | h
    · exact h2 h
    · omega
  · rcases hf k hm with h | h
    · exact h3 k hk h
    · have := (h9 k hk).1
      omega

theorem rangeSep_core {Q : Exit → Act → World → Prop} {a a2 : Act} {gf : Nat} {lb : Array Value} {encs : α → Array Value} {R : List Nat} {V S Sp : List α → Prop} {Pre : World → Prop} {W1 : World} {l : Nat} {X : List Nat} {fn : FuncId} {ps : Array Tmp} {assign body : Code} {df : Nat}
    (hfn : F.fn fn) (hseq : SeqSep F (n - 1) P gf lb encs R V S Sp Pre) (hPre : Pre W1) (hps : ∀ x, (encs x).size = ps.size)
    (hl : W1.heap[l]? = some (.loop { state := .ready, pending := none, fn, tmps := a.tmps, params := ps, assign, body, defers := df })) (hX : ∀ k, k ∈ X → k < W1.heap.size) (hlX : l ∉ X) (hlR : l ∉ R)
    (I : List α → World → List Nat → Prop) (Ix : Code → List α → World → List Nat → Prop)
    (hIs : ∀ s A B C H, I s A C → Step H A B → Dj C H → I s B C) (hIl : ∀ s A C, I s A C → Live A C) (hIR : ∀ s A C, I s A C → Dj R C)
    (hXs : ∀ c s A B C H, Ix c s A C → Step H A B → Dj C H → Ix c s B C) (hXl : ∀ c s A C, Ix c s A C → Live A C)
    (C0 : List Nat) (h0 : I [] W1 C0) (hlC : l ∉ C0) (hXC : Dj X C0) (Ax : α → Act → World → Prop) (hAx : ∀ x a' A B b r, Ax x a' A → A.heap[b]? = some (.loop r) → Step [b] A B → Ax x a' B)
    (hassign : ∀ (pre : List α) (x : α) (A : World) (C : List Nat) (K : Act → World → Prop), I pre A C → (∀ a' A', Step [] A A' → Ax x a' A' → K a' A') →
      assign.wpIn (F.inRound l) (n - 1 - 1) P (Exit.then K (fun _ _ _ => False)) { tmps := (ps.zip (encs x)).foldl (fun t (p, v) => t.setIfInBounds p v) a.tmps, defers := [] } A)
    (hbody : ∀ (pre : List α) (x : α) (a' : Act) (A : World) (C : List Nat), (∃ r, A.heap[l]? = some (.loop r)) → l ∉ C → V (pre ++ [x]) → I pre A C → Ax x a' A → body.wpIn (F.inRound l) (n - 1 - 1) P (postSep I Ix (pre ++ [x]) A C) a' A)
    (hdone : ∀ (xs : List α) (B : World) (C : List Nat), S xs → I xs B C → (∀ k, k ∈ X → k ∉ C ∧ B.heap[k]? = W1.heap[k]?) → Q .normal a2 B)
    (hstop : ∀ (c : Code) (pre : List α) (B : World) (C : List Nat), Sp pre → Ix c pre B C → (∀ k, k ∈ X → k ∉ C ∧ B.heap[k]? = W1.heap[k]?) → c.wpIn F n P Q a2 B) :
    CallsIn F (n - 1) P gf (#[.func (.yield l) #[] #[]] ++ lb) W1 (rangePost F n P l Q a2) := by
  have hl1 : l < W1.heap.size := (Array.getElem?_eq_some_iff.1 hl).1
  refine (hseq l (JSep l X W1 I { state := .ready, pending := none, fn, tmps := a.tmps, params := ps, assign, body, defers := df })
    (fun s A G => ∃ c, JSep l X W1 (Ix c) { state := .done, pending := some c, fn, tmps := a.tmps, params := ps, assign, body, defers := df } s A G) W1 hPre
    (fun s A B G G' h hs hf hl => h.step hIs hIl hs hf hl) (fun s A B G G' ⟨c, h⟩ hs hf hl => ⟨c, h.step (hXs c) (hXl c) hs hf hl⟩) ?_
    ⟨fun k hk => absurd hk List.not_mem_nil, List.not_mem_nil, fun k hk => List.not_mem_nil, C0, h0, fun k hk => List.not_mem_nil, hlC, hXC, hl, fun k hk => ⟨hX k hk, rfl⟩⟩).mono ?_
  · rintro pre x A G ⟨j1, j2, j3, C, j4, j5, j6, j7, j8, j9⟩ hV
    have hy := run_yield (P := P) (args := encs x) j8 (hps x)
    refine ⟨fn, _, assign, body, hy, roundIn_of_wpIn hfn (hassign pre x A C _ j4 ?_)⟩
    intro a' A1 s1 hax
    have jl := hIl _ _ _ j4
    have lA : l < A.heap.size := (Array.getElem?_eq_some_iff.1 j8).1
    have k8 := (s1.block l lA (by simp)).trans j8
    have lA1 : l < A1.heap.size := (Array.getElem?_eq_some_iff.1 k8).1
    refine ⟨_, run_beginRound k8 rfl, ?_⟩
    have s2 : Step [l] A1 (A1.putObj l _) := step_put (.loop { state := .busy, pending := none, fn, tmps := a.tmps, params := ps, assign, body, defers := df })
    have k2 : (A1.putObj l (.loop { state := .busy, pending := none, fn, tmps := a.tmps, params := ps, assign, body, defers := df })).heap[l]? = some (.loop { state := .busy, pending := none, fn, tmps := a.tmps, params := ps, assign, body, defers := df }) := World.putObj_heap_same lA1
    generalize hA2 : A1.putObj l (.loop { state := .busy, pending := none, fn, tmps := a.tmps, params := ps, assign, body, defers := df }) = A2 at s2 k2
    have i2 : I pre A2 C := hIs _ _ _ _ _ (hIs _ _ _ _ _ j4 s1 (fun k _ => List.not_mem_nil)) s2 (fun k hk hm => by simp at hm; subst hm; exact j6 hk)
    refine wpIn_mono (hbody pre x a' A2 C ⟨_, k2⟩ j6 hV i2 (hAx _ _ _ _ _ _ hax k8 s2)) ?_
    have lA2 : l < A2.heap.size := (Array.getElem?_eq_some_iff.1 k2).1
    have hsz : A.heap.size ≤ A2.heap.size := Nat.le_trans s1.size s2.size
    -- what lies behind a round
    have fin : ∀ (jump : Option Code) (st : LoopState) (pe : Option Code) (I2 : List α → World → List Nat → Prop) (hs2 : ∀ s A B C H, I2 s A C → Step H A B → Dj C H → I2 s B C) (A3 : World) (C' : List Nat), I2 (pre ++ [x]) A3 C' → Step C A2 A3 → Fresh A2 C C' →
        (st = if jump.isNone then .ready else .done) → pe = jump →
        (Instr.endRound l jump).run P A3 = .ok (.bool jump.isNone) (A3.putObj l (.loop { state := st, pending := pe, fn, tmps := a.tmps, params := ps, assign, body, defers := df })) ∧
        JSep l X W1 I2 { state := st, pending := pe, fn, tmps := a.tmps, params := ps, assign, body, defers := df } (pre ++ [x]) (A3.putObj l (.loop { state := st, pending := pe, fn, tmps := a.tmps, params := ps, assign, body, defers := df })) G ∧
        Step (l :: C) A (A3.putObj l (.loop { state := st, pending := pe, fn, tmps := a.tmps, params := ps, assign, body, defers := df })) := by
      intro jump st pe I2 hs2 A3 C' i3 s3 f3 hst hpe
      have k3 := (s3.block l lA2 j6).trans k2
      have lA3 : l < A3.heap.size := (Array.getElem?_eq_some_iff.1 k3).1
      have s4 : Step [l] A3 (A3.putObj l (.loop { state := st, pending := pe, fn, tmps := a.tmps, params := ps, assign, body, defers := df })) := step_put _
      have lC' : l ∉ C' := fun hm => by
        rcases f3 l hm with h | h
        · exact j6 h
        · omega
      have s04 : Step (l :: C) A (A3.putObj l (.loop { state := st, pending := pe, fn, tmps := a.tmps, params := ps, assign, body, defers := df })) :=
        (((s1.mono (G := l :: C) (by simp)).then s2 (by simp)).then s3 (fun k hk => .inl (by simp [hk]))).then s4 (by simp)
      have dGC' : Dj C' G := fun k hk hg => by
        rcases f3 k hk with h | h
        · exact j5 k h hg
        · have := j1 k hg
          omega
      refine ⟨by rw [run_endRound (P := P) jump k3, hst, hpe], ⟨fun k hk => Nat.lt_of_lt_of_le (j1 k hk) s04.size, j2, j3, C', hs2 _ _ _ _ _ i3 s4 (fun k hk hm => by simp at hm; subst hm; exact lC' hk), dGC', lC', fun k hk hm => ?_, World.putObj_heap_same lA3, fun k hk => ?_⟩, s04⟩
      · rcases f3 k hm with h | h
        · exact j7 k hk h
        · have := (j9 k hk).1
          omega
      · have hkl : k ≠ l := fun e => by subst e; exact hlX hk
        refine ⟨Nat.lt_of_lt_of_le (j9 k hk).1 s04.size, (s04.block k (j9 k hk).1 (fun hm => ?_)).trans (j9 k hk).2⟩
        rcases List.mem_cons.1 hm with h | h
        · exact hkl h
        · exact j7 k hk h
    have hdj : Dj (R ++ G) (l :: C) := fun k hk hm => by
      rcases List.mem_append.1 hk with hk | hk <;> rcases List.mem_cons.1 hm with h | h
      · subst h
        exact hlR hk
      · exact hIR _ _ _ j4 k hk h
      · subst h
        exact j2 hk
      · exact j5 k h hk
    rintro e a3 A3 hp
    cases e with
    | normal =>
      obtain ⟨C', i3, s3, f3⟩ := hp
      obtain ⟨hr, hj, hs⟩ := fin none .ready none I hIs A3 C' i3 s3 f3 rfl rfl
      exact ⟨_, _, hr, .inl ⟨rfl, hj, l :: C, hs, hdj⟩⟩
    | ret =>
      obtain ⟨C', i3, s3, f3⟩ := hp
      obtain ⟨hr, hj, hs⟩ := fin (some .ret) .done (some .ret) (Ix .ret) (hXs _) A3 C' i3 s3 f3 rfl rfl
      exact ⟨_, _, hr, .inr ⟨rfl, ⟨_, hj⟩, l :: C, hs, hdj⟩⟩
    | exit id =>
      obtain ⟨C', i3, s3, f3⟩ := hp
      obtain ⟨hr, hj, hs⟩ := fin (some (.exit id)) .done (some (.exit id)) (Ix (.exit id)) (hXs _) A3 C' i3 s3 f3 rfl rfl
      exact ⟨_, _, hr, .inr ⟨rfl, ⟨_, hj⟩, l :: C, hs, hdj⟩⟩
    | goto t =>
      obtain ⟨C', i3, s3, f3⟩ := hp
      obtain ⟨hr, hj, hs⟩ := fin (some (.goto t)) .done (some (.goto t)) (Ix (.goto t)) (hXs _) A3 C' i3 s3 f3 rfl rfl
      exact ⟨_, _, hr, .inr ⟨rfl, ⟨_, hj⟩, l :: C, hs, hdj⟩⟩
    | panic ch => exact hp.elim
    | outgrown => exact hp.elim
  · have hput : ∀ {I2 : List α → World → List Nat → Prop} {r r' : Loop} {s : List α} {B : World} {G : List Nat}, (∀ s A B C H, I2 s A C → Step H A B → Dj C H → I2 s B C) → JSep l X W1 I2 r s B G → ∃ C, I2 s (B.putObj l (.loop r')) C ∧ ∀ k, k ∈ X → k ∉ C ∧ (B.putObj l (.loop r')).heap[k]? = W1.heap[k]? := by
      rintro I2 r r' s B G hs2 ⟨h1, h2, h3, C, h4, h5, h6, h7, h8, h9⟩
      refine ⟨C, hs2 _ _ _ _ _ h4 (step_put _) (fun k hk hm => by simp at hm; subst hm; exact h6 hk), fun k hk => ⟨h7 k hk, ?_⟩⟩
      have hkl : k ≠ l := fun e => by subst e; exact hlX hk
      exact ((step_put (W := B) (l := l) (.loop r')).block k (h9 k hk).1 (by simpa using hkl)).trans (h9 k hk).2
    rintro e B ⟨⟨v, rfl⟩, (⟨xs, G, hS, hj⟩ | ⟨pre, G, hSp, c, hj⟩)⟩
    · obtain ⟨C, hi, hk⟩ := hput (r' := { state := .exhausted, pending := none, fn, tmps := a.tmps, params := ps, assign, body, defers := df }) hIs hj
      obtain ⟨_, _, _, _, _, _, _, _, hr, _⟩ := hj
      exact ⟨none, _, run_endLoop (P := P) hr (by simp), hdone xs _ C hS hi hk⟩
    · obtain ⟨C, hi, hk⟩ := hput (r' := { state := .exhausted, pending := some c, fn, tmps := a.tmps, params := ps, assign, body, defers := df }) (hXs c) hj
      obtain ⟨_, _, _, _, _, _, _, _, hr, _⟩ := hj
      exact ⟨some c, _, run_endLoop (P := P) hr (by simp), hstop c pre _ C hSp hi hk⟩

/-- a range over a function: outermost -/
theorem wpIn_range_sep {g : Operand} {ps : Array Tmp} {assign body : Code} {Q : Exit → Act → World → Prop} {a : Act} {w : World}
    (hro : F.round = none) (h1 : 1 ≤ n) {gf : Nat} {lb : Array Value} (hg : a.eval g = .func (.func gf) #[] lb) (hFg : F.fn gf) (eg : ∀ args w, (callFunc gf args).run P w = .ok (.enter gf args) w)
    {encs : α → Array Value} {R : List Nat} {V S Sp : List α → Prop} {Pre : World → Prop} (hseq : SeqSep F (n - 1) P gf lb encs R V S Sp Pre) (hPre : ∀ W, Step [] w W → Pre W) (hps : ∀ x, (encs x).size = ps.size) (hR : Live w R)
    (I : List α → World → List Nat → Prop) (Ix : Code → List α → World → List Nat → Prop)
    (hIs : ∀ s A B C H, I s A C → Step H A B → Dj C H → I s B C) (hIl : ∀ s A C, I s A C → Live A C) (hIR : ∀ s A C, I s A C → Dj R C)
    (hXs : ∀ c s A B C H, Ix c s A C → Step H A B → Dj C H → Ix c s B C) (hXl : ∀ c s A C, Ix c s A C → Live A C)
    (C0 : List Nat) (h0 : I [] w C0) (Ax : α → Act → World → Prop) (hAx : ∀ x a' A B b r, Ax x a' A → A.heap[b]? = some (.loop r) → Step [b] A B → Ax x a' B)
    (hassign : ∀ (l : Nat) (pre : List α) (x : α) (A : World) (C : List Nat) (K : Act → World → Prop), I pre A C → (∀ a' A', Step [] A A' → Ax x a' A' → K a' A') →
      assign.wpIn (F.inRound l) (n - 1 - 1) P (Exit.then K (fun _ _ _ => False)) { tmps := (ps.zip (encs x)).foldl (fun t (p, v) => t.setIfInBounds p v) a.tmps, defers := [] } A)
    (hbody : ∀ (l : Nat) (pre : List α) (x : α) (a' : Act) (A : World) (C : List Nat), (∃ r, A.heap[l]? = some (.loop r)) → l ∉ C → V (pre ++ [x]) → I pre A C → Ax x a' A → body.wpIn (F.inRound l) (n - 1 - 1) P (postSep I Ix (pre ++ [x]) A C) a' A)
    (hdone : ∀ (D : Nat) (xs : List α) (B : World) (C : List Nat), w.heap.size ≤ D → D ∉ C → S xs → I xs B C → B.heap[D]? = some (.deferred (some [])) → Q .normal { a with defers := { target := .collected D, args := #[] } :: a.defers } B)
    (hstop : ∀ (D : Nat) (c : Code) (pre : List α) (B : World) (C : List Nat), w.heap.size ≤ D → D ∉ C → Sp pre → Ix c pre B C → B.heap[D]? = some (.deferred (some [])) → c.wpIn F n P Q { a with defers := { target := .collected D, args := #[] } :: a.defers } B) :
    (Code.rangeFunc g ps assign body).wpIn F n P Q a w := by
  refine wpIn_rangeFunc ?_
  intro fn hfn
  rw [hro]
  obtain ⟨W1, hW1⟩ : ∃ W1, (w.alloc (.deferred (some []))).alloc (.loop { state := .ready, pending := none, fn, tmps := a.tmps, params := ps, assign, body, defers := w.heap.size }) = W1 := ⟨_, rfl⟩
  have hL1 : W1.heap[w.heap.size + 1]? = some (.loop { state := .ready, pending := none, fn, tmps := a.tmps, params := ps, assign, body, defers := w.heap.size }) := by
    rw [← hW1]; have := World.alloc_heap_new (w.alloc (.deferred (some []))) (.loop { state := .ready, pending := none, fn, tmps := a.tmps, params := ps, assign, body, defers := w.heap.size }); rwa [World.size_alloc] at this
  have hK1 : W1.heap[w.heap.size]? = some (.deferred (some [])) := by
    rw [← hW1]; exact (Below.heap_alloc _ _ _ (by simp)).trans (World.alloc_heap_new w _)
  have hs1 : Step [] w W1 := by
    rw [← hW1]
    exact ((Step.refl [] w).alloc _).alloc _
  have hsz : W1.heap.size = w.heap.size + 1 + 1 := by rw [← hW1, World.size_alloc, World.size_alloc]
  have hl0 := hIl _ _ _ h0
  refine ⟨w.heap.size + 1, [{ target := .collected w.heap.size, args := #[] }], W1, { target := .fn (.func gf) lb, args := #[.func (.yield (w.heap.size + 1)) #[] #[]] }, W1, gf,
    #[.func (.yield (w.heap.size + 1)) #[] #[]] ++ lb, W1, ?_, ?_, ?_, ?_, fun _ => h1, ?_⟩
  · rw [← hW1]; exact run_enterLoop_outer _ _ _ _ _
  · simp only [resolve, hg]
    simp [go_sem]
  · intro f' hf'; simp [Target.leads] at hf'; subst hf'; exact hFg
  · simp [invoke, go_sem, eg]
  · refine rangeSep_core (X := [w.heap.size]) hfn hseq (hPre W1 hs1) hps hL1 (fun k hk => by simp at hk; subst hk; omega) (by simp) (fun hm => by have := hR _ hm; omega) I Ix hIs hIl hIR hXs hXl C0 (hIs _ _ _ _ _ h0 hs1 (fun k _ => List.not_mem_nil)) (fun hm => by have := hl0 _ hm; omega) (fun k hk hm => by simp at hk; subst hk; have := hl0 _ hm; omega) Ax hAx (hassign _) (hbody _) ?_ ?_
    · intro xs B C hS hi hk
      obtain ⟨hk1, hk2⟩ := hk w.heap.size (by simp)
      exact hdone _ xs B C (Nat.le_refl _) hk1 hS hi (hk2.trans hK1)
    · intro c pre B C hS hi hk
      obtain ⟨hk1, hk2⟩ := hk w.heap.size (by simp)
      exact hstop _ c pre B C (Nat.le_refl _) hk1 hS hi (hk2.trans hK1)
/-- a range over a function within a round of another -/
theorem wpIn_range_sepN {g : Operand} {ps : Array Tmp} {assign body : Code} {Q : Exit → Act → World → Prop} {a : Act} {w : World}
    {l₀ : Nat} (hro : F.round = some l₀) (hl₀ : ∃ r₀, w.heap[l₀]? = some (.loop r₀)) (h1 : 1 ≤ n) {gf : Nat} {lb : Array Value} (hg : a.eval g = .func (.func gf) #[] lb) (hFg : F.fn gf) (eg : ∀ args w, (callFunc gf args).run P w = .ok (.enter gf args) w)
    {encs : α → Array Value} {R : List Nat} {V S Sp : List α → Prop} {Pre : World → Prop} (hseq : SeqSep F (n - 1) P gf lb encs R V S Sp Pre) (hPre : ∀ W, Step [] w W → Pre W) (hps : ∀ x, (encs x).size = ps.size) (hR : Live w R)
    (I : List α → World → List Nat → Prop) (Ix : Code → List α → World → List Nat → Prop)
    (hIs : ∀ s A B C H, I s A C → Step H A B → Dj C H → I s B C) (hIl : ∀ s A C, I s A C → Live A C) (hIR : ∀ s A C, I s A C → Dj R C)
    (hXs : ∀ c s A B C H, Ix c s A C → Step H A B → Dj C H → Ix c s B C) (hXl : ∀ c s A C, Ix c s A C → Live A C)
    (C0 : List Nat) (h0 : I [] w C0) (Ax : α → Act → World → Prop) (hAx : ∀ x a' A B b r, Ax x a' A → A.heap[b]? = some (.loop r) → Step [b] A B → Ax x a' B)
    (hassign : ∀ (l : Nat) (pre : List α) (x : α) (A : World) (C : List Nat) (K : Act → World → Prop), I pre A C → (∀ a' A', Step [] A A' → Ax x a' A' → K a' A') →
      assign.wpIn (F.inRound l) (n - 1 - 1) P (Exit.then K (fun _ _ _ => False)) { tmps := (ps.zip (encs x)).foldl (fun t (p, v) => t.setIfInBounds p v) a.tmps, defers := [] } A)
    (hbody : ∀ (l : Nat) (pre : List α) (x : α) (a' : Act) (A : World) (C : List Nat), (∃ r, A.heap[l]? = some (.loop r)) → l ∉ C → V (pre ++ [x]) → I pre A C → Ax x a' A → body.wpIn (F.inRound l) (n - 1 - 1) P (postSep I Ix (pre ++ [x]) A C) a' A)
    (hdone : ∀ (xs : List α) (B : World) (C : List Nat), S xs → I xs B C → Q .normal a B)
    (hstop : ∀ (c : Code) (pre : List α) (B : World) (C : List Nat), Sp pre → Ix c pre B C → c.wpIn F n P Q a B) :
    (Code.rangeFunc g ps assign body).wpIn F n P Q a w := by
  obtain ⟨r₀, hl₀⟩ := hl₀
  refine wpIn_rangeFunc ?_
  intro fn hfn
  rw [hro]
  obtain ⟨W1, hW1⟩ : ∃ W1, w.alloc (.loop { state := .ready, pending := none, fn, tmps := a.tmps, params := ps, assign, body, defers := r₀.defers }) = W1 := ⟨_, rfl⟩
  have hL1 : W1.heap[w.heap.size]? = some (.loop { state := .ready, pending := none, fn, tmps := a.tmps, params := ps, assign, body, defers := r₀.defers }) := by rw [← hW1]; exact World.alloc_heap_new w _
  have hs1 : Step [] w W1 := by
    rw [← hW1]
    exact (Step.refl [] w).alloc _
  have hl0 := hIl _ _ _ h0
  refine ⟨w.heap.size, [], W1, { target := .fn (.func gf) lb, args := #[.func (.yield w.heap.size) #[] #[]] }, W1, gf,
    #[.func (.yield w.heap.size) #[] #[]] ++ lb, W1, ?_, ?_, ?_, ?_, fun _ => h1, ?_⟩
  · rw [← hW1]; exact run_enterLoop_inner hl₀ _ _ _ _ _
  · simp only [resolve, hg]
    simp [go_sem]
  · intro f' hf'; simp [Target.leads] at hf'; subst hf'; exact hFg
  · simp [invoke, go_sem, eg]
  · exact rangeSep_core (X := []) hfn hseq (hPre W1 hs1) hps hL1 (fun k hk => absurd hk List.not_mem_nil) List.not_mem_nil (fun hm => by have := hR _ hm; omega) I Ix hIs hIl hIR hXs hXl C0 (hIs _ _ _ _ _ h0 hs1 (fun k _ => List.not_mem_nil)) (fun hm => by have := hl0 _ hm; omega) (fun k hk => absurd hk List.not_mem_nil) Ax hAx (hassign _) (hbody _)
      (fun xs B C hS hi _ => hdone xs B C hS hi) (fun c pre B C hS hi _ => hstop c pre B C hS hi)
end
end Go.Proofs.Ytkogchmnpffiaaa
