/- A range over a function whose iterator keeps blocks of its own, hands over blocks that it has made, and whose body keeps blocks of its own, apart. No program in sight. -/
import Derived.Test.YtkogchmnpffiaaaRangeSep
namespace Go.Proofs.Ytkogchmnpffiaaa
set_option linter.unusedVariables false
open Go.RowKit
/-- of the blocks below n those that are not of R -/
def offR (R : List Nat) (n : Nat) : List Nat := (List.range n).filter fun k => decide (k ∉ R)
theorem mem_offR {R : List Nat} {n k : Nat} : k ∈ offR R n ↔ k < n ∧ k ∉ R := by
  unfold offR
  rw [List.mem_filter, List.mem_range]
  simp
theorem offR_dj {R : List Nat} {n : Nat} : Dj R (offR R n) := fun k hk hm => (mem_offR.1 hm).2 hk
theorem Step.undo {F : List Nat} {w w' : World} (h : Step F w w') (hk : ∀ k, k ∈ F → w'.heap[k]? = w.heap[k]?) : Step [] w w' :=
  ⟨h.os, h.tape, h.output, h.size, fun k hlt _ => if hF : k ∈ F then hk k hF else h.block k hlt hF⟩
/-- a step apart from what is off R turns R alone, or what is new -/
theorem Step.off {R H : List Nat} {n : Nat} {w A B : World} (h : Step R w A) (hs : Step H A B) (hd : Dj (offR R n) H) (hn : w.heap.size ≤ n) : Step R w B :=
  h.then hs (fun k hk => by
    by_cases hR : k ∈ R
    · exact .inl hR
    · rcases Nat.lt_or_ge k n with hlt | hge
      · exact absurd hk (hd k (mem_offR.2 ⟨hlt, hR⟩))
      · exact .inr (by omega))
section
variable {F : Fence} {n : Nat} {P : Program} {α : Type}

/-- what an iterator does, whatever the loop: it may turn its own blocks G alone, which the loop's invariant J knows; what it hands over has blocks (bx x) that were its own; a round leaves G and R as they were -/
def SeqSepV (F : Fence) (n : Nat) (P : Program) (gf : Nat) (lb : Array Value) (encs : α → Array Value) (bx : α → List Nat) (R : List Nat) (V : List α → World → Prop) (S Sp : List α → Prop) (Pre : World → Prop) : Prop :=
  ∀ (l : Nat) (J Jx : List α → World → List Nat → Prop) (W : World), Pre W →
    (∀ s A B G G', J s A G → Step G A B → Fresh A G G' → Live B G' → J s B G') →
    (∀ s A B G G', Jx s A G → Step G A B → Fresh A G G' → Live B G' → Jx s B G') →
    (∀ pre x A G, J pre A (bx x ++ G) → V (pre ++ [x]) A → Dj (bx x) (R ++ G) → YieldAt F (n - 1) P l (encs x) A fun e B =>
      (e = .returned (.bool true) ∧ J (pre ++ [x]) B G ∧ ∃ H, Step H A B ∧ Dj (R ++ G) H) ∨ (e = .returned (.bool false) ∧ Jx (pre ++ [x]) B G ∧ ∃ H, Step H A B ∧ Dj (R ++ G) H)) →
    J [] W [] →
    CallsIn F n P gf (#[.func (.yield l) #[] #[]] ++ lb) W fun e B => (∃ v, e = .returned v) ∧ ((∃ xs G, S xs ∧ J xs B G) ∨ (∃ pre G, Sp pre ∧ Jx pre B G))

theorem rangeSepV_core {Q : Exit → Act → World → Prop} {a a2 : Act} {gf : Nat} {lb : Array Value} {encs : α → Array Value} {bx : α → List Nat} {R : List Nat} {V : List α → World → Prop} {S Sp : List α → Prop} {Pre : World → Prop} {W1 : World} {l : Nat} {X : List Nat} {fn : FuncId} {ps : Array Tmp} {assign body : Code} {df : Nat}
    (hfn : F.fn fn) (hseq : SeqSepV F (n - 1) P gf lb encs bx R V S Sp Pre) (hPre : Pre W1) (hps : ∀ x, (encs x).size = ps.size)
    (hl : W1.heap[l]? = some (.loop { state := .ready, pending := none, fn, tmps := a.tmps, params := ps, assign, body, defers := df })) (hX : ∀ k, k ∈ X → k < W1.heap.size) (hlX : l ∉ X) (hlR : l ∉ R)
    (I : List α → World → List Nat → Prop) (Ix : Code → List α → World → List Nat → Prop)
    (hIs : ∀ s A B C H, I s A C → Step H A B → Dj C H → I s B C) (hIl : ∀ s A C, I s A C → Live A C) (hIR : ∀ s A C, I s A C → Dj R C)
    (hXs : ∀ c s A B C H, Ix c s A C → Step H A B → Dj C H → Ix c s B C) (hXl : ∀ c s A C, Ix c s A C → Live A C)
    (C0 : List Nat) (h0 : I [] W1 C0) (hlC : l ∉ C0) (hXC : Dj X C0) (Ax : List α → α → Act → World → List Nat → Prop) (hAx : ∀ pre x a' A B C b r, Ax pre x a' A C → A.heap[b]? = some (.loop r) → b ∉ C → b ∉ bx x → Step [b] A B → Ax pre x a' B C)
    (hassign : ∀ (pre : List α) (x : α) (A : World) (C : List Nat) (K : Act → World → Prop), I pre A C → V (pre ++ [x]) A → Live A (bx x) → Dj C (bx x) → Dj R (bx x) → (∀ a' A', Step [] A A' → Ax pre x a' A' C → K a' A') →
      assign.wpIn (F.inRound l) (n - 1 - 1) P (Exit.then K (fun _ _ _ => False)) { tmps := (ps.zip (encs x)).foldl (fun t (p, v) => t.setIfInBounds p v) a.tmps, defers := [] } A)
    (hbody : ∀ (pre : List α) (x : α) (a' : Act) (A : World) (C : List Nat), (∃ r, A.heap[l]? = some (.loop r)) → l ∉ C → l ∉ bx x → Live A (bx x) → Dj C (bx x) → Dj R (bx x) → I pre A C → Ax pre x a' A C → body.wpIn (F.inRound l) (n - 1 - 1) P (postSep I Ix (pre ++ [x]) A (C ++ bx x)) a' A)
    (hdone : ∀ (xs : List α) (B : World) (C : List Nat), S xs → I xs B C → (∀ k, k ∈ X → k ∉ C ∧ B.heap[k]? = W1.heap[k]?) → Q .normal a2 B)
    (hstop : ∀ (c : Code) (pre : List α) (B : World) (C : List Nat), Sp pre → Ix c pre B C → (∀ k, k ∈ X → k ∉ C ∧ B.heap[k]? = W1.heap[k]?) → c.wpIn F n P Q a2 B) :
    CallsIn F (n - 1) P gf (#[.func (.yield l) #[] #[]] ++ lb) W1 (rangePost F n P l Q a2) := by
  have hl1 : l < W1.heap.size := (Array.getElem?_eq_some_iff.1 hl).1
  refine (hseq l (JSep l X W1 I { state := .ready, pending := none, fn, tmps := a.tmps, params := ps, assign, body, defers := df })
    (fun s A G => ∃ c, JSep l X W1 (Ix c) { state := .done, pending := some c, fn, tmps := a.tmps, params := ps, assign, body, defers := df } s A G) W1 hPre
    (fun s A B G G' h hs hf hl => h.step hIs hIl hs hf hl) (fun s A B G G' ⟨c, h⟩ hs hf hl => ⟨c, h.step (hXs c) (hXl c) hs hf hl⟩) ?_
    ⟨fun k hk => absurd hk List.not_mem_nil, List.not_mem_nil, fun k hk => List.not_mem_nil, C0, h0, fun k hk => List.not_mem_nil, hlC, hXC, hl, fun k hk => ⟨hX k hk, rfl⟩⟩).mono ?_
  · rintro pre x A G ⟨j1, j2, j3, C, j4, j5, j6, j7, j8, j9⟩ hV hxRG
    have hy := run_yield (P := P) (args := encs x) j8 (hps x)
    have xl : Live A (bx x) := fun k hk => j1 k (List.mem_append_left _ hk)
    have xC : Dj C (bx x) := fun k hk hm => j5 k hk (List.mem_append_left _ hm)
    have xR : Dj R (bx x) := fun k hk hm => hxRG k hm (List.mem_append_left _ hk)
    have lx : l ∉ bx x := fun hm => j2 (List.mem_append_left _ hm)
    refine ⟨fn, _, assign, body, hy, roundIn_of_wpIn hfn (hassign pre x A C _ j4 hV xl xC xR ?_)⟩
    intro a' A1 s1 hax
    have jl := hIl _ _ _ j4
    have lA : l < A.heap.size := (Array.getElem?_eq_some_iff.1 j8).1
    have k8 := (s1.block l lA (by simp)).trans j8
    have lA1 : l < A1.heap.size := (Array.getElem?_eq_some_iff.1 k8).1
    refine ⟨_, run_beginRound k8 rfl, ?_⟩
    have s2 : Step [l] A1 (A1.putObj l _) := step_put (.loop { state := .busy, pending := none, fn, tmps := a.tmps, params := ps, assign, body, defers := df })
    have k2 : (A1.putObj l (.loop { state := .busy, pending := none, fn, tmps := a.tmps, params := ps, assign, body, defers := df })).heap[l]? = some (.loop { state := .busy, pending := none, fn, tmps := a.tmps, params := ps, assign, body, defers := df }) := World.putObj_heap_same lA1
    generalize hA2 : A1.putObj l (.loop { state := .busy, pending := none, fn, tmps := a.tmps, params := ps, assign, body, defers := df }) = A2 at s2 k2
    have i2 : I pre A2 C := hIs _ _ _ _ _ (hIs _ _ _ _ _ j4 s1 (fun k _ => List.not_mem_nil)) s2 (fun k hk hm => by simp at hm; subst hm; exact j6 hk)
    have lA2 : l < A2.heap.size := (Array.getElem?_eq_some_iff.1 k2).1
    have hsz : A.heap.size ≤ A2.heap.size := Nat.le_trans s1.size s2.size
    refine wpIn_mono (hbody pre x a' A2 C ⟨_, k2⟩ j6 lx (fun k hk => Nat.lt_of_lt_of_le (xl k hk) hsz) xC xR i2 (hAx _ _ _ _ _ _ _ _ hax k8 j6 lx s2)) ?_
    -- what lies behind a round
    have fin : ∀ (jump : Option Code) (st : LoopState) (pe : Option Code) (I2 : List α → World → List Nat → Prop) (hs2 : ∀ s A B C H, I2 s A C → Step H A B → Dj C H → I2 s B C) (A3 : World) (C' : List Nat), I2 (pre ++ [x]) A3 C' → Step (C ++ bx x) A2 A3 → Fresh A2 (C ++ bx x) C' →
        (st = if jump.isNone then .ready else .done) → pe = jump →
        (Instr.endRound l jump).run P A3 = .ok (.bool jump.isNone) (A3.putObj l (.loop { state := st, pending := pe, fn, tmps := a.tmps, params := ps, assign, body, defers := df })) ∧
        JSep l X W1 I2 { state := st, pending := pe, fn, tmps := a.tmps, params := ps, assign, body, defers := df } (pre ++ [x]) (A3.putObj l (.loop { state := st, pending := pe, fn, tmps := a.tmps, params := ps, assign, body, defers := df })) G ∧
        Step (l :: (C ++ bx x)) A (A3.putObj l (.loop { state := st, pending := pe, fn, tmps := a.tmps, params := ps, assign, body, defers := df })) := by
      intro jump st pe I2 hs2 A3 C' i3 s3 f3 hst hpe
      have k3 := (s3.block l lA2 (fun hm => (List.mem_append.1 hm).elim j6 lx)).trans k2
      have lA3 : l < A3.heap.size := (Array.getElem?_eq_some_iff.1 k3).1
      have s4 : Step [l] A3 (A3.putObj l (.loop { state := st, pending := pe, fn, tmps := a.tmps, params := ps, assign, body, defers := df })) := step_put _
      have lC' : l ∉ C' := fun hm => by
        rcases f3 l hm with h | h
        · exact (List.mem_append.1 h).elim j6 lx
        · omega
      have s04 : Step (l :: (C ++ bx x)) A (A3.putObj l (.loop { state := st, pending := pe, fn, tmps := a.tmps, params := ps, assign, body, defers := df })) :=
        (((s1.mono (G := l :: (C ++ bx x)) (by simp)).then s2 (by simp)).then s3 (fun k hk => .inl (List.mem_cons_of_mem _ hk))).then s4 (by simp)
      have dGC' : Dj C' G := fun k hk hg => by
        rcases f3 k hk with h | h
        · rcases List.mem_append.1 h with h | h
          · exact j5 k h (List.mem_append_right _ hg)
          · exact hxRG k h (List.mem_append_right _ hg)
        · have := j1 k (List.mem_append_right _ hg)
          omega
      refine ⟨by rw [run_endRound (P := P) jump k3, hst, hpe], ⟨fun k hk => Nat.lt_of_lt_of_le (j1 k (List.mem_append_right _ hk)) s04.size, fun hm => j2 (List.mem_append_right _ hm), fun k hk hm => j3 k hk (List.mem_append_right _ hm), C', hs2 _ _ _ _ _ i3 s4 (fun k hk hm => by simp at hm; subst hm; exact lC' hk), dGC', lC', fun k hk hm => ?_, World.putObj_heap_same lA3, fun k hk => ?_⟩, s04⟩
      · rcases f3 k hm with h | h
        · rcases List.mem_append.1 h with h | h
          · exact j7 k hk h
          · exact j3 k hk (List.mem_append_left _ h)
        · have := (j9 k hk).1
          omega
      · have hkl : k ≠ l := fun e => by subst e; exact hlX hk
        refine ⟨Nat.lt_of_lt_of_le (j9 k hk).1 s04.size, (s04.block k (j9 k hk).1 (fun hm => ?_)).trans (j9 k hk).2⟩
        rcases List.mem_cons.1 hm with h | h
        · exact hkl h
        · rcases List.mem_append.1 h with h | h
          · exact j7 k hk h
          · exact j3 k hk (List.mem_append_left _ h)
    have hdj : Dj (R ++ G) (l :: (C ++ bx x)) := fun k hk hm => by
      rcases List.mem_append.1 hk with hk | hk
      · rcases List.mem_cons.1 hm with h | h
        · subst h
          exact hlR hk
        · rcases List.mem_append.1 h with h | h
          · exact hIR _ _ _ j4 k hk h
          · exact xR k hk h
      · rcases List.mem_cons.1 hm with h | h
        · subst h
          exact j2 (List.mem_append_right _ hk)
        · rcases List.mem_append.1 h with h | h
          · exact j5 k h (List.mem_append_right _ hk)
          · exact hxRG k h (List.mem_append_right _ hk)
    rintro e a3 A3 hp
    cases e with
    | normal =>
      obtain ⟨C', i3, s3, f3⟩ := hp
      obtain ⟨hr, hj, hs⟩ := fin none .ready none I hIs A3 C' i3 s3 f3 rfl rfl
      exact ⟨_, _, hr, .inl ⟨rfl, hj, _, hs, hdj⟩⟩
    | ret =>
      obtain ⟨C', i3, s3, f3⟩ := hp
      obtain ⟨hr, hj, hs⟩ := fin (some .ret) .done (some .ret) (Ix .ret) (hXs _) A3 C' i3 s3 f3 rfl rfl
      exact ⟨_, _, hr, .inr ⟨rfl, ⟨_, hj⟩, _, hs, hdj⟩⟩
    | exit id =>
      obtain ⟨C', i3, s3, f3⟩ := hp
      obtain ⟨hr, hj, hs⟩ := fin (some (.exit id)) .done (some (.exit id)) (Ix (.exit id)) (hXs _) A3 C' i3 s3 f3 rfl rfl
      exact ⟨_, _, hr, .inr ⟨rfl, ⟨_, hj⟩, _, hs, hdj⟩⟩
    | goto t =>
      obtain ⟨C', i3, s3, f3⟩ := hp
      obtain ⟨hr, hj, hs⟩ := fin (some (.goto t)) .done (some (.goto t)) (Ix (.goto t)) (hXs _) A3 C' i3 s3 f3 rfl rfl
      exact ⟨_, _, hr, .inr ⟨rfl, ⟨_, hj⟩, _, hs, hdj⟩⟩
    | panic ch => exact hp.elim
    | outgrown => exact hp.elim
  · have hput : ∀ {I2 : List α → World → List Nat → Prop} {r r' : Loop} {s : List α} {B : World} {G : List Nat}, (∀ s A B C H, I2 s A C → Step H A B → Dj C H → I2 s B C) → JSep l X W1 I2 r s B G → ∃ C, I2 s (B.putObj l (.loop r')) C ∧ ∀ k, k ∈ X → k ∉ C ∧ (B.putObj l (.loop r')).heap[k]? = W1.heap[k]? := by
      rintro I2 r r' s B G hs2 ⟨h1, h2, h3, C, h4, h5, h6, h7, h8, h9⟩
      refine ⟨C, hs2 _ _ _ _ _ h4 (step_put _) (fun k hk hm => by simp at hm; subst hm; exact h6 hk), fun k hk => ⟨h7 k hk, ?_⟩⟩
      have hkl : k ≠ l := fun e => by subst e; exact hlX hk
      exact ((step_put (W := B) (l := l) (.loop r')).block k (h9 k hk).1 (by simpa using hkl)).trans (h9 k hk).2
    rintro e B ⟨⟨v, rfl⟩, (⟨xs, G, hS, hj⟩ | ⟨pre, G, hSp, c, hj⟩)⟩
    · obtain ⟨C, hi, hk⟩ := hput (r' := { state := .exhausted, pending := none, fn, tmps := a.tmps, params := ps, assign, body, defers := df }) hIs hj
      obtain ⟨_, _, _, _, _, _, _, _, hr, _⟩ := hj
      exact ⟨none, _, run_endLoop (P := P) hr (by simp), hdone xs _ C hS hi hk⟩
    · obtain ⟨C, hi, hk⟩ := hput (r' := { state := .exhausted, pending := some c, fn, tmps := a.tmps, params := ps, assign, body, defers := df }) (hXs c) hj
      obtain ⟨_, _, _, _, _, _, _, _, hr, _⟩ := hj
      exact ⟨some c, _, run_endLoop (P := P) hr (by simp), hstop c pre _ C hSp hi hk⟩

/-- a range over a function: outermost -/
theorem wpIn_range_sepV {g : Operand} {ps : Array Tmp} {assign body : Code} {Q : Exit → Act → World → Prop} {a : Act} {w : World}
    (hro : F.round = none) (h1 : 1 ≤ n) {gf : Nat} {lb : Array Value} (hg : a.eval g = .func (.func gf) #[] lb) (hFg : F.fn gf) (eg : ∀ args w, (callFunc gf args).run P w = .ok (.enter gf args) w)
    {encs : α → Array Value} {bx : α → List Nat} {R : List Nat} {V : List α → World → Prop} {S Sp : List α → Prop} {Pre : World → Prop} (hseq : SeqSepV F (n - 1) P gf lb encs bx R V S Sp Pre) (hPre : ∀ W, Step [] w W → Pre W) (hps : ∀ x, (encs x).size = ps.size) (hR : Live w R)
    (I : List α → World → List Nat → Prop) (Ix : Code → List α → World → List Nat → Prop)
    (hIs : ∀ s A B C H, I s A C → Step H A B → Dj C H → I s B C) (hIl : ∀ s A C, I s A C → Live A C) (hIR : ∀ s A C, I s A C → Dj R C)
    (hXs : ∀ c s A B C H, Ix c s A C → Step H A B → Dj C H → Ix c s B C) (hXl : ∀ c s A C, Ix c s A C → Live A C)
    (C0 : List Nat) (h0 : I [] w C0) (Ax : List α → α → Act → World → List Nat → Prop) (hAx : ∀ pre x a' A B C b r, Ax pre x a' A C → A.heap[b]? = some (.loop r) → b ∉ C → b ∉ bx x → Step [b] A B → Ax pre x a' B C)
    (hassign : ∀ (l : Nat) (pre : List α) (x : α) (A : World) (C : List Nat) (K : Act → World → Prop), I pre A C → V (pre ++ [x]) A → Live A (bx x) → Dj C (bx x) → Dj R (bx x) → (∀ a' A', Step [] A A' → Ax pre x a' A' C → K a' A') →
      assign.wpIn (F.inRound l) (n - 1 - 1) P (Exit.then K (fun _ _ _ => False)) { tmps := (ps.zip (encs x)).foldl (fun t (p, v) => t.setIfInBounds p v) a.tmps, defers := [] } A)
    (hbody : ∀ (l : Nat) (pre : List α) (x : α) (a' : Act) (A : World) (C : List Nat), (∃ r, A.heap[l]? = some (.loop r)) → l ∉ C → l ∉ bx x → Live A (bx x) → Dj C (bx x) → Dj R (bx x) → I pre A C → Ax pre x a' A C → body.wpIn (F.inRound l) (n - 1 - 1) P (postSep I Ix (pre ++ [x]) A (C ++ bx x)) a' A)
    (hdone : ∀ (D : Nat) (xs : List α) (B : World) (C : List Nat), w.heap.size ≤ D → D ∉ C → S xs → I xs B C → B.heap[D]? = some (.deferred (some [])) → Q .normal { a with defers := { target := .collected D, args := #[] } :: a.defers } B)
    (hstop : ∀ (D : Nat) (c : Code) (pre : List α) (B : World) (C : List Nat), w.heap.size ≤ D → D ∉ C → Sp pre → Ix c pre B C → B.heap[D]? = some (.deferred (some [])) → c.wpIn F n P Q { a with defers := { target := .collected D, args := #[] } :: a.defers } B) :
    (Code.rangeFunc g ps assign body).wpIn F n P Q a w := by
  refine wpIn_rangeFunc ?_
  intro fn hfn
  rw [hro]
  obtain ⟨W1, hW1⟩ : ∃ W1, (w.alloc (.deferred (some []))).alloc (.loop { state := .ready, pending := none, fn, tmps := a.tmps, params := ps, assign, body, defers := w.heap.size }) = W1 := ⟨_, rfl⟩
  have hL1 : W1.heap[w.heap.size + 1]? = some (.loop { state := .ready, pending := none, fn, tmps := a.tmps, params := ps, assign, body, defers := w.heap.size }) := by
    rw [← hW1]; have := World.alloc_heap_new (w.alloc (.deferred (some []))) (.loop { state := .ready, pending := none, fn, tmps := a.tmps, params := ps, assign, body, defers := w.heap.size }); rwa [World.size_alloc] at this
  have hK1 : W1.heap[w.heap.size]? = some (.deferred (some [])) := by
    rw [← hW1]; exact (Below.heap_alloc _ _ _ (by simp)).trans (World.alloc_heap_new w _)
  have hs1 : Step [] w W1 := by
    rw [← hW1]
    exact ((Step.refl [] w).alloc _).alloc _
  have hsz : W1.heap.size = w.heap.size + 1 + 1 := by rw [← hW1, World.size_alloc, World.size_alloc]
  have hl0 := hIl _ _ _ h0
  refine ⟨w.heap.size + 1, [{ target := .collected w.heap.size, args := #[] }], W1, { target := .fn (.func gf) lb, args := #[.func (.yield (w.heap.size + 1)) #[] #[]] }, W1, gf,
    #[.func (.yield (w.heap.size + 1)) #[] #[]] ++ lb, W1, ?_, ?_, ?_, ?_, fun _ => h1, ?_⟩
  · rw [← hW1]; exact run_enterLoop_outer _ _ _ _ _
  · simp only [resolve, hg]
    simp [go_sem]
  · intro f' hf'; simp [Target.leads] at hf'; subst hf'; exact hFg
  · simp [invoke, go_sem, eg]
  · refine rangeSepV_core (X := [w.heap.size]) hfn hseq (hPre W1 hs1) hps hL1 (fun k hk => by simp at hk; subst hk; omega) (by simp) (fun hm => by have := hR _ hm; omega) I Ix hIs hIl hIR hXs hXl C0 (hIs _ _ _ _ _ h0 hs1 (fun k _ => List.not_mem_nil)) (fun hm => by have := hl0 _ hm; omega) (fun k hk hm => by simp at hk; subst hk; have := hl0 _ hm; omega) Ax hAx (hassign _) (hbody _) ?_ ?_
    · intro xs B C hS hi hk
      obtain ⟨hk1, hk2⟩ := hk w.heap.size (by simp)
      exact hdone _ xs B C (Nat.le_refl _) hk1 hS hi (hk2.trans hK1)
    · intro c pre B C hS hi hk
      obtain ⟨hk1, hk2⟩ := hk w.heap.size (by simp)
      exact hstop _ c pre B C (Nat.le_refl _) hk1 hS hi (hk2.trans hK1)
/-- a range over a function: outermost; some blocks (Y) that neither the iterator nor the body turns -/
theorem wpIn_range_sepVX {g : Operand} {ps : Array Tmp} {assign body : Code} {Q : Exit → Act → World → Prop} {a : Act} {w : World}
    (hro : F.round = none) (h1 : 1 ≤ n) {gf : Nat} {lb : Array Value} (hg : a.eval g = .func (.func gf) #[] lb) (hFg : F.fn gf) (eg : ∀ args w, (callFunc gf args).run P w = .ok (.enter gf args) w)
    {encs : α → Array Value} {bx : α → List Nat} {R : List Nat} {V : List α → World → Prop} {S Sp : List α → Prop} {Pre : World → Prop} (hseq : SeqSepV F (n - 1) P gf lb encs bx R V S Sp Pre) (hPre : ∀ W, Step [] w W → Pre W) (hps : ∀ x, (encs x).size = ps.size) (hR : Live w R)
    (I : List α → World → List Nat → Prop) (Ix : Code → List α → World → List Nat → Prop)
    (hIs : ∀ s A B C H, I s A C → Step H A B → Dj C H → I s B C) (hIl : ∀ s A C, I s A C → Live A C) (hIR : ∀ s A C, I s A C → Dj R C)
    (hXs : ∀ c s A B C H, Ix c s A C → Step H A B → Dj C H → Ix c s B C) (hXl : ∀ c s A C, Ix c s A C → Live A C)
    (C0 Y : List Nat) (hY : Live w Y) (hYC : Dj Y C0) (h0 : I [] w C0) (Ax : List α → α → Act → World → List Nat → Prop) (hAx : ∀ pre x a' A B C b r, Ax pre x a' A C → A.heap[b]? = some (.loop r) → b ∉ C → b ∉ bx x → Step [b] A B → Ax pre x a' B C)
    (hassign : ∀ (l : Nat) (pre : List α) (x : α) (A : World) (C : List Nat) (K : Act → World → Prop), I pre A C → V (pre ++ [x]) A → Live A (bx x) → Dj C (bx x) → Dj R (bx x) → (∀ a' A', Step [] A A' → Ax pre x a' A' C → K a' A') →
      assign.wpIn (F.inRound l) (n - 1 - 1) P (Exit.then K (fun _ _ _ => False)) { tmps := (ps.zip (encs x)).foldl (fun t (p, v) => t.setIfInBounds p v) a.tmps, defers := [] } A)
    (hbody : ∀ (l : Nat) (pre : List α) (x : α) (a' : Act) (A : World) (C : List Nat), (∃ r, A.heap[l]? = some (.loop r)) → l ∉ C → l ∉ bx x → Live A (bx x) → Dj C (bx x) → Dj R (bx x) → I pre A C → Ax pre x a' A C → body.wpIn (F.inRound l) (n - 1 - 1) P (postSep I Ix (pre ++ [x]) A (C ++ bx x)) a' A)
    (hdone : ∀ (D : Nat) (xs : List α) (B : World) (C : List Nat), w.heap.size ≤ D → D ∉ C → S xs → I xs B C → B.heap[D]? = some (.deferred (some [])) → (∀ k, k ∈ Y → B.heap[k]? = w.heap[k]?) → Q .normal { a with defers := { target := .collected D, args := #[] } :: a.defers } B)
    (hstop : ∀ (D : Nat) (c : Code) (pre : List α) (B : World) (C : List Nat), w.heap.size ≤ D → D ∉ C → Sp pre → Ix c pre B C → B.heap[D]? = some (.deferred (some [])) → (∀ k, k ∈ Y → B.heap[k]? = w.heap[k]?) → c.wpIn F n P Q { a with defers := { target := .collected D, args := #[] } :: a.defers } B) :
    (Code.rangeFunc g ps assign body).wpIn F n P Q a w := by
  refine wpIn_rangeFunc ?_
  intro fn hfn
  rw [hro]
  obtain ⟨W1, hW1⟩ : ∃ W1, (w.alloc (.deferred (some []))).alloc (.loop { state := .ready, pending := none, fn, tmps := a.tmps, params := ps, assign, body, defers := w.heap.size }) = W1 := ⟨_, rfl⟩
  have hL1 : W1.heap[w.heap.size + 1]? = some (.loop { state := .ready, pending := none, fn, tmps := a.tmps, params := ps, assign, body, defers := w.heap.size }) := by
    rw [← hW1]; have := World.alloc_heap_new (w.alloc (.deferred (some []))) (.loop { state := .ready, pending := none, fn, tmps := a.tmps, params := ps, assign, body, defers := w.heap.size }); rwa [World.size_alloc] at this
  have hK1 : W1.heap[w.heap.size]? = some (.deferred (some [])) := by
    rw [← hW1]; exact (Below.heap_alloc _ _ _ (by simp)).trans (World.alloc_heap_new w _)
  have hs1 : Step [] w W1 := by
    rw [← hW1]
    exact ((Step.refl [] w).alloc _).alloc _
  have hsz : W1.heap.size = w.heap.size + 1 + 1 := by rw [← hW1, World.size_alloc, World.size_alloc]
  have hl0 := hIl _ _ _ h0
  refine ⟨w.heap.size + 1, [{ target := .collected w.heap.size, args := #[] }], W1, { target := .fn (.func gf) lb, args := #[.func (.yield (w.heap.size + 1)) #[] #[]] }, W1, gf,
    #[.func (.yield (w.heap.size + 1)) #[] #[]] ++ lb, W1, ?_, ?_, ?_, ?_, fun _ => h1, ?_⟩
  · rw [← hW1]; exact run_enterLoop_outer _ _ _ _ _
  · simp only [resolve, hg]
    simp [go_sem]
  · intro f' hf'; simp [Target.leads] at hf'; subst hf'; exact hFg
  · simp [invoke, go_sem, eg]
  · have hkw : ∀ k, k < w.heap.size → W1.heap[k]? = w.heap[k]? := fun k hk => hs1.block k hk (by simp)
    have hXl1 : ∀ k, k ∈ w.heap.size :: Y → k < W1.heap.size := fun k hk => by
      rcases List.mem_cons.1 hk with rfl | hk
      · omega
      · have := hY k hk
        omega
    have hXl2 : w.heap.size + 1 ∉ w.heap.size :: Y := fun hm => by
      rcases List.mem_cons.1 hm with h | h
      · omega
      · have := hY _ h
        omega
    have hXC : Dj (w.heap.size :: Y) C0 := fun k hk hm => by
      rcases List.mem_cons.1 hk with rfl | hk
      · have := hl0 _ hm
        omega
      · exact hYC k hk hm
    refine rangeSepV_core (X := w.heap.size :: Y) hfn hseq (hPre W1 hs1) hps hL1 hXl1 hXl2 (fun hm => by have := hR _ hm; omega) I Ix hIs hIl hIR hXs hXl C0 (hIs _ _ _ _ _ h0 hs1 (fun k _ => List.not_mem_nil)) (fun hm => by have := hl0 _ hm; omega) hXC Ax hAx (hassign _) (hbody _) ?_ ?_
    · intro xs B C hS hi hk
      obtain ⟨hk1, hk2⟩ := hk w.heap.size (by simp)
      exact hdone _ xs B C (Nat.le_refl _) hk1 hS hi (hk2.trans hK1) (fun k h => ((hk k (List.mem_cons_of_mem _ h)).2).trans (hkw k (hY k h)))
    · intro c pre B C hS hi hk
      obtain ⟨hk1, hk2⟩ := hk w.heap.size (by simp)
      exact hstop _ c pre B C (Nat.le_refl _) hk1 hS hi (hk2.trans hK1) (fun k h => ((hk k (List.mem_cons_of_mem _ h)).2).trans (hkw k (hY k h)))
theorem SeqSep.toV {gf : Nat} {lb : Array Value} {encs : α → Array Value} {R : List Nat} {V S Sp : List α → Prop} {Pre : World → Prop} (h : SeqSep F n P gf lb encs R V S Sp Pre) : SeqSepV F n P gf lb encs (fun _ => []) R (fun s _ => V s) S Sp Pre :=
  fun l J Jx W hP hJ hJx hY h0 => h l J Jx W hP hJ hJx (fun pre x A G hj hV => hY pre x A G hj hV (fun k hk => absurd hk List.not_mem_nil)) h0
/-- a range over a function within a round of another -/
theorem wpIn_range_sepVN {g : Operand} {ps : Array Tmp} {assign body : Code} {Q : Exit → Act → World → Prop} {a : Act} {w : World}
    {l₀ : Nat} (hro : F.round = some l₀) (hl₀ : ∃ r₀, w.heap[l₀]? = some (.loop r₀)) (h1 : 1 ≤ n) {gf : Nat} {lb : Array Value} (hg : a.eval g = .func (.func gf) #[] lb) (hFg : F.fn gf) (eg : ∀ args w, (callFunc gf args).run P w = .ok (.enter gf args) w)
    {encs : α → Array Value} {bx : α → List Nat} {R : List Nat} {V : List α → World → Prop} {S Sp : List α → Prop} {Pre : World → Prop} (hseq : SeqSepV F (n - 1) P gf lb encs bx R V S Sp Pre) (hPre : ∀ W, Step [] w W → Pre W) (hps : ∀ x, (encs x).size = ps.size) (hR : Live w R)
    (I : List α → World → List Nat → Prop) (Ix : Code → List α → World → List Nat → Prop)
    (hIs : ∀ s A B C H, I s A C → Step H A B → Dj C H → I s B C) (hIl : ∀ s A C, I s A C → Live A C) (hIR : ∀ s A C, I s A C → Dj R C)
    (hXs : ∀ c s A B C H, Ix c s A C → Step H A B → Dj C H → Ix c s B C) (hXl : ∀ c s A C, Ix c s A C → Live A C)
    (C0 : List Nat) (h0 : I [] w C0) (Ax : List α → α → Act → World → List Nat → Prop) (hAx : ∀ pre x a' A B C b r, Ax pre x a' A C → A.heap[b]? = some (.loop r) → b ∉ C → b ∉ bx x → Step [b] A B → Ax pre x a' B C)
    (hassign : ∀ (l : Nat) (pre : List α) (x : α) (A : World) (C : List Nat) (K : Act → World → Prop), I pre A C → V (pre ++ [x]) A → Live A (bx x) → Dj C (bx x) → Dj R (bx x) → (∀ a' A', Step [] A A' → Ax pre x a' A' C → K a' A') →
      assign.wpIn (F.inRound l) (n - 1 - 1) P (Exit.then K (fun _ _ _ => False)) { tmps := (ps.zip (encs x)).foldl (fun t (p, v) => t.setIfInBounds p v) a.tmps, defers := [] } A)
    (hbody : ∀ (l : Nat) (pre : List α) (x : α) (a' : Act) (A : World) (C : List Nat), (∃ r, A.heap[l]? = some (.loop r)) → l ∉ C → l ∉ bx x → Live A (bx x) → Dj C (bx x) → Dj R (bx x) → I pre A C → Ax pre x a' A C → body.wpIn (F.inRound l) (n - 1 - 1) P (postSep I Ix (pre ++ [x]) A (C ++ bx x)) a' A)
    (hdone : ∀ (xs : List α) (B : World) (C : List Nat), S xs → I xs B C → Q .normal a B)
    (hstop : ∀ (c : Code) (pre : List α) (B : World) (C : List Nat), Sp pre → Ix c pre B C → c.wpIn F n P Q a B) :
    (Code.rangeFunc g ps assign body).wpIn F n P Q a w := by
  obtain ⟨r₀, hl₀⟩ := hl₀
  refine wpIn_rangeFunc ?_
  intro fn hfn
  rw [hro]
  obtain ⟨W1, hW1⟩ : ∃ W1, w.alloc (.loop { state := .ready, pending := none, fn, tmps := a.tmps, params := ps, assign, body, defers := r₀.defers }) = W1 := ⟨_, rfl⟩
  have hL1 : W1.heap[w.heap.size]? = some (.loop { state := .ready, pending := none, fn, tmps := a.tmps, params := ps, assign, body, defers := r₀.defers }) := by rw [← hW1]; exact World.alloc_heap_new w _
  have hs1 : Step [] w W1 := by
    rw [← hW1]
    exact (Step.refl [] w).alloc _
  have hl0 := hIl _ _ _ h0
  refine ⟨w.heap.size, [], W1, { target := .fn (.func gf) lb, args := #[.func (.yield w.heap.size) #[] #[]] }, W1, gf,
    #[.func (.yield w.heap.size) #[] #[]] ++ lb, W1, ?_, ?_, ?_, ?_, fun _ => h1, ?_⟩
  · rw [← hW1]; exact run_enterLoop_inner hl₀ _ _ _ _ _
  · simp only [resolve, hg]
    simp [go_sem]
  · intro f' hf'; simp [Target.leads] at hf'; subst hf'; exact hFg
  · simp [invoke, go_sem, eg]
  · exact rangeSepV_core (X := []) hfn hseq (hPre W1 hs1) hps hL1 (fun k hk => absurd hk List.not_mem_nil) List.not_mem_nil (fun hm => by have := hR _ hm; omega) I Ix hIs hIl hIR hXs hXl C0 (hIs _ _ _ _ _ h0 hs1 (fun k _ => List.not_mem_nil)) (fun hm => by have := hl0 _ hm; omega) (fun k hk => absurd hk List.not_mem_nil) Ax hAx (hassign _) (hbody _)
      (fun xs B C hS hi _ => hdone xs B C hS hi) (fun c pre B C hS hi _ => hstop c pre B C hS hi)
end
end Go.Proofs.Ytkogchmnpffiaaa
