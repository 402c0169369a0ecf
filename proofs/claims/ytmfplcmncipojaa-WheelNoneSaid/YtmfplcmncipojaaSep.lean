/- What a call may turn: a list of blocks, and new ones. Objects that live in blocks of their own. No program in sight. -/
import Derived.Test.YtmfplcmncipojaaBlocks
import Derived.Test.YtmfplcmncipojaaBytes
namespace Go.Proofs.Ytmfplcmncipojaa
set_option linter.unusedVariables false
open Go.RowKit

/-- of the blocks that were there only those of F may have turned -/
structure Step (F : List Nat) (w w' : World) : Prop where
  os : w'.os = w.os
  tape : w'.tape = w.tape
  output : w'.output = w.output
  size : w.heap.size ≤ w'.heap.size
  block : ∀ k, k < w.heap.size → k ∉ F → w'.heap[k]? = w.heap[k]?

/-- every block of F' is one of F, or new since w -/
def Fresh (w : World) (F F' : List Nat) : Prop := ∀ k, k ∈ F' → k ∈ F ∨ w.heap.size ≤ k

/-- all blocks are there -/
def Live (w : World) (F : List Nat) : Prop := ∀ k, k ∈ F → k < w.heap.size

variable {F G H : List Nat} {w w' w'' : World}

theorem Step.refl (F : List Nat) (w : World) : Step F w w := ⟨rfl, rfl, rfl, Nat.le_refl _, fun _ _ _ => rfl⟩
theorem Step.mono (h : Step F w w') (hs : ∀ k, k ∈ F → k ∈ G) : Step G w w' := ⟨h.os, h.tape, h.output, h.size, fun k hk hn => h.block k hk fun hf => hn (hs k hf)⟩
theorem Step.trans (h : Step F w w') (h' : Step G w' w'') (hg : Fresh w F G) : Step F w w'' :=
  ⟨h'.os.trans h.os, h'.tape.trans h.tape, h'.output.trans h.output, Nat.le_trans h.size h'.size, fun k hk hn =>
    (h'.block k (Nat.lt_of_lt_of_le hk h.size) fun hg' => (hg k hg').elim hn (fun h2 => absurd hk (Nat.not_lt.2 h2))).trans (h.block k hk hn)⟩
theorem Step.alloc (h : Step F w w') (o : Obj) : Step F w (w'.alloc o) :=
  ⟨h.os, h.tape, h.output, by rw [World.size_alloc]; exact Nat.le_succ_of_le h.size, fun k hk hn => (heap_alloc_old w' o (Nat.lt_of_lt_of_le hk h.size)).trans (h.block k hk hn)⟩
theorem Step.setCell (h : Step F w w') {b : Nat} (hb : b ∈ F ∨ w.heap.size ≤ b) (i : Nat) (v : Value) : Step F w (w'.setCell ⟨b, i, none⟩ v) :=
  ⟨h.os, h.tape, h.output, by rw [World.size_setCell]; exact h.size, fun k hk hn => by
    have hne : k ≠ b := by
      rintro rfl
      rcases hb with hb | hb
      · exact hn hb
      · omega
    exact (heap_setCell_other w' ⟨b, i, none⟩ k v hne).trans (h.block k hk hn)⟩
theorem Step.drewN (h : Step F w w') (n : Nat) : Step F w (w'.drewN n) := ⟨h.os, h.tape, h.output, h.size, h.block⟩
theorem Step.drew (h : Step F w w') : Step F w w'.drew := ⟨h.os, h.tape, h.output, h.size, h.block⟩
theorem Step.of_below (h : Below w.heap.size w w') (F : List Nat) : Step F w w' := ⟨h.os, h.tape, h.output, h.size, fun k hk _ => h.block k hk⟩
theorem Step.below (h : Step F w w') {B : Nat} (hB : B ≤ w.heap.size) (hF : ∀ k, k ∈ F → B ≤ k) : Below B w w' :=
  ⟨h.os, h.tape, h.output, h.size, fun k hk => h.block k (Nat.lt_of_lt_of_le hk hB) fun hf => absurd (hF k hf) (Nat.not_le.2 hk)⟩
theorem Step.below' (h : Step [] w w') : Below w.heap.size w w' := h.below (Nat.le_refl _) (fun k hk => by cases hk)
theorem Step.grown {row : Option Nat} (h : Step F w w') (hg : w'.grownBy w'' row) (hr : ∀ k, row = some k → k ∈ F ∨ w.heap.size ≤ k) : Step F w w'' :=
  ⟨hg.os.trans h.os, hg.tape.trans h.tape, hg.output.trans h.output, Nat.le_trans h.size hg.size, fun k hk hn =>
    (hg.block k (Nat.lt_of_lt_of_le hk h.size) fun e => (hr k e.symm).elim hn (fun h2 => absurd hk (Nat.not_lt.2 h2))).trans (h.block k hk hn)⟩

/-- blocks that are new are none of what was there -/
theorem Step.fresh (h : Step F w w') (hf : ∀ k, k ∈ F → k ∈ G ∨ w.heap.size ≤ k) : Step G w w' :=
  ⟨h.os, h.tape, h.output, h.size, fun k hk hn => h.block k hk fun hF => (hf k hF).elim hn (fun h2 => absurd hk (Nat.not_lt.2 h2))⟩
/-- one step behind another, each turning only what is allowed, or new -/
theorem Step.then (h : Step F w w') (h' : Step G w' w'') (hg : ∀ k, k ∈ G → k ∈ F ∨ w.heap.size ≤ k) : Step F w w'' := h.trans h' hg

theorem Step.cell (h : Step F w w') {b i : Nat} (hb : b < w.heap.size) (hn : b ∉ F) : w'.cell? ⟨b, i, none⟩ = w.cell? ⟨b, i, none⟩ := World.cell?_of_block (w := w) (h.block b hb hn)
theorem Step.frozen (h : Step F w w') {b i : Nat} (hb : b < w.heap.size) (hn : b ∉ F) : w'.frozen? ⟨b, i, none⟩ = w.frozen? ⟨b, i, none⟩ := World.frozen?_of_block (w := w) (h.block b hb hn)
theorem Blk.step {b : Nat} {C : Array Value} {T : TypeId} (h : Blk w b C T) (hs : Step F w w') (hn : b ∉ F) : Blk w' b C T := by
  unfold Blk
  rw [hs.block b h.lt hn]
  exact h

/-- the blocks of a slice of the call's own -/
def foot (v : Value) : List Nat := v.ownBlock.toList

theorem mem_foot {v : Value} {k : Nat} : k ∈ foot v ↔ v.ownBlock = some k := by simp [foot]

theorem owns_step {base e size n : Nat} {v : Value} {xs : List Value} (h : w.ownsRow base e size v n xs) (hs : Step F w w') (hn : ∀ k, k ∈ foot v → k ∉ F) : w'.ownsRow base e size v n xs := by
  obtain ⟨h1, h2⟩ := h
  refine ⟨h1, ?_⟩
  rcases h2 with h2 | ⟨g, cap, cur, hv, hg, hh, r⟩
  · exact .inl h2
  · refine .inr ⟨g, cap, cur, hv, hg, ?_, r⟩
    have hlt : g < w.heap.size := by
      rcases Nat.lt_or_ge g w.heap.size with h' | h'
      · exact h'
      · rw [Array.getElem?_eq_none h'] at hh; cases hh
    rw [hs.block g hlt (hn g (mem_foot.2 (by rw [hv]; rfl)))]
    exact hh
theorem owns_live {base e size n : Nat} {v : Value} {xs : List Value} (h : w.ownsRow base e size v n xs) : Live w (foot v) := fun k hk => (h.lt k (mem_foot.1 hk)).2
theorem owns_base {base e size n : Nat} {v : Value} {xs : List Value} (h : w.ownsRow base e size v n xs) : ∀ k, k ∈ foot v → base ≤ k := fun k hk => (h.lt k (mem_foot.1 hk)).1

theorem Bytes.step {a : Option Addr} {l : List UInt8} (h : Bytes w a l) (hs : Step F w w') (hn : ∀ b off, a = some ⟨b, off, none⟩ → b ∉ F) : Bytes w' a l := fun i hi => by
  obtain ⟨b, off, ha, hlt, hc⟩ := h i hi
  exact ⟨b, off, ha, Nat.lt_of_lt_of_le hlt hs.size, by rw [hs.cell hlt (hn b off ha)]; exact hc⟩

theorem owns_low {base base' e size n : Nat} {v : Value} {xs : List Value} (h : w.ownsRow base e size v n xs) (hb : base' ≤ base) : w.ownsRow base' e size v n xs := by
  obtain ⟨h1, h2⟩ := h
  refine ⟨h1, ?_⟩
  rcases h2 with h2 | ⟨g, cap, cur, hv, hg, r⟩
  · exact .inl h2
  · exact .inr ⟨g, cap, cur, hv, by omega, r⟩

/-- append onto a row of the call's own, whatever is appended: the row that comes of it lies where it lay, or in a new block -/
theorem wpList_append_sep {P : Program} {w : World} {ops : Array Oper} {rest : List Oper} {o : Oper} {a : Act} {Q : Exit → Act → World → Prop} (hgd : o.guard = none) (s x : Operand) (t : TypeId)
    (ho : o.op = .call { callee := .builtin .append, args := #[s, x], argTypes := #[t, t] })
    (base : Nat) (e : TypeId) (i : TypeInfo) (z : Value) (size bytes : Nat) (ht : P.underlying t = some (.slice e)) (hi : P.info? e = some i) (hz : i.zero = some z)
    (hsize : i.size = size) (hby : i.bytes = bytes) (hzs : z.cells.size = size) (hsz : 0 < size)
    (v : Value) (n : Nat) (xs : List Value) (hs : a.eval s = v) (hown : w.ownsRow base e size v n xs)
    (ao : Option Addr) (m c : Nat) (news : List Value) (hx : a.eval x = .slice ao m c) (hnone : ao = none → m = 0 ∧ c = 0) (hl : news.length = m * size)
    (hnews : ∀ ad, ao = some ad → ∀ j u, news[j]? = some u → w.cell? (ad.add j) = some u) (h1 : ∀ u ∈ news, u.oneCell' = true)
    (h63 : n + m ≤ maxLen) (hbytes : (n + m) * bytes ≤ 140737488355328) (hbase : base ≤ w.heap.size)
    (h : ∀ v' w', w'.ownsRow base e size v' (n + m) (xs ++ news) → w.grownBy w' v.ownBlock → Fresh w (foot v) (foot v') → wpList P ops Q rest (a.put o.dst v') w') : wpList P ops Q (o :: rest) a w := by
  have hfr : ∀ (v' : Value) (w' : World), w'.ownsRow w.heap.size e size v' (n + m) (xs ++ news) → Fresh w (foot v) (foot v') := fun v' w' hr k hk => .inr (owns_base hr k hk)
  have hgr : ∀ w', w.grownBy w' none → w.grownBy w' v.ownBlock := fun w' hg => ⟨hg.os, hg.tape, hg.output, hg.size, fun k hk _ => hg.block k hk (by simp)⟩
  rcases hown.2 with ⟨hv, hn⟩ | ⟨g, cap, cur, hv, hg, hh, hcap, hmax, hsz', htake⟩
  · subst hv
    subst hn
    have hx0 : xs = [] := List.eq_nil_of_length_eq_zero (by simpa using hown.1)
    subst hx0
    cases ao with
    | none =>
      obtain ⟨rfl, rfl⟩ := hnone rfl
      have hn : news = [] := List.eq_nil_of_length_eq_zero (by simpa using hl)
      subst hn
      exact wpList_append_own_none hgd s x t ho base e i size ht hi _ 0 [] hs hown hx (h _ w (by simpa using hown) (World.grownBy.refl _ _) (fun k hk => .inl hk))
    | some ad =>
      by_cases hm : m = 0
      · subst hm
        have hn : news = [] := List.eq_nil_of_length_eq_zero (by simpa using hl)
        subst hn
        refine wpList_append_own w hgd s x t ho base e i z size bytes ht hi hz hsize hby hzs hsz _ 0 [] hs hown ad 0 c [] hx hl (hnews ad rfl) h1 h63 hbytes hbase fun v' w' h2 h3 h4 => ?_
        have : v' = .slice none 0 0 := h4.2 ⟨rfl, rfl⟩
        subst this
        exact h _ w' h2 h3 (fun k hk => .inl hk)
      · exact wpList_append_grows w hgd s x t ho e i z size bytes ht hi hz hsize hby hzs hsz none 0 0 [] hs (fun _ => ⟨rfl, rfl⟩) (by simp) (fun b hb => by cases hb) ad m c news hx hl (hnews ad rfl) h1 (by omega) h63 hbytes
          fun v' w' h2 h3 => h v' w' (owns_low h2 hbase) (hgr _ h3) (hfr _ _ h2)
  · subst hv
    by_cases hfit : n + m ≤ cap
    · exact wpList_append_fits_any w hgd s x t ho base e i size ht hi hsize g n cap xs hs hown ao m c news hx hl hnone hnews h1 hfit fun w' h2 h3 => h _ w' h2 h3 (fun k hk => .inl hk)
    · cases ao with
      | none => obtain ⟨rfl, rfl⟩ := hnone rfl; omega
      | some ad =>
        refine wpList_append_grows w hgd s x t ho e i z size bytes ht hi hz hsize hby hzs hsz (some ⟨g, 0, none⟩) n cap xs hs (fun hb => by cases hb) hown.1 (fun b hb => ?_) ad m c news hx hl (hnews ad rfl) h1 (by omega) h63 hbytes
          fun v' w' h2 h3 => h v' w' (owns_low h2 hbase) (hgr _ h3) (hfr _ _ h2)
        cases hb
        exact hown.cells rfl

end Go.Proofs.Ytmfplcmncipojaa
