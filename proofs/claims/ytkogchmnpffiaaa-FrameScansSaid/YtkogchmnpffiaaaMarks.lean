/- A function that leaves with a row of marks; an iterator that ranges over iterators: what it keeps. No program in sight. -/
import Derived.Test.YtkogchmnpffiaaaSeqG
import Derived.Test.YtkogchmnpffiaaaSeqNone
namespace Go.Proofs.Ytkogchmnpffiaaa
set_option linter.unusedVariables false
open Go.RowKit
def mks (Ds : List Nat) : List Deferred := Ds.map fun D => { target := .collected D, args := #[] }
theorem mks_cons (D : Nat) (Ds : List Nat) : mks (D :: Ds) = { target := .collected D, args := #[] } :: mks Ds := rfl
theorem mks_nil : mks [] = [] := rfl
/-- the marks' blocks are open, and empty -/
structure MarksOk (w : World) (Ds : List Nat) : Prop where
  nd : Ds.Nodup
  obj : ∀ D, D ∈ Ds → w.heap[D]? = some (.deferred (some []))
theorem MarksOk.nil (w : World) : MarksOk w [] := ⟨List.nodup_nil, fun D h => absurd h List.not_mem_nil⟩
theorem MarksOk.lt {w : World} {Ds : List Nat} (h : MarksOk w Ds) {D : Nat} (hD : D ∈ Ds) : D < w.heap.size := (Array.getElem?_eq_some_iff.1 (h.obj D hD)).1
theorem MarksOk.step {w w' : World} {Ds H : List Nat} (h : MarksOk w Ds) (hs : Step H w w') (hd : ∀ D, D ∈ Ds → D ∉ H) : MarksOk w' Ds :=
  ⟨h.nd, fun D hD => (hs.block D (h.lt hD) (hd D hD)).trans (h.obj D hD)⟩
theorem MarksOk.cons {w : World} {Ds : List Nat} {D : Nat} (h : MarksOk w Ds) (hD : w.heap[D]? = some (.deferred (some []))) (hn : D ∉ Ds) : MarksOk w (D :: Ds) :=
  ⟨List.nodup_cons.2 ⟨hn, h.nd⟩, fun k hk => (List.mem_cons.1 hk).elim (fun e => by rw [e]; exact hD) (h.obj k)⟩
theorem leaves_marks {F : Fence} {n : Nat} {P : Program} {fn : Func} {tmps : Array Value} {R : Ending → World → Prop} : ∀ (Ds : List Nat) (w : World), MarksOk w Ds →
    (∀ w', Step Ds w w' → LeavesIn F n P fn tmps R [] .returning w') → LeavesInM F n P fn tmps R (mks Ds) .returning w
  | [], w, _, h => h w (Step.refl _ _)
  | D :: Ds, w, hm, h => by
    have hput : Step [D] w (w.putObj D (.deferred none)) := step_put _
    refine ⟨by simp, .inl ⟨D, _, rfl, run_takeDeferred (hm.obj D (by simp)), leaves_marks Ds _ ?_ (fun w' hs => h w' ?_)⟩⟩
    · refine ⟨(List.nodup_cons.1 hm.nd).2, fun k hk => (hput.block k (hm.lt (List.mem_cons_of_mem _ hk)) ?_).trans (hm.obj k (List.mem_cons_of_mem _ hk))⟩
      intro e
      simp only [List.mem_cons, List.not_mem_nil, or_false] at e
      subst e
      exact (List.nodup_cons.1 hm.nd).1 hk
    · exact (hput.mono (G := D :: Ds) (fun k hk => by simp at hk; simp [hk])).then hs (fun k hk => .inl (List.mem_cons_of_mem _ hk))

theorem room_any {F : Fence} (hd : F.depth = none) (n : Nat) : F.room n := fun d h => by rw [hd] at h; cases h
/-- where nothing is asked of the depth, any depth serves -/
theorem YieldAt.depth {F : Fence} {m m' : Nat} {P : Program} {l : Nat} {args : Array Value} {W : World} {R : Ending → World → Prop} (hd : F.depth = none) (h : YieldAt F m P l args W R) : YieldAt F m' P l args W R := by
  obtain ⟨fn, tm, asg, bd, hy, h1, h2⟩ := h
  exact ⟨fn, tm, asg, bd, hy, h1, fun c cs _ => h2 c cs (room_any hd _)⟩
theorem RoundIn.depth {F : Fence} {m m' : Nat} {P : Program} {l : Nat} {f : FuncId} {tmps : Array Value} {asg bd : Code} {W : World} {R : Ending → World → Prop} (hd : F.depth = none) (h : RoundIn F m P l f tmps asg bd W R) : RoundIn F m' P l f tmps asg bd W R :=
  ⟨h.1, fun c cs _ => h.2 c cs (room_any hd _)⟩
theorem RoundIn.inner {F : Fence} {m m' : Nat} {P : Program} {l l' : Nat} {f : FuncId} {tmps : Array Value} {asg bd : Code} {W : World} {R : Ending → World → Prop} (hd : F.depth = none) (h : RoundIn F m P l f tmps asg bd W R) : RoundIn (F.inRound l') m' P l f tmps asg bd W R :=
  ⟨h.1, fun c cs _ => h.2 c cs (room_any hd _)⟩

theorem mem_drop_range {a b k : Nat} (h : k ∈ (List.range b).drop a) : a ≤ k ∧ k < b := by
  obtain ⟨i, hi, rfl⟩ := List.getElem_of_mem h
  simp only [List.length_drop, List.length_range] at hi
  simp only [List.getElem_drop, List.getElem_range]
  omega

/-- what an iterator that ranges over iterators keeps: the loop's invariant, over all blocks that no round made; its yield's box; its marks -/
structure Nest {α : Type} (J : List α → World → List Nat → Prop) (R : List Nat) (yb : Nat) (yv : Value) (T : TypeId) (s : List α) (Ds : List Nat) (w : World) (C : List Nat) : Prop where
  jj : J s w (gOf (yb :: Ds) C w.heap.size)
  live : Live w C
  kin : ∀ k, k ∈ yb :: Ds → k ∈ C
  rin : ∀ k, k ∈ R → k ∈ C
  yblk : Blk w yb #[yv] T
  marks : MarksOk w Ds
section
variable {α : Type} {J J' : List α → World → List Nat → Prop} {R : List Nat} {yb : Nat} {yv : Value} {T : TypeId} {s s' : List α} {Ds C H : List Nat} {w w' A B : World}
theorem Nest.step (h : Nest J R yb yv T s Ds w C) (hJ : ∀ s A B G G', J s A G → Step G A B → Fresh A G G' → Live B G' → J s B G') (hs : Step H w w') (hd : Dj C H) : Nest J R yb yv T s Ds w' C :=
  ⟨hJ s w w' _ _ h.jj (step_gOf hs hd) gOf_fresh gOf_live, fun k hk => Nat.lt_of_lt_of_le (h.live k hk) hs.size, h.kin, h.rin, h.yblk.step hs (hd yb (h.kin yb (by simp))), h.marks.step hs (fun D hD => hd D (h.kin D (List.mem_cons_of_mem _ hD)))⟩
theorem Nest.mark (h : Nest J R yb yv T s Ds w C) (hJ : ∀ s A B G G', J s A G → Step G A B → Fresh A G G' → Live B G' → J s B G') :
    Nest J R yb yv T s (w.heap.size :: Ds) (w.alloc (.deferred (some []))) (w.heap.size :: C) := by
  have hsz : (w.alloc (.deferred (some []))).heap.size = w.heap.size + 1 := World.size_alloc _ _
  have hst : ∀ G, Step G w (w.alloc (.deferred (some []))) := fun G => (Step.refl G w).alloc _
  have hlow : ∀ D, D ∈ Ds → D < w.heap.size := fun D hD => h.live D (h.kin D (List.mem_cons_of_mem _ hD))
  refine ⟨hJ s w _ _ _ h.jj (hst _) (fun k hk => ?_) gOf_live, fun k hk => ?_, fun k hk => ?_, fun k hk => List.mem_cons_of_mem _ (h.rin k hk), h.yblk.alloc _, (h.marks.step (hst []) (by simp)).cons (World.alloc_heap_new w _) (fun hm => by have := hlow _ hm; omega)⟩
  · obtain ⟨h1, h2⟩ := mem_gOf.1 hk
    rcases Nat.lt_or_ge k w.heap.size with hlt | hge
    · refine .inl (mem_gOf.2 ⟨hlt, ?_⟩)
      rcases h2 with h2 | h2
      · exact .inl fun hc => h2 (List.mem_cons_of_mem _ hc)
      · right
        simp only [List.mem_cons] at h2 ⊢
        rcases h2 with h2 | h2 | h2
        · exact .inl h2
        · omega
        · exact .inr h2
    · exact .inr hge
  · rw [hsz]
    rcases List.mem_cons.1 hk with rfl | hk
    · omega
    · have := h.live k hk
      omega
  · simp only [List.mem_cons] at hk ⊢
    rcases hk with hk | hk | hk
    · exact .inr (h.kin k (by simp [hk]))
    · exact .inl hk
    · exact .inr (h.kin k (by simp [hk]))
theorem Nest.round (h : Nest J R yb yv T s Ds A C) (hj : J' s' B (gOf (yb :: Ds) C A.heap.size)) (hs : Step H A B) (hd : Dj (R ++ gOf (yb :: Ds) C A.heap.size) H) :
    ∃ C', Nest J' R yb yv T s' Ds B C' ∧ Step C A B ∧ Fresh A C C' := by
  have hk : ∀ k, k ∈ yb :: Ds → k ∉ H := fun k hk => hd k (List.mem_append_right _ (mem_gOf.2 ⟨h.live k (h.kin k hk), .inr hk⟩))
  refine ⟨C ++ (List.range B.heap.size).drop A.heap.size, ⟨?_, fun k hk => ?_, fun k hk => List.mem_append_left _ (h.kin k hk), fun k hk => List.mem_append_left _ (h.rin k hk), h.yblk.step hs (hk yb (by simp)), h.marks.step hs (fun D hD => hk D (List.mem_cons_of_mem _ hD))⟩, ?_, fun k hk => ?_⟩
  · rw [gOf_round hs.size (fun k hk => h.live k (h.kin k hk))]
    exact hj
  · rcases List.mem_append.1 hk with hk | hk
    · exact Nat.lt_of_lt_of_le (h.live k hk) hs.size
    · exact (mem_drop_range hk).2
  · refine ⟨hs.os, hs.tape, hs.output, hs.size, fun k hlt hn => hs.block k hlt fun hm => ?_⟩
    exact hd k (List.mem_append_right _ (mem_gOf.2 ⟨hlt, .inl hn⟩)) hm
  · rcases List.mem_append.1 hk with hk | hk
    · exact .inl hk
    · exact .inr (mem_drop_range hk).1
/-- it leaves -/
theorem Nest.leave {F : Fence} {n : Nat} {P : Program} {fn : Func} {tmps : Array Value} {Q : Ending → World → Prop} (h : Nest J R yb yv T s Ds w C) (hJ : ∀ s A B G G', J s A G → Step G A B → Fresh A G G' → Live B G' → J s B G')
    (hr : fn.results = #[]) (hQ : ∀ w' G, J s w' G → Q (.returned (.tuple #[])) w') : LeavesInM F n P fn tmps Q (mks Ds) .returning w :=
  leaves_marks Ds w h.marks fun w' hs => ⟨_, results_none hr _ _ _, hQ w' _ (hJ s w w' _ _ h.jj (hs.mono fun k hk => mem_gOf.2 ⟨h.marks.lt hk, .inr (List.mem_cons_of_mem _ hk)⟩) gOf_fresh gOf_live)⟩
theorem Nest.start (hJ : ∀ s A B G G', J s A G → Step G A B → Fresh A G G' → Live B G' → J s B G') (h0 : J s w []) (hR : ∀ k, k ∈ R → k < w.heap.size) :
    Nest J R w.heap.size yv T s [] (w.alloc (.cells #[yv] T)) (List.range (w.heap.size + 1)) := by
  have hsz : (w.alloc (.cells #[yv] T)).heap.size = w.heap.size + 1 := World.size_alloc _ _
  refine ⟨hJ s w _ _ _ h0 ((Step.refl [] w).alloc _) (fun k hk => ?_) gOf_live, fun k hk => ?_, fun k hk => ?_, fun k hk => ?_, Blk.new w _ _, MarksOk.nil _⟩
  · obtain ⟨h1, h2⟩ := mem_gOf.1 hk
    rcases h2 with h2 | h2
    · rw [List.mem_range] at h2
      omega
    · simp only [List.mem_cons, List.not_mem_nil, or_false] at h2
      exact .inr (by omega)
  · rw [List.mem_range] at hk
    omega
  · simp only [List.mem_cons, List.not_mem_nil, or_false] at hk
    rw [List.mem_range]
    omega
  · rw [List.mem_range]
    have := hR k hk
    omega
end
end Go.Proofs.Ytkogchmnpffiaaa
