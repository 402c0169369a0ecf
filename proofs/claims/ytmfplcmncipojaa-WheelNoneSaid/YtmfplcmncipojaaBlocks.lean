/- Blocks of cells known whole: reading, writing, keeping. No program in sight. -/
import Derived.Test.YtmfplcmncipojaaBase
namespace Go.Proofs.Ytmfplcmncipojaa
set_option linter.unusedVariables false
open Go.RowKit

/-- block b holds just these cells, none of them frozen -/
def Blk (w : World) (b : Nat) (C : Array Value) (T : TypeId) : Prop := w.heap[b]? = some (.cells C T (0, 0))

variable {w w' : World} {b : Nat} {C : Array Value} {T : TypeId}

theorem Blk.cell (h : Blk w b C T) (i : Nat) : w.cell? ⟨b, i, none⟩ = C[i]? := by
  unfold Blk at h
  simp [World.cell?, h]
theorem Blk.free (h : Blk w b C T) (i : Nat) : w.frozen? ⟨b, i, none⟩ = false := by
  unfold Blk at h
  simp [World.frozen?, h]
theorem Blk.lt (h : Blk w b C T) : b < w.heap.size := by
  rcases Nat.lt_or_ge b w.heap.size with h' | h'
  · exact h'
  · unfold Blk at h; rw [Array.getElem?_eq_none h'] at h; cases h
theorem Blk.set (h : Blk w b C T) (i : Nat) (v : Value) : Blk (w.setCell ⟨b, i, none⟩ v) b (C.setIfInBounds i v) T := heap_setCell_same w b i C T v h
theorem Blk.set_ne (h : Blk w b C T) (c i : Nat) (v : Value) (hne : b ≠ c) : Blk (w.setCell ⟨c, i, none⟩ v) b C T := by
  unfold Blk
  rw [heap_setCell_other w ⟨c, i, none⟩ b v hne]
  exact h
theorem Blk.alloc (h : Blk w b C T) (o : Obj) : Blk (w.alloc o) b C T := by
  unfold Blk
  rw [heap_alloc_old w o h.lt]
  exact h
theorem Blk.new (w : World) (C : Array Value) (T : TypeId) : Blk (w.alloc (.cells C T)) w.heap.size C T := heap_alloc_new w _
theorem Blk.below (h : Blk w b C T) {B : Nat} (hb : Below B w w') (hB : b < B) : Blk w' b C T := by
  unfold Blk
  rw [hb.block b hB]
  exact h
theorem Blk.drewN (h : Blk w b C T) (n : Nat) : Blk (w.drewN n) b C T := h
theorem Blk.drew (h : Blk w b C T) : Blk w.drew b C T := h
theorem Blk.iter (h : Blk w b C T) (s : ByteArray) (p : Nat) : Blk (w.iter s p) b C T := h.alloc _

/-! A REGION THAT DRAWS ITS ORDER, WHOSE CALLEES MAKE MEMORY: one walk of the text's order serves every order, as long as each operation yields one value in every world of a class, and each callee leaves a world of the class. -/

/-- a world of a class -/
structure ClsW (G : World → Prop) where
  val : World
  ok : G val

theorem region_cls {P : Program} {G : World → Prop} {id : Nat} {Q : Exit → Act → World → Prop} {a : Act} {w : World} {l : List Oper} (hm : P.follows .mixedOrders = true) (hB : Region.lexB .any l.toArray = true) (hG : G w.drew)
    (h : wpQuiet P l.toArray (fun w' => ∃ x : ClsW G, w' = x.val) (fun a' => ∀ w', (∃ x : ClsW G, w' = x.val) → Q .normal a' w') l a) : (Code.region id l.toArray true).wp P Q a w :=
  wp_region_quiet (C := fun w' => ∃ x : ClsW G, w' = x.val) hm hB ⟨⟨_, hG⟩, rfl⟩ (by simpa using h)

theorem cls_call {P : Program} {G : World → Prop} {f : FuncId} {args : Array Value} {w : World} {v : Value} (h : Calls P f args w fun e w' => e = .returned v ∧ G w') :
    Calls P f args w fun e w' => e = .returned v ∧ ∃ x : ClsW G, w' = x.val :=
  h.mono fun _ _ ⟨h1, h2⟩ => ⟨h1, ⟨_, h2⟩, rfl⟩

/-- nothing below B is turned, and block b is as it was -/
def Keeps (B : Nat) (W : World) (b : Nat) (C : Array Value) (T : TypeId) (w : World) : Prop := Below B W w ∧ Blk w b C T

theorem Keeps.step {B : Nat} {W : World} (h : Keeps B W b C T w) (hB : B ≤ w.heap.size) (hb : Below w.heap.size w w') : Keeps B W b C T w' := ⟨h.1.trans (hb.mono hB), h.2.below hb h.2.lt⟩
theorem Keeps.call {B : Nat} {W : World} (h : Keeps B W b C T w) (hb : Below w.heap.size w w') (hB : B ≤ b) : Keeps B W b C T w' := h.step (Nat.le_trans hB (Nat.le_of_lt h.2.lt)) hb
theorem Keeps.drew {B : Nat} {W : World} (h : Keeps B W b C T w) : Keeps B W b C T w.drew := ⟨h.1.drew, h.2⟩

end Go.Proofs.Ytmfplcmncipojaa
