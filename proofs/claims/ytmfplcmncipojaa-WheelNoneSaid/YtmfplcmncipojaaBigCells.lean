/- A variable of many cells is loaded at once, by one law, in whatever walk. -/
import Derived.Deep.MidRow
import Derived.BigFrame
import Derived.BigCall
namespace Go.Proofs.Ytmfplcmncipojaa
set_option linter.unusedVariables false
/-- so many cells in a row -/
def rowC (w : World) (b o : Nat) : Nat → Option (List Value)
  | 0 => some []
  | n + 1 => match w.cell? ⟨b, o, none⟩, rowC w b (o + 1) n with
    | some v, some r => some (v :: r)
    | _, _ => none
theorem row_of_range (w : World) (b : Nat) : ∀ (cs : List Value) (o : Nat), w.rangeAt b o cs → rowC w b o cs.length = some cs
  | [], _, _ => rfl
  | v :: r, o, h => by
    have h0 := h 0 v rfl
    rw [Nat.add_zero] at h0
    have hr := row_of_range w b r (o + 1) (fun j u hu => by
      have := h (j + 1) u hu
      rwa [show o + (j + 1) = o + 1 + j by omega] at this)
    simp only [List.length_cons, rowC, h0, hr]
theorem range_of_row (w : World) (b : Nat) : ∀ (n o : Nat) (cs : List Value), rowC w b o n = some cs → w.rangeAt b o cs ∧ cs.length = n
  | 0, o, cs, h => by
    cases h
    exact ⟨fun j u hu => by simp at hu, rfl⟩
  | n + 1, o, cs, h => by
    unfold rowC at h
    cases h1 : w.cell? ⟨b, o, none⟩ with
    | none => rw [h1] at h; simp at h
    | some v =>
      cases h2 : rowC w b (o + 1) n with
      | none => rw [h1, h2] at h; simp at h
      | some r =>
        rw [h1, h2] at h
        simp only [Option.some.injEq] at h
        subst h
        obtain ⟨h3, h4⟩ := range_of_row w b n (o + 1) r h2
        refine ⟨fun j u hu => ?_, by simp [h4]⟩
        cases j with
        | zero => simp at hu; subst hu; exact h1
        | succ j =>
          rw [List.getElem?_cons_succ] at hu
          rw [show o + (j + 1) = o + 1 + j by omega]
          exact h3 j u hu
theorem row_drew (w : World) (b o n : Nat) : rowC w.drew b o n = rowC w b o n := by
  induction n generalizing o with
  | zero => rfl
  | succ n ih => simp only [rowC, ih, World.cell?_drew]
theorem row_alloc (w : World) (x : Obj) {b o n : Nat} {cs : List Value} (h : rowC w b o n = some cs) : rowC (w.alloc x) b o n = some cs := by
  obtain ⟨h1, h2⟩ := range_of_row w b n o cs h
  rw [← h2]
  exact row_of_range _ b cs o (World.rangeAt_alloc h1 x)

/-- a load, and its twin that no walk opens -/
def loadBig (T : TypeId) (v : Value) : Sem Value := Instr.loadAt T v
def loadBig0 (T : TypeId) (v : Value) : Sem Value := Instr.loadAt T v
theorem execOp_loadBig (T : TypeId) (a : Act) (dst : Option Tmp) (x : Operand) (ty : TypeId) (pos : String) (after : Array Edge) (guard : Option (Nat × Bool)) :
    execOp a.eval { dst, op := .load T x, type := ty, pos, after, guard } = (do pure (.value (← loadBig T (a.eval x)))) := rfl
theorem run_loadBig {P : Program} (T : TypeId) (n : Nat) (d : TypeDesc) (hu : P.underlying T = some d) (hd : d.isRow = true) (hi : (P.info? T).map (·.size) = some n) (w : World) (b o : Nat) :
    (loadBig T (.pointer (some ⟨b, o, none⟩))).run P w = match rowC w b o n with
      | some cs => .ok (.agg cs.toArray) w
      | none => (loadBig0 T (.pointer (some ⟨b, o, none⟩))).run P w := by
  cases h : rowC w b o n with
  | none => rfl
  | some cs =>
    obtain ⟨h1, h2⟩ := range_of_row w b n o cs h
    exact run_loadAt_mid w b o T cs d h1 hu hd (by rw [hi, h2])

/-- a row of one element, out of its cells -/
def oneBig (T : TypeId) (v : Value) : Sem Value := Instr.buildSlice T 1 #[(0, v)]
theorem foldl_set (C : Array Value) : ∀ (n : Nat) (Z : Array Value), Z.size = C.size → n ≤ C.size → ((C.zipIdx.toList.take n).foldl (fun cs (p : Value × Nat) => cs.setIfInBounds (0 + p.2) p.1) Z).size = C.size ∧ ∀ j, ((C.zipIdx.toList.take n).foldl (fun cs (p : Value × Nat) => cs.setIfInBounds (0 + p.2) p.1) Z)[j]? = if j < n then C[j]? else Z[j]? := by
  intro n
  induction n with
  | zero => intro Z hZ _; exact ⟨hZ, fun j => by simp⟩
  | succ n ih =>
    intro Z hZ hn
    obtain ⟨h1, h2⟩ := ih Z hZ (by omega)
    have hx : C.zipIdx.toList.take (n + 1) = C.zipIdx.toList.take n ++ [(C[n]'(by omega), n)] := by
      rw [List.take_add_one, Array.getElem?_toList, Array.getElem?_zipIdx, Array.getElem?_eq_getElem (by omega)]
      simp
    rw [hx, List.foldl_append]
    simp only [List.foldl_cons, List.foldl_nil]
    refine ⟨by rw [Array.size_setIfInBounds, h1], fun j => ?_⟩
    rw [Array.getElem?_setIfInBounds, h1, h2 j]
    by_cases hj : 0 + n = j
    · rw [if_pos hj, if_pos (by omega), if_pos (by omega), ← hj, Nat.zero_add, Array.getElem?_eq_getElem (by omega)]
    · rw [if_neg hj]
      by_cases hj2 : j < n
      · rw [if_pos hj2, if_pos (by omega)]
      · rw [if_neg hj2, if_neg (by omega)]
theorem fill_one (C Z : Array Value) (h : Z.size = C.size) : C.zipIdx.foldl (fun cs (p : Value × Nat) => cs.setIfInBounds (0 + p.2) p.1) Z = C := by
  obtain ⟨h1, h2⟩ := foldl_set C C.size Z h (Nat.le_refl _)
  have hl : C.zipIdx.toList.take C.size = C.zipIdx.toList := List.take_of_length_le (by simp)
  rw [hl, Array.foldl_toList] at h1 h2
  apply Array.ext_getElem?
  intro j
  rw [h2 j]
  split
  · rfl
  · rw [Array.getElem?_eq_none (by omega), Array.getElem?_eq_none (by omega)]
theorem execOp_oneBig (T : TypeId) (a : Act) (dst : Option Tmp) (x : Operand) (ty : TypeId) (pos : String) (after : Array Edge) (guard : Option (Nat × Bool)) :
    execOp a.eval { dst, op := .buildSlice T 1 #[(0, x)], type := ty, pos, after, guard } = (do pure (.value (← oneBig T (a.eval x)))) := by simp [execOp, oneBig]
theorem run_oneBig {P : Program} (T e : TypeId) (n : Nat) (i : TypeInfo) (z : Value) (hu : P.underlying T = some (.slice e)) (hi : P.info? e = some i) (hz : i.zero = some z) (hs : i.size = n) (hn : 0 < n) (hn2 : n ≤ 2 ^ 24) (C : Array Value) (hC : C.size = n) (w : World) :
    (oneBig T (.agg C)).run P w = .ok (.slice (some ⟨w.heap.size, 0, none⟩) 1 1) (w.alloc (.cells C e)) := by
  have h0 : ¬ 1 * n > 2 ^ 24 := by omega
  have h1 : ¬ 1 * n = 0 := by omega
  have hfill : ∀ Z : Array Value, Instr.fill (fun i => some (i * n, n)) ((Array.range (1 * n)).map (Z[· % Z.size]!)) [(0, .agg C)] = some C := by
    intro Z
    unfold Instr.fill
    simp only [Value.cells, hC, Nat.zero_mul, Nat.zero_add, ne_eq, not_true_eq_false, decide_false, Bool.false_or, Array.size_map, Array.size_range, Nat.one_mul, Nat.lt_irrefl, gt_iff_lt, Bool.false_eq_true, if_false]
    unfold Instr.fill
    have := fill_one C ((Array.range (1 * n)).map (Z[· % Z.size]!)) (by simp [hC])
    simp only [Nat.one_mul, Nat.zero_add] at this
    rw [this]
  unfold oneBig Instr.buildSlice
  rw [Sem.run_bind, run_underlying hu w]
  have hn3 : ¬ 16777216 < n := by omega
  have hn4 : ¬ n = 0 := by omega
  have hf := hfill z.cells
  rw [Nat.one_mul] at hf
  simp [sizeOf, typeInfo, zeroValue, hi, hz, hs, hn3, hn4, newRow, hf]

/-- a store of many cells -/
def storeBig (T : TypeId) (v x : Value) : Sem Unit := Instr.storeAt T v x
theorem execOp_storeBig (T : TypeId) (a : Act) (dst : Option Tmp) (x y : Operand) (ty : TypeId) (pos : String) (after : Array Edge) (guard : Option (Nat × Bool)) :
    execOp a.eval { dst, op := .store T x y, type := ty, pos, after, guard } = (do storeBig T (a.eval x) (a.eval y); pure .skip) := rfl
theorem run_storeBig {P : Program} (T : TypeId) (n : Nat) (hi : (P.info? T).map (·.size) = some n) (w : World) (b o : Nat) (l : List Value) (ht : w.there b o n) (hl : l.length = n) (h1 : l.all (·.oneCell') = true) :
    (storeBig T (.pointer (some ⟨b, o, none⟩)) (.agg l.toArray)).run P w = .ok () (w.setCells b o l) := by
  have := run_storeAt_mid (P := P) w b o T l.toArray (by rw [List.size_toArray, hl]; exact ht) (by rw [List.size_toArray, hl]; exact hi) (by rw [List.all_toArray]; exact h1)
  exact this
end Go.Proofs.Ytmfplcmncipojaa
