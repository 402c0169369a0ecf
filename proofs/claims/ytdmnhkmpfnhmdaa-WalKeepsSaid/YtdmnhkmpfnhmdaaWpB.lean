/- Several texts in one: DiskA, BigCells, DiskB, DiskC, DiskD, DiskE, DiskF. -/
import Derived.Test.YtdmnhkmpfnhmdaaSep
import Derived.Deep.MidRow
import Derived.Laws.OwnMore
import Derived.OwnWalk
import Derived.BigFrame
import Derived.BigCall
import Derived.Deep.RegionLaw
import Derived.Deep.RegionLawGrows
import Derived.Deep.DrawnRows
import Derived.Deep.AppendLies
import Derived.Maps.AppendAt
import Derived.Deep.RegionHeld
section
namespace Go.Proofs.Ytdmnhkmpfnhmdaa
set_option linter.unusedVariables false
open Go.RowKit

/-- a sector's cells; all sectors' -/
def secB (s : List UInt8) : List Value := s.map byteVal
def flatS (S : List (List UInt8)) : List Value := S.flatMap secB
/-- a writing that waits: its cells; all of them -/
def waitB (x : Nat × List UInt8) : List Value := .int .i64 (x.1 : Int) :: secB x.2
def flatW (W : List (Nat × List UInt8)) : List Value := W.flatMap waitB
def zeroS : List UInt8 := List.replicate 64 0

theorem flatS_len : ∀ (S : List (List UInt8)), (∀ s ∈ S, s.length = 64) → (flatS S).length = S.length * 64
  | [], _ => rfl
  | s :: r, h => by
    have h1 := h s (by simp)
    have h2 := flatS_len r (fun x hx => h x (by simp [hx]))
    simp only [flatS, List.flatMap_cons, List.length_append] at h2 ⊢
    rw [h2]
    simp [secB, h1]
    omega
theorem flatW_len : ∀ (W : List (Nat × List UInt8)), (∀ x ∈ W, x.2.length = 64) → (flatW W).length = W.length * 65
  | [], _ => rfl
  | s :: r, h => by
    have h1 := h s (by simp)
    have h2 := flatW_len r (fun x hx => h x (by simp [hx]))
    simp only [flatW, List.flatMap_cons, List.length_append] at h2 ⊢
    rw [h2]
    simp [waitB, secB, h1]
    omega

/-- a disk -/
structure Dsk (w : World) (base db : Nat) (lv wv : Value) (S : List (List UInt8)) (W : List (Nat × List UInt8)) (down : Bool) : Prop where
  blk : Blk w db #[lv, wv, .bool down] 63
  own1 : w.ownsRow base 72 64 lv S.length (flatS S)
  own2 : w.ownsRow base 75 65 wv W.length (flatW W)
  len1 : ∀ s ∈ S, s.length = 64
  len2 : ∀ x ∈ W, x.1 < S.length ∧ x.2.length = 64
  low : base ≤ db
  ap1 : db ∉ foot lv
  ap2 : db ∉ foot wv
  ap3 : ∀ k, k ∈ foot lv → k ∉ foot wv
  some1 : 0 < S.length
  few : S.length ≤ 4096
  few2 : W.length ≤ 100000

/-- the blocks of a disk -/
def footD (db : Nat) (lv wv : Value) : List Nat := db :: (foot lv ++ foot wv)
theorem Dsk.step {F : List Nat} {w w' : World} {base db : Nat} {lv wv : Value} {S : List (List UInt8)} {W : List (Nat × List UInt8)} {down : Bool} (h : Dsk w base db lv wv S W down) (hs : Step F w w') (hn : ∀ k, k ∈ footD db lv wv → k ∉ F) : Dsk w' base db lv wv S W down :=
  ⟨h.blk.step hs (hn _ (by simp [footD])), owns_step h.own1 hs (fun k hk => hn k (by simp [footD, hk])), owns_step h.own2 hs (fun k hk => hn k (by simp [footD, hk])), h.len1, h.len2, h.low, h.ap1, h.ap2, h.ap3, h.some1, h.few, h.few2⟩
theorem Dsk.base {w : World} {base db : Nat} {lv wv : Value} {S : List (List UInt8)} {W : List (Nat × List UInt8)} {down : Bool} (h : Dsk w base db lv wv S W down) : ∀ k, k ∈ footD db lv wv → base ≤ k := by
  intro k hk
  simp only [footD, List.mem_cons, List.mem_append] at hk
  rcases hk with rfl | hk | hk
  · exact h.low
  · exact owns_base h.own1 k hk
  · exact owns_base h.own2 k hk

theorem down_any (base db : Nat) (lv wv : Value) (S : List (List UInt8)) (W : List (Nat × List UInt8)) (d : Bool) (w : World) (h : Dsk w base db lv wv S W d) :
    Calls Try.prog 35 #[.pointer (some ⟨db, 0, none⟩)] w fun e w' => e = .returned (.bool d) ∧ w = w' := by
  have c2 : w.cell? ⟨db, 2, none⟩ = some (.bool d) := h.blk.cell 2
  clear h
  go_enter Try.func35, Try.ntmps35
  go_wp2_with fail
  go_ret
  exact ⟨rfl, rfl⟩

theorem up_any (base db : Nat) (lv wv : Value) (S : List (List UInt8)) (W : List (Nat × List UInt8)) (d : Bool) (w : World) (h : Dsk w base db lv wv S W d) :
    Calls Try.prog 26 #[.pointer (some ⟨db, 0, none⟩)] w fun e w' => e = .returned (.tuple #[]) ∧ Dsk w' base db lv wv S W false ∧ Step [db] w w' := by
  have c2 : w.cell? ⟨db, 2, none⟩ = some (.bool d) := h.blk.cell 2
  have f2 := h.blk.free 2
  have HD := Lib.hid h
  clear h
  go_enter Try.func26, Try.ntmps26
  go_wp2_with fail
  go_end0
  have hst : Step [db] w (w.setCell ⟨db, 2, none⟩ (.bool false)) := (Step.refl [db] w).setCell (.inl (by simp)) 2 _
  obtain ⟨h1, h2, h3, h4, h5, h6, h7, h8, h9, h10, h11, h12⟩ := HD.out
  exact ⟨rfl, ⟨h1.set 2 _, owns_step h2 hst (fun k hk hm => by simp at hm; subst hm; exact h7 hk), owns_step h3 hst (fun k hk hm => by simp at hm; subst hm; exact h8 hk), h4, h5, h6, h7, h8, h9, h10, h11, h12⟩, hst⟩

theorem Try.infoS : (Try.prog.info? 72).map (fun i => (i.zero, i.size, i.bytes)) = some (some (.agg (zeroS.map byteVal).toArray), 64, 64) := by kernel_rfl

theorem zero_cells : zeroS.map byteVal = List.replicate 64 (.int .u8 0) := by
  unfold zeroS
  rw [List.map_replicate]
  rfl
theorem flat_zero' (n : Nat) : flatS (List.replicate n zeroS) = List.replicate (n * 64) (.int .u8 0) := by
  induction n with
  | zero => rfl
  | succ n ih =>
    have h : flatS (List.replicate (n + 1) zeroS) = secB zeroS ++ flatS (List.replicate n zeroS) := by
      rw [List.replicate_succ]; rfl
    rw [h, ih]
    unfold secB
    rw [zero_cells, List.replicate_append_replicate]
    congr 1
    omega
theorem made_same (m k : Nat) (z : Value) (hm : 0 < m) : (madeCells (List.replicate m z).toArray k).toList = List.replicate k z := by
  apply List.ext_getElem?
  intro j
  by_cases hj : j < k
  · have h : j % m < m := Nat.mod_lt _ hm
    simp [madeCells, hj, h]
  · simp [madeCells, hj]
theorem flat_zero (n : Nat) : (madeCells (zeroS.map byteVal).toArray (n * 64)).toList = flatS (List.replicate n zeroS) := by
  rw [flat_zero', zero_cells, made_same 64 (n * 64) _ (by decide)]

set_option maxHeartbeats 1000000 in
theorem new_any (n : Nat) (w : World) (h0 : 0 < n) (hn : n ≤ 4096) :
    Calls Try.prog 9 #[.int .i64 (n : Int)] w fun e w' => ∃ db lv, e = .returned (.tuple #[.pointer (some ⟨db, 0, none⟩), .int .i64 0]) ∧ Dsk w' w.heap.size db lv (.slice none 0 0) (List.replicate n zeroS) [] false ∧ Step [] w w' := by
  obtain ⟨i0, hi0, hz0, hz1, hz2⟩ := info_parts Try.infoS
  have p1 : decide ((n : Int) < 1) = false := by simp; omega
  have p2 : decide ((4096 : Int) < (n : Int)) = false := by simp; omega
  go_enter Try.func9, Try.ntmps9
  go_wp2_with (refine wpList_make_full _ rfl (.tmp 10) (.tmp 10) 60 rfl w.heap.size 72 i0 _ 64 Try.underlying60 hi0 hz0 hz1 .i64 .i64 (n : Int) (n : Int) n rfl rfl rfl rfl (by rw [hz2]; omega) (by unfold maxLen; omega) (Nat.le_refl _) ?_)
  intro w1 hown hg
  have hs1 : Step [] w w1 := (Step.refl [] w).grown hg (fun k hk => by cases hk)
  have hfz := flat_zero n
  have hown2 : w1.ownsRow w.heap.size 72 64 (.slice (some ⟨w.heap.size, 0, none⟩) n n) n (flatS (List.replicate n zeroS)) := by rw [← hfz]; exact hown
  have HO := Lib.hid hown2
  have HS := Lib.hid hs1
  have hlt := owns_live hown2 w.heap.size (by simp [foot, Value.ownBlock])
  clear hown hg hs1 hfz hown2
  go_wp2_with fail
  go_ret2
  have hst : Step [] w1 (w1.alloc (.cells #[.slice (some ⟨w.heap.size, 0, none⟩) n n, .slice none 0 0, .bool false] 63)) := (Step.refl [] w1).alloc _
  refine ⟨_, _, rfl, ⟨Blk.new _ _ _, ?_, World.ownsRow_nil _ _ _ _, ?_, by simp, by omega, ?_, by simp [foot, Value.ownBlock], by simp [foot, Value.ownBlock], by simpa using h0, by simpa using hn, by simp⟩, HS.out.alloc _⟩
  · have h := owns_step HO.out hst (by simp)
    rw [List.length_replicate]
    exact h
  · intro s hs
    rw [List.eq_of_mem_replicate hs]
    rfl
  · simp [foot, Value.ownBlock]
    omega
end Go.Proofs.Ytdmnhkmpfnhmdaa
end

section
namespace Go.Proofs.Ytdmnhkmpfnhmdaa
set_option linter.unusedVariables false
/-- so many cells in a row -/
def rowC (w : World) (b o : Nat) : Nat → Option (List Value)
  | 0 => some []
  | n + 1 => match w.cell? ⟨b, o, none⟩, rowC w b (o + 1) n with
    | some v, some r => some (v :: r)
    | _, _ => none
theorem row_of_range (w : World) (b : Nat) : ∀ (cs : List Value) (o : Nat), w.rangeAt b o cs → rowC w b o cs.length = some cs
  | [], _, _ => rfl
  | v :: r, o, h => by
    have h0 := h 0 v rfl
    rw [Nat.add_zero] at h0
    have hr := row_of_range w b r (o + 1) (fun j u hu => by
      have := h (j + 1) u hu
      rwa [show o + (j + 1) = o + 1 + j by omega] at this)
    simp only [List.length_cons, rowC, h0, hr]
theorem range_of_row (w : World) (b : Nat) : ∀ (n o : Nat) (cs : List Value), rowC w b o n = some cs → w.rangeAt b o cs ∧ cs.length = n
  | 0, o, cs, h => by
    cases h
    exact ⟨fun j u hu => by simp at hu, rfl⟩
  | n + 1, o, cs, h => by
    unfold rowC at h
    cases h1 : w.cell? ⟨b, o, none⟩ with
    | none => rw [h1] at h; simp at h
    | some v =>
      cases h2 : rowC w b (o + 1) n with
      | none => rw [h1, h2] at h; simp at h
      | some r =>
        rw [h1, h2] at h
        simp only [Option.some.injEq] at h
        subst h
        obtain ⟨h3, h4⟩ := range_of_row w b n (o + 1) r h2
        refine ⟨fun j u hu => ?_, by simp [h4]⟩
        cases j with
        | zero => simp at hu; subst hu; exact h1
        | succ j =>
          rw [List.getElem?_cons_succ] at hu
          rw [show o + (j + 1) = o + 1 + j by omega]
          exact h3 j u hu
theorem row_drew (w : World) (b o n : Nat) : rowC w.drew b o n = rowC w b o n := by
  induction n generalizing o with
  | zero => rfl
  | succ n ih => simp only [rowC, ih, World.cell?_drew]
theorem row_alloc (w : World) (x : Obj) {b o n : Nat} {cs : List Value} (h : rowC w b o n = some cs) : rowC (w.alloc x) b o n = some cs := by
  obtain ⟨h1, h2⟩ := range_of_row w b n o cs h
  rw [← h2]
  exact row_of_range _ b cs o (World.rangeAt_alloc h1 x)

/-- a load, and its twin that no walk opens -/
def loadBig (T : TypeId) (v : Value) : Sem Value := Instr.loadAt T v
def loadBig0 (T : TypeId) (v : Value) : Sem Value := Instr.loadAt T v
theorem execOp_loadBig (T : TypeId) (a : Act) (dst : Option Tmp) (x : Operand) (ty : TypeId) (pos : String) (after : Array Edge) (guard : Option (Nat × Bool)) :
    execOp a.eval { dst, op := .load T x, type := ty, pos, after, guard } = (do pure (.value (← loadBig T (a.eval x)))) := rfl
theorem run_loadBig {P : Program} (T : TypeId) (n : Nat) (d : TypeDesc) (hu : P.underlying T = some d) (hd : d.isRow = true) (hi : (P.info? T).map (·.size) = some n) (w : World) (b o : Nat) :
    (loadBig T (.pointer (some ⟨b, o, none⟩))).run P w = match rowC w b o n with
      | some cs => .ok (.agg cs.toArray) w
      | none => (loadBig0 T (.pointer (some ⟨b, o, none⟩))).run P w := by
  cases h : rowC w b o n with
  | none => rfl
  | some cs =>
    obtain ⟨h1, h2⟩ := range_of_row w b n o cs h
    exact run_loadAt_mid w b o T cs d h1 hu hd (by rw [hi, h2])

/-- a row of one element, out of its cells -/
def oneBig (T : TypeId) (v : Value) : Sem Value := Instr.buildSlice T 1 #[(0, v)]
theorem foldl_set (C : Array Value) : ∀ (n : Nat) (Z : Array Value), Z.size = C.size → n ≤ C.size → ((C.zipIdx.toList.take n).foldl (fun cs (p : Value × Nat) => cs.setIfInBounds (0 + p.2) p.1) Z).size = C.size ∧ ∀ j, ((C.zipIdx.toList.take n).foldl (fun cs (p : Value × Nat) => cs.setIfInBounds (0 + p.2) p.1) Z)[j]? = if j < n then C[j]? else Z[j]? := by
  intro n
  induction n with
  | zero => intro Z hZ _; exact ⟨hZ, fun j => by simp⟩
  | succ n ih =>
    intro Z hZ hn
    obtain ⟨h1, h2⟩ := ih Z hZ (by omega)
    have hx : C.zipIdx.toList.take (n + 1) = C.zipIdx.toList.take n ++ [(C[n]'(by omega), n)] := by
      rw [List.take_add_one, Array.getElem?_toList, Array.getElem?_zipIdx, Array.getElem?_eq_getElem (by omega)]
      simp
    rw [hx, List.foldl_append]
    simp only [List.foldl_cons, List.foldl_nil]
    refine ⟨by rw [Array.size_setIfInBounds, h1], fun j => ?_⟩
    rw [Array.getElem?_setIfInBounds, h1, h2 j]
    by_cases hj : 0 + n = j
    · rw [if_pos hj, if_pos (by omega), if_pos (by omega), ← hj, Nat.zero_add, Array.getElem?_eq_getElem (by omega)]
    · rw [if_neg hj]
      by_cases hj2 : j < n
      · rw [if_pos hj2, if_pos (by omega)]
      · rw [if_neg hj2, if_neg (by omega)]
theorem fill_one (C Z : Array Value) (h : Z.size = C.size) : C.zipIdx.foldl (fun cs (p : Value × Nat) => cs.setIfInBounds (0 + p.2) p.1) Z = C := by
  obtain ⟨h1, h2⟩ := foldl_set C C.size Z h (Nat.le_refl _)
  have hl : C.zipIdx.toList.take C.size = C.zipIdx.toList := List.take_of_length_le (by simp)
  rw [hl, Array.foldl_toList] at h1 h2
  apply Array.ext_getElem?
  intro j
  rw [h2 j]
  split
  · rfl
  · rw [Array.getElem?_eq_none (by omega), Array.getElem?_eq_none (by omega)]
theorem execOp_oneBig (T : TypeId) (a : Act) (dst : Option Tmp) (x : Operand) (ty : TypeId) (pos : String) (after : Array Edge) (guard : Option (Nat × Bool)) :
    execOp a.eval { dst, op := .buildSlice T 1 #[(0, x)], type := ty, pos, after, guard } = (do pure (.value (← oneBig T (a.eval x)))) := by simp [execOp, oneBig]
theorem run_oneBig {P : Program} (T e : TypeId) (n : Nat) (i : TypeInfo) (z : Value) (hu : P.underlying T = some (.slice e)) (hi : P.info? e = some i) (hz : i.zero = some z) (hs : i.size = n) (hn : 0 < n) (hn2 : n ≤ 2 ^ 24) (C : Array Value) (hC : C.size = n) (w : World) :
    (oneBig T (.agg C)).run P w = .ok (.slice (some ⟨w.heap.size, 0, none⟩) 1 1) (w.alloc (.cells C e)) := by
  have h0 : ¬ 1 * n > 2 ^ 24 := by omega
  have h1 : ¬ 1 * n = 0 := by omega
  have hfill : ∀ Z : Array Value, Instr.fill (fun i => some (i * n, n)) ((Array.range (1 * n)).map (Z[· % Z.size]!)) [(0, .agg C)] = some C := by
    intro Z
    unfold Instr.fill
    simp only [Value.cells, hC, Nat.zero_mul, Nat.zero_add, ne_eq, not_true_eq_false, decide_false, Bool.false_or, Array.size_map, Array.size_range, Nat.one_mul, Nat.lt_irrefl, gt_iff_lt, Bool.false_eq_true, if_false]
    unfold Instr.fill
    have := fill_one C ((Array.range (1 * n)).map (Z[· % Z.size]!)) (by simp [hC])
    simp only [Nat.one_mul, Nat.zero_add] at this
    rw [this]
  unfold oneBig Instr.buildSlice
  rw [Sem.run_bind, run_underlying hu w]
  have hn3 : ¬ 16777216 < n := by omega
  have hn4 : ¬ n = 0 := by omega
  have hf := hfill z.cells
  rw [Nat.one_mul] at hf
  simp [sizeOf, typeInfo, zeroValue, hi, hz, hs, hn3, hn4, newRow, hf]

/-- a store of many cells -/
def storeBig (T : TypeId) (v x : Value) : Sem Unit := Instr.storeAt T v x
theorem execOp_storeBig (T : TypeId) (a : Act) (dst : Option Tmp) (x y : Operand) (ty : TypeId) (pos : String) (after : Array Edge) (guard : Option (Nat × Bool)) :
    execOp a.eval { dst, op := .store T x y, type := ty, pos, after, guard } = (do storeBig T (a.eval x) (a.eval y); pure .skip) := rfl
theorem run_storeBig {P : Program} (T : TypeId) (n : Nat) (hi : (P.info? T).map (·.size) = some n) (w : World) (b o : Nat) (l : List Value) (ht : w.there b o n) (hl : l.length = n) (h1 : l.all (·.oneCell') = true) :
    (storeBig T (.pointer (some ⟨b, o, none⟩)) (.agg l.toArray)).run P w = .ok () (w.setCells b o l) := by
  have := run_storeAt_mid (P := P) w b o T l.toArray (by rw [List.size_toArray, hl]; exact ht) (by rw [List.size_toArray, hl]; exact hi) (by rw [List.all_toArray]; exact h1)
  exact this
end Go.Proofs.Ytdmnhkmpfnhmdaa
end

section
namespace Go.Proofs.Ytdmnhkmpfnhmdaa
set_option linter.unusedVariables false
open Go.RowKit
attribute [local go_sem ↓] Go.wp_at_zero Go.wp_at_succ

/-- a sector's bytes: what is written, and zeros -/
def pad (l : List UInt8) : List UInt8 := l ++ List.replicate (64 - l.length) 0
theorem pad_len {l : List UInt8} (h : l.length ≤ 64) : (pad l).length = 64 := by
  unfold pad
  rw [List.length_append, List.length_replicate]
  omega

theorem Step.setCells {F : List Nat} {w w' : World} (h : Step F w w') {b : Nat} (hb : b ∈ F ∨ w.heap.size ≤ b) : ∀ (vs : List Value) (o : Nat), Step F w (w'.setCells b o vs) := by
  intro vs
  induction vs generalizing w' with
  | nil => intro o; exact h
  | cons v r ih => intro o; exact ih (h.setCell hb o v) (o + 1)
theorem setCells_blk {b : Nat} {T : TypeId} : ∀ (vs : List Value) (o : Nat) (w : World) (C : Array Value), Blk w b C T → o + vs.length ≤ C.size → ∃ C', Blk (w.setCells b o vs) b C' T ∧ C'.size = C.size ∧ ∀ j, C'[j]? = if o ≤ j ∧ j < o + vs.length then vs[j - o]? else C[j]? := by
  intro vs
  induction vs with
  | nil =>
    intro o w C hb _
    exact ⟨C, hb, rfl, fun j => by rw [if_neg (by simp)]⟩
  | cons v r ih =>
    intro o w C hb hl
    simp only [List.length_cons] at hl
    obtain ⟨C', h1, h2, h3⟩ := ih (o + 1) (w.setCell ⟨b, o, none⟩ v) (C.setIfInBounds o v) (hb.set o v) (by simp; omega)
    refine ⟨C', h1, by simpa using h2, fun j => ?_⟩
    rw [h3 j]
    simp only [List.length_cons]
    by_cases hj : j = o
    · subst hj
      rw [if_neg (by omega), if_pos (by omega)]
      simp [show j < C.size by omega]
    · by_cases hj2 : o + 1 ≤ j ∧ j < o + 1 + r.length
      · rw [if_pos hj2, if_pos (by omega), show j - o = (j - (o + 1)) + 1 by omega]
        simp
      · rw [if_neg hj2, if_neg (by omega)]
        simp [Ne.symm hj]
theorem Blk.there {w : World} {b : Nat} {C : Array Value} {T : TypeId} (h : Blk w b C T) {o n : Nat} (hn : o + n ≤ C.size) : w.there b o n := fun j hj => by
  refine ⟨?_, h.free (o + j)⟩
  rw [h.cell (o + j), Array.getElem?_eq_getElem (by omega)]
  rfl
/-- a new variable that is stored into as a whole -/
theorem store_whole {P : Program} (w : World) (C0 C1 : Array Value) (T : TypeId) (hsz : C1.size = C0.size) (h1 : ∀ v ∈ C1.toList, v.oneCell' = true) :
    ∃ W1, (storeCells ⟨w.heap.size, 0, none⟩ C1.toList).run P (w.alloc (.cells C0 T)) = .ok () W1 ∧ Blk W1 w.heap.size C1 T ∧ Step [] w W1 := by
  have hb := Blk.new w C0 T
  have ht := hb.there (o := 0) (n := C1.size) (by omega)
  have hr := run_storeCells_cells (P := P) w.heap.size 0 C1.toList 0 (w.alloc (.cells C0 T)) (fun j hj => by simpa using (ht j (by simpa using hj)).1) (fun j hj => by simp [hb.free]) h1
  obtain ⟨C', h2, h3, h4⟩ := setCells_blk C1.toList 0 _ C0 hb (by simp; omega)
  have he : C' = C1 := by
    apply Array.ext_getElem?
    intro j
    rw [h4 j]
    by_cases hj : j < C1.size
    · rw [if_pos (by simp; omega)]
      simp
    · rw [if_neg (by simp; omega), Array.getElem?_eq_none (by omega), Array.getElem?_eq_none (by omega)]
  rw [he] at h2
  exact ⟨_, by simpa using hr, h2, ((Step.refl [] w).alloc _).setCells (.inr (Nat.le_refl _)) _ _⟩

theorem foot_slice (a : Option Addr) (n cap : Nat) : ∀ k, k ∈ foot (.slice a n cap) ↔ ∃ off s, a = some ⟨k, off, s⟩ := by
  intro k
  cases a with
  | none => simp [foot, Value.ownBlock]
  | some x =>
    obtain ⟨b, off, s⟩ := x
    simp [foot, Value.ownBlock]
    exact eq_comm

/-- a row of the call's own, or one without room that is only read -/
def RowOr (w : World) (base e size : Nat) (v : Value) (n : Nat) (xs : List Value) : Prop :=
  w.ownsRow base e size v n xs ∨ ∃ ao, v = .slice ao n n ∧ (ao = none → n = 0) ∧ xs.length = n * size ∧ ∀ b, ao = some b → b.block < w.heap.size ∧ ∀ j u, xs[j]? = some u → w.cell? (b.add j) = some u

theorem RowOr.step {F : List Nat} {w w' : World} {base e size n : Nat} {v : Value} {xs : List Value} (h : RowOr w base e size v n xs) (hs : Step F w w') (hn : ∀ k, k ∈ foot v → k ∉ F) : RowOr w' base e size v n xs := by
  rcases h with h | ⟨ao, rfl, h0, hl, hc⟩
  · exact .inl (owns_step h hs hn)
  · refine .inr ⟨ao, rfl, h0, hl, fun b hb => ⟨Nat.lt_of_lt_of_le (hc b hb).1 hs.size, fun j u hu => ?_⟩⟩
    obtain ⟨h1, h2⟩ := hc b hb
    have h3 := h2 j u hu
    have hbl : (b.add j).block = b.block := by cases b; unfold Addr.add; split <;> rfl
    rw [← h3]
    exact World.cell?_of_block (hs.block (b.add j).block (by rw [hbl]; exact h1) (by
      rw [hbl]
      obtain ⟨x, y, z⟩ := b
      exact hn x ((foot_slice _ _ _ x).2 ⟨y, z, hb⟩)))

/-- append at a step of a region that draws -/
theorem step_append_row {P : Program} {ops : Array Oper} {o : Oper} {a : Act} {w : World} {K : Act → World → Prop} {Q : Exit → Act → World → Prop} {E : Prop}
    (hg : o.guard = none) (s x : Operand) (t : TypeId) (hop : o.op = Op.call { callee := Callee.builtin Builtin.append, args := #[s, x], argTypes := #[t, t] })
    (base : Nat) (e : TypeId) (i : TypeInfo) (z : Value) (size bytes : Nat) (h1 : P.underlying t = some (.slice e)) (h2 : P.info? e = some i) (h3 : i.zero = some z) (h4 : i.size = size) (h5 : i.bytes = bytes) (h6 : z.cells.size = size) (h7 : 0 < size)
    (v : Value) (n : Nat) (xs : List Value) (hs : a.eval s = v) (hrow : RowOr w base e size v n xs)
    (ad : Addr) (m c : Nat) (news : List Value) (hx : a.eval x = .slice (some ad) m c) (hm : 0 < m) (hn : news.length = m * size) (hc : ∀ j u, news[j]? = some u → w.cell? (ad.add j) = some u) (h1c : ∀ u ∈ news, u.oneCell' = true)
    (b1 : n + m ≤ maxLen) (b2 : (n + m) * bytes ≤ 140737488355328) (hbase : base ≤ w.heap.size)
    (hK : ∀ g c' w', w'.ownsRow base e size (.slice (some ⟨g, 0, none⟩) (n + m) c') (n + m) (xs ++ news) → Step (foot v) w w' → Fresh w (foot v) (foot (.slice (some ⟨g, 0, none⟩) (n + m) c')) → K (a.put o.dst (.slice (some ⟨g, 0, none⟩) (n + m) c')) w') :
    if Region.wanted o (yielded ops a.tmps) = true then Oper.wp P o a w K Q else E := by
  have key : ∀ v' w', w'.ownsRow base e size v' (n + m) (xs ++ news) → Step (foot v) w w' → Fresh w (foot v) (foot v') → K (a.put o.dst v') w' := by
    intro v' w' hr hs' hf
    obtain ⟨g, cap, rfl, _⟩ := owns_form hr (by omega)
    exact hK _ _ w' hr hs' hf
  rcases hrow with hown | ⟨ao, rfl, h0, hl, hcells⟩
  · have hw : Region.wanted o (yielded ops a.tmps) = true := by simp [Region.wanted, hg]
    rw [if_pos hw]
    obtain ⟨v', w', hr, r2, r3, _, r5⟩ := run_append_own_at (P := P) w base t o.type e i z size bytes h1 h2 h3 h4 h5 h6 h7 v n xs hown ad m c news hn hc h1c b1 b2 hbase
    unfold Oper.wp execOp
    simp only [hop, resolve, invoke, builtin, Sem.run_bind, Sem.run_pure, Result.andThen_ok, List.map_toArray, List.map_cons, List.map_nil, hs, hx, hr]
    refine key v' w' r2 ((Step.refl _ _).grown r3 (fun k hk => .inl (mem_foot.2 hk))) (fun k hk => ?_)
    rcases r5 with r5 | r5
    · exact .inl (by unfold foot; rw [← r5]; exact hk)
    · right
      have := mem_foot.1 hk
      rw [r5] at this
      cases this
      exact Nat.le_refl _
  · refine step_append_grows hg s x t hop e i z size bytes h1 h2 h3 h4 h5 h6 h7 ao n n xs hs (fun h => ⟨h0 h, h0 h⟩) hl (fun b hb => (hcells b hb).2) ad m c news hx hn hc h1c (by omega) b1 b2 ?_
    intro v' w' r2 r3
    exact key v' w' (owns_low r2 hbase) ((Step.refl _ _).grown r3 (fun k hk => by cases hk)) (fun k hk => .inr (owns_base r2 k hk))

/-- the cells of a writing that is nothing yet -/
def C0 : Array Value := (waitB (0, zeroS)).toArray
theorem Try.infoW : (Try.prog.info? 75).map (fun i => (i.zero, i.size, i.bytes)) = some (some (.agg C0), 65, 72) := by kernel_rfl

/-- a writing is loaded at once -/
theorem exec_load_w (a : Act) (dst : Option Tmp) (x : Operand) (ty : TypeId) (pos : String) (after : Array Edge) (guard : Option (Nat × Bool)) :
    execOp a.eval { dst, op := .load 75 x, type := ty, pos, after, guard } = (do pure (.value (← loadBig 75 (a.eval x)))) := rfl
theorem Try.load_w (w : World) (b o : Nat) : (loadBig 75 (.pointer (some ⟨b, o, none⟩))).run Try.prog w = match rowC w b o 65 with
      | some cs => .ok (.agg cs.toArray) w
      | none => (loadBig0 75 (.pointer (some ⟨b, o, none⟩))).run Try.prog w :=
  run_loadBig 75 65 _ Try.underlying75 rfl (by kernel_rfl) w b o
theorem exec_one_w (a : Act) (dst : Option Tmp) (x : Operand) (ty : TypeId) (pos : String) (after : Array Edge) (guard : Option (Nat × Bool)) :
    execOp a.eval { dst, op := .buildSlice 61 1 #[(0, x)], type := ty, pos, after, guard } = (do pure (.value (← oneBig 61 (a.eval x)))) := execOp_oneBig 61 a dst x ty pos after guard
theorem Try.one_w (C : Array Value) (hC : C.size = 65) (w : World) : (oneBig 61 (.agg C)).run Try.prog w = .ok (.slice (some ⟨w.heap.size, 0, none⟩) 1 1) (w.alloc (.cells C 75)) := by
  obtain ⟨j0, hj0, hjz, hj1, hj2⟩ := info_parts Try.infoW
  exact run_oneBig 61 75 65 j0 _ Try.underlying61 hj0 hjz hj1 (by decide) (by decide) C hC w
attribute [local go_sem ↓] exec_load_w exec_one_w
attribute [local go_sem] Try.load_w row_drew Try.one_w

set_option maxRecDepth 20000 in
set_option maxHeartbeats 1000000 in
theorem write_ok (base db : Nat) (lv wv : Value) (S : List (List UInt8)) (W : List (Nat × List UInt8)) (at' : Nat) (a : Option Addr) (cap : Nat) (l : List UInt8) (w : World) (h : Dsk w base db lv wv S W false) (hat : at' < S.length) (hB : Bytes w a l) (hn : a = none → l.length = 0 ∧ cap = 0) (hl : l.length ≤ 64) (hW : W.length < 1000) :
    Calls Try.prog 17 #[.pointer (some ⟨db, 0, none⟩), .int .i64 (at' : Int), .slice a l.length cap] w fun e w' => e = .returned (.int .i64 0) ∧ ∃ wv', Dsk w' base db lv wv' S (W ++ [(at', pad l)]) false ∧ Step (footD db lv wv) w w' ∧ Fresh w (foot wv) (foot wv') := by
  have HDn := Lib.hid (down_any base db lv wv S W false w h)
  obtain ⟨lb, lcap, hlv, -⟩ := owns_form h.own1 h.some1
  subst hlv
  have c0 : w.cell? ⟨db, 0, none⟩ = some (.slice (some ⟨lb, 0, none⟩) S.length lcap) := h.blk.cell 0
  have c1 : w.cell? ⟨db, 1, none⟩ = some wv := h.blk.cell 1
  have hfew := h.few
  have HD := Lib.hid h
  have HB := Lib.hid hB
  have HN := Lib.hid hn
  clear h hn
  obtain ⟨j0, hj0, hjz, hj1, hj2⟩ := info_parts Try.infoW
  have hzv : ∀ W, (zeroValue 75).run Try.prog W = .ok (.agg C0) W := fun W => by
    simp [zeroValue, typeInfo, hj0, hjz, C0]
  have hC0 : ¬ C0 = #[] := by decide
  have HJ := Lib.hid (And.intro hj0 (And.intro hjz (And.intro hj1 hj2)))
  clear hj0 hjz hj1 hj2
  obtain ⟨C1, hC1⟩ : ∃ C1, C0.setIfInBounds 0 (.int .i64 (at' : Int)) = C1 := ⟨_, rfl⟩
  have hC1l : C1.toList = waitB (at', zeroS) := by rw [← hC1]; rfl
  have hC1s : C1.size = 65 := by rw [← hC1]; rfl
  have hC1o : ∀ v ∈ C1.toList, v.oneCell' = true := by
    rw [hC1l]
    intro v hv
    rcases List.mem_cons.1 hv with rfl | hv
    · rfl
    · exact byteVals_cell _ v hv
  obtain ⟨W1, hst1, hblk1, hs1⟩ := store_whole (P := Try.prog) w C0 C1 75 (by rw [hC1s]; rfl) hC1o
  have HBk1 := Lib.hid hblk1
  have HS1 := Lib.hid hs1
  have HC1 := Lib.hid hC1l
  clear hC1l hC1o
  obtain ⟨C2, W2, hcp, hblk2, hs2, hC2⟩ : ∃ C2 W2, (Builtin.copy_ #[32, 32] 3 #[.slice (some ⟨w.heap.size, 1, none⟩) 64 64, .slice a l.length cap]).run Try.prog W1 = .ok (goInt l.length) W2 ∧ Blk W2 w.heap.size C2 75 ∧ Step [] w W2 ∧ C2.toList = waitB (at', pad l) := by
    by_cases hl0 : l.length = 0
    · have : l = [] := List.eq_nil_of_length_eq_zero hl0
      subst this
      refine ⟨C1, W1, ?_, hblk1, hs1, HC1.out⟩
      exact run_copy_none (P := Try.prog) W1 32 32 3 5 _ a 64 64 0 cap Try.underlying32 (by kernel_rfl) rfl
    · obtain ⟨ab, ao, rfl, -, -⟩ := hB 0 (by omega)
      have ht := hblk1.there (o := 1) (n := 64) (by rw [hC1s]; decide)
      have hlm : (l.map byteVal).length = l.length := by simp
      have hr := run_copy_cells (P := Try.prog) W1 32 32 3 5 w.heap.size 1 64 64 ⟨ab, ao, none⟩ l.length cap (l.map byteVal) Try.underlying32 (by kernel_rfl) (by rw [hlm]; exact (Nat.min_eq_left hl).symm)
        ((hB.step hs1 (by simp)).news ⟨ab, ao, none⟩ rfl) (fun j hj => (ht j (by omega)).1) (fun j hj => (ht j (by omega)).2) (byteVals_cell _)
      obtain ⟨C2, k1, k2, k3⟩ := setCells_blk (l.map byteVal) 1 W1 C1 hblk1 (by rw [hlm, hC1s]; omega)
      refine ⟨C2, _, by rw [hr, hlm], k1, hs1.setCells (.inr (Nat.le_refl _)) _ _, ?_⟩
      apply List.ext_getElem?
      intro j
      rw [Array.getElem?_toList, k3 j, hlm, ← Array.getElem?_toList, HC1.out]
      cases j with
      | zero => simp [waitB]
      | succ j =>
        simp only [waitB, List.getElem?_cons_succ, Nat.add_sub_cancel, secB, pad, List.map_append]
        by_cases hj : j < l.length
        · rw [if_pos (by omega), List.getElem?_append_left (by simpa using hj)]
        · rw [if_neg (by omega), List.getElem?_append_right (by simpa using hj), hlm, zero_cells, List.map_replicate, List.getElem?_replicate, List.getElem?_replicate]
          by_cases hj2 : j < 64
          · rw [if_pos hj2, if_pos (by omega)]
            rfl
          · rw [if_neg hj2, if_neg (by omega)]
  have HBk2 := Lib.hid hblk2
  have HS2 := Lib.hid hs2
  have HC2 := Lib.hid hC2
  have hC2s : C2.size = 65 := by
    have h := congrArg List.length hC2
    rw [Array.length_toList] at h
    rw [h]
    simp [waitB, secB, pad_len hl]
  clear hblk1 hs1 hblk2 hs2 hC2
  have p1 : decide ((at' : Int) < 0) = false := by simp
  have p2 : decide ((S.length : Int) ≤ (at' : Int)) = false := by simp; omega
  have p3 : decide ((64 : Int) < (l.length : Int)) = false := by simp; omega
  go_enter Try.func17, Try.ntmps17
  go_wp2_with fail
  refine HDn.out.mono ?_
  rintro e w1 ⟨rfl, rfl⟩
  go_wp2_with fail
  have d1 : W2.cell? ⟨db, 1, none⟩ = some wv := (HS2.out.cell HD.out.blk.lt (by simp)).trans c1
  have d2 : ∀ o, (W2.alloc o).cell? ⟨db, 1, none⟩ = some wv := fun o => ((HS2.out.alloc o).cell HD.out.blk.lt (by simp)).trans c1
  have d3 : rowC W2 w.heap.size 0 65 = some C2.toList := by
    have h := row_of_range W2 w.heap.size C2.toList 0 (fun j v hv => by rw [Nat.zero_add, HBk2.out.cell j, ← Array.getElem?_toList]; exact hv)
    rwa [Array.length_toList, hC2s] at h
  have hlow := HD.out.low
  have hap := Lib.hid HD.out.ap2
  have hC2o : ∀ u ∈ C2.toList, u.oneCell' = true := by
    rw [HC2.out]
    intro v hv
    rcases List.mem_cons.1 hv with rfl | hv
    · rfl
    · exact byteVals_cell _ v hv
  have hC2L : C2.toList.length = 1 * 65 := by rw [Array.length_toList, hC2s]
  have HC2o := Lib.hid hC2o
  have HC2L := Lib.hid hC2L
  clear hC2o hC2L
  have hrow := Lib.hid (fun o => (RowOr.step (.inl HD.out.own2) (HS2.out.drew.alloc o) (by simp) : RowOr (W2.drew.alloc o) base 75 65 wv W.length (flatW W)))
  have hblk := Lib.hid (fun o => HD.out.blk.step (HS2.out.drew.alloc o) (by simp))
  have hlt := HD.out.blk.lt
  have hlow2 : base ≤ W2.heap.size := by have := HS2.out.size; omega
  go_region_law (first
    | (refine step_append_row rfl (.tmp 37) (.tmp 39) 61 rfl base 75 j0 _ 65 72 Try.underlying61 HJ.out.1 HJ.out.2.1 HJ.out.2.2.1 HJ.out.2.2.2 rfl (by decide) wv W.length (flatW W) (by rfl) ?hr ⟨W2.heap.size, 0, none⟩ 1 1 C2.toList (by rfl) (by decide) HC2L.out (World.news_of_block (Go.heap_alloc_new _ _)) HC2o.out ?h2 ?h3 ?h4 ?_
       case hr => exact hrow.out _
       case h2 => unfold maxLen; omega
       case h3 => omega
       case h4 => exact Nat.le_trans hlow2 (Nat.le_of_lt (by show W2.heap.size < (W2.alloc _).heap.size; rw [World.size_alloc]; exact Nat.lt_succ_self _))
       intro g8 k8 w8 hown8 hs8 hf8
       have hB8 := (hblk.out _).step hs8 hap.out
       have c8 := hB8.cell 1
       have f8 := hB8.free 1
       simp only [List.getElem?_toArray, List.getElem?_cons_zero, List.getElem?_cons_succ] at c8
       have HB8 := Lib.hid hB8
       have HO8 := Lib.hid hown8
       have HS8 := Lib.hid hs8
       have HF8 := Lib.hid hf8
       clear hown8 hs8 hf8 hB8))
  all_goals
    have hst8 : Step (footD db (.slice (some ⟨lb, 0, none⟩) S.length lcap) wv) w (w8.setCell ⟨db, 1, none⟩ (.slice (some ⟨g8, 0, none⟩) (W.length + 1) k8)) := by
      have h1 := ((HS2.out.drew.alloc (Obj.cells C2 75))).mono (G := footD db (.slice (some ⟨lb, 0, none⟩) S.length lcap) wv) (by simp)
      exact (h1.then HS8.out (fun k hk => .inl (by simp [footD, hk]))).setCell (.inl (by simp [footD])) 1 _
    have hfr8 : Fresh w (foot wv) (foot (.slice (some ⟨g8, 0, none⟩) (W.length + 1) k8)) := by
      intro k hk
      rcases HF8.out _ hk with h | h
      · exact .inl h
      · have h2 : W2.heap.size ≤ k := Nat.le_trans (Nat.le_of_lt (by show W2.heap.size < (W2.alloc _).heap.size; rw [World.size_alloc]; exact Nat.lt_succ_self _)) h
        have := HS2.out.size
        exact .inr (by omega)
    have hdsk : Dsk (w8.setCell ⟨db, 1, none⟩ (.slice (some ⟨g8, 0, none⟩) (W.length + 1) k8)) base db (.slice (some ⟨lb, 0, none⟩) S.length lcap) (.slice (some ⟨g8, 0, none⟩) (W.length + 1) k8) S (W ++ [(at', pad l)]) false := by
      have hs1 : Step (foot wv) w w8 := (((HS2.out.drew.alloc (Obj.cells C2 75))).mono (G := foot wv) (by simp)).then HS8.out (fun k hk => .inl hk)
      have hdb : db ∉ foot (.slice (some ⟨g8, 0, none⟩) (W.length + 1) k8) := by
        intro hk
        rcases hfr8 _ hk with h | h
        · exact hap.out h
        · have := HD.out.blk.lt
          omega
      have hst : Step [db] w8 (w8.setCell ⟨db, 1, none⟩ (.slice (some ⟨g8, 0, none⟩) (W.length + 1) k8)) := (Step.refl [db] w8).setCell (.inl (by simp)) 1 _
      refine ⟨HB8.out.set 1 _, ?_, ?_, HD.out.len1, ?_, HD.out.low, HD.out.ap1, hdb, ?_, HD.out.some1, HD.out.few, by simp; omega⟩
      · refine owns_step (owns_step HD.out.own1 hs1 (fun k hk => HD.out.ap3 k hk)) hst (fun k hk hm => ?_)
        simp at hm
        subst hm
        exact HD.out.ap1 hk
      · have h1 := owns_step HO8.out hst (fun k hk hm => by simp at hm; subst hm; exact hdb hk)
        rw [HC2.out] at h1
        rw [List.length_append]
        have he : flatW (W ++ [(at', pad l)]) = flatW W ++ waitB (at', pad l) := by simp [flatW]
        rw [he]
        exact h1
      · intro x hx
        rcases List.mem_append.1 hx with h | h
        · exact HD.out.len2 x h
        · simp at h
          subst h
          exact ⟨hat, pad_len hl⟩
      · intro k hk hk2
        rcases hfr8 _ hk2 with h | h
        · exact HD.out.ap3 k hk h
        · have := owns_live HD.out.own1 k hk
          omega
    have HA := Lib.hid (And.intro hdsk (And.intro hst8 hfr8))
    clear hdsk hst8 hfr8
    go_wp2_with fail
    go_ret
    exact ⟨rfl, _, HA.out⟩
end Go.Proofs.Ytdmnhkmpfnhmdaa
end

section
namespace Go.Proofs.Ytdmnhkmpfnhmdaa
set_option linter.unusedVariables false
open Go.RowKit
attribute [local go_sem ↓] Go.wp_at_zero Go.wp_at_succ exec_load_w
attribute [local go_sem] Try.load_w row_drew

theorem write_bad (base db : Nat) (lv wv : Value) (S : List (List UInt8)) (W : List (Nat × List UInt8)) (x : Int) (a : Option Addr) (n cap : Nat) (w : World) (h : Dsk w base db lv wv S W false) (hx : x < 0 ∨ (S.length : Int) ≤ x) :
    Calls Try.prog 17 #[.pointer (some ⟨db, 0, none⟩), .int .i64 x, .slice a n cap] w fun e w' => e = .returned (.int .i64 3) ∧ w = w' := by
  have HDn := Lib.hid (down_any base db lv wv S W false w h)
  obtain ⟨lb, lcap, hlv, -⟩ := owns_form h.own1 h.some1
  subst hlv
  have c0 : w.cell? ⟨db, 0, none⟩ = some (.slice (some ⟨lb, 0, none⟩) S.length lcap) := h.blk.cell 0
  clear h
  by_cases h0 : x < 0
  · have p1 : decide (x < 0) = true := by simpa using h0
    go_enter Try.func17, Try.ntmps17
    go_wp2_with fail
    refine HDn.out.mono ?_
    rintro e w1 ⟨rfl, rfl⟩
    go_wp2_with fail
    go_ret
    exact ⟨rfl, rfl⟩
  · have p1 : decide (x < 0) = false := by simpa using h0
    have p2 : decide ((S.length : Int) ≤ x) = true := by simp; omega
    go_enter Try.func17, Try.ntmps17
    go_wp2_with fail
    refine HDn.out.mono ?_
    rintro e w1 ⟨rfl, rfl⟩
    go_wp2_with fail
    go_ret
    exact ⟨rfl, rfl⟩

/-- cells written over a list's -/
def setL : List Value → Nat → List Value → List Value
  | xs, _, [] => xs
  | xs, o, v :: r => setL (xs.set o v) (o + 1) r
theorem setL_mid : ∀ (vs A B C : List Value), B.length = vs.length → setL (A ++ B ++ C) A.length vs = A ++ vs ++ C
  | [], A, B, C, h => by
    have : B = [] := List.eq_nil_of_length_eq_zero h
    subst this
    rfl
  | v :: r, A, [], C, h => by simp at h
  | v :: r, A, b :: B, C, h => by
    have h1 : (A ++ (b :: B) ++ C).set A.length v = (A ++ [v]) ++ B ++ C := by
      simp
    have h2 := setL_mid r (A ++ [v]) B C (by simpa using h)
    unfold setL
    rw [h1]
    simp only [List.length_append, List.length_cons, List.length_nil, Nat.zero_add] at h2
    rw [h2]
    simp
theorem owns_setCells {base e size g n cap : Nat} : ∀ (vs : List Value) (o : Nat) (w : World) (xs : List Value), w.ownsRow base e size (.slice (some ⟨g, 0, none⟩) n cap) n xs → (w.setCells g o vs).ownsRow base e size (.slice (some ⟨g, 0, none⟩) n cap) n (setL xs o vs)
  | [], o, w, xs, h => h
  | v :: r, o, w, xs, h => owns_setCells r (o + 1) (w.setCell ⟨g, o, none⟩ v) (xs.set o v) (World.ownsRow.stored h o v).1
theorem flatS_cut (S : List (List UInt8)) (k : Nat) (hk : k < S.length) : flatS S = flatS (S.take k) ++ secB (S[k]) ++ flatS (S.drop (k + 1)) := by
  conv => lhs; rw [← List.take_append_drop k S, List.drop_eq_getElem_cons hk]
  simp only [flatS, List.flatMap_append, List.flatMap_cons, List.append_assoc]
theorem flatS_set (S : List (List UInt8)) (k : Nat) (b : List UInt8) (hk : k < S.length) (hS : ∀ s ∈ S, s.length = 64) (hb : b.length = 64) : setL (flatS S) (k * 64) (secB b) = flatS (S.set k b) := by
  have h1 := flatS_cut (S.set k b) k (by simpa using hk)
  rw [List.getElem_set_self, List.drop_set_of_lt (by omega), List.take_set_of_le (Nat.le_refl _)] at h1
  have hl : (flatS (S.take k)).length = k * 64 := by
    rw [flatS_len _ (fun s h => hS s (List.mem_of_mem_take h)), List.length_take]
    congr 1
    omega
  rw [h1, flatS_cut S k hk, ← hl]
  exact setL_mid _ _ _ _ (by simp [secB, hb, hS _ (List.getElem_mem hk)])
theorem flatW_get (W : List (Nat × List UInt8)) (k j : Nat) (x : Nat × List UInt8) (hx : W[k]? = some x) (hW : ∀ y ∈ W, y.2.length = 64) (hj : j < 65) : (flatW W)[k * 65 + j]? = (waitB x)[j]? := by
  have hk : k < W.length := by
    rcases Nat.lt_or_ge k W.length with h | h
    · exact h
    · rw [List.getElem?_eq_none h] at hx
      cases hx
  have hxe : W[k] = x := by
    rw [List.getElem?_eq_getElem hk] at hx
    exact Option.some.inj hx
  have he : flatW W = flatW (W.take k) ++ (waitB x ++ flatW (W.drop (k + 1))) := by
    conv => lhs; rw [← List.take_append_drop k W, List.drop_eq_getElem_cons hk, hxe]
    simp only [flatW, List.flatMap_append, List.flatMap_cons]
  have hl : (flatW (W.take k)).length = k * 65 := by
    rw [flatW_len _ (fun s h => hW s (List.mem_of_mem_take h)), List.length_take]
    congr 1
    omega
  have hwl : (waitB x).length = 65 := by
    simp [waitB, secB, hW x (List.mem_of_getElem? hx)]
  rw [he, List.getElem?_append_right (by omega), hl, Nat.add_sub_cancel_left, List.getElem?_append_left (by omega)]

/-- a writing out of the row of those that wait -/
theorem row_of_wait {w : World} {base wb cap : Nat} {W : List (Nat × List UInt8)} (h : w.ownsRow base 75 65 (.slice (some ⟨wb, 0, none⟩) W.length cap) W.length (flatW W)) (hW : ∀ y ∈ W, y.2.length = 64) (k : Nat) (x : Nat × List UInt8) (hx : W[k]? = some x) : rowC w wb (k * 65) 65 = some (waitB x) := by
  have hk : k < W.length := by
    rcases Nat.lt_or_ge k W.length with h | h
    · exact h
    · rw [List.getElem?_eq_none h] at hx
      cases hx
  have hwl : (waitB x).length = 65 := by
    simp [waitB, secB, hW x (List.mem_of_getElem? hx)]
  have := row_of_range w wb (waitB x) (k * 65) (fun j v hv => by
    have hj : j < 65 := by
      rcases Nat.lt_or_ge j 65 with h | h
      · exact h
      · rw [List.getElem?_eq_none (by omega)] at hv
        cases hv
    rw [World.ownsRow.cellAt h (k * 65 + j) (by omega), flatW_get W k j x hx hW hj]
    exact hv)
  rwa [hwl] at this

/-- the sectors, so many of those that wait settled -/
def setl (kp : Nat → Bool) (W : List (Nat × List UInt8)) (S : List (List UInt8)) : Nat → List (List UInt8)
  | 0 => S
  | k + 1 => match W[k]? with
    | some x => if kp k then (setl kp W S k).set x.1 x.2 else setl kp W S k
    | none => setl kp W S k
theorem setl_next (kp : Nat → Bool) (W : List (Nat × List UInt8)) (S : List (List UInt8)) (k : Nat) (x : Nat × List UInt8) (hx : W[k]? = some x) : setl kp W S (k + 1) = if kp k then (setl kp W S k).set x.1 x.2 else setl kp W S k := by
  conv => lhs; unfold setl
  rw [hx]
theorem setl_len (kp : Nat → Bool) (W : List (Nat × List UInt8)) (S : List (List UInt8)) (k : Nat) : (setl kp W S k).length = S.length := by
  induction k with
  | zero => rfl
  | succ k ih =>
    unfold setl
    split
    · split
      · simpa using ih
      · exact ih
    · exact ih

/-- a sector changed -/
theorem Dsk.put {w : World} {base db lb lcap : Nat} {wv : Value} {S : List (List UInt8)} {W : List (Nat × List UInt8)} {d : Bool} (h : Dsk w base db (.slice (some ⟨lb, 0, none⟩) S.length lcap) wv S W d) {x : Nat × List UInt8} (hx : x ∈ W) :
    Dsk (w.setCells lb (x.1 * 64) (secB x.2)) base db (.slice (some ⟨lb, 0, none⟩) S.length lcap) wv (S.set x.1 x.2) W d ∧ Step (footD db (.slice (some ⟨lb, 0, none⟩) S.length lcap) wv) w (w.setCells lb (x.1 * 64) (secB x.2)) := by
  have hlb : lb ∈ foot (.slice (some ⟨lb, 0, none⟩) S.length lcap) := by simp [foot, Value.ownBlock]
  have hst : Step [lb] w (w.setCells lb (x.1 * 64) (secB x.2)) := (Step.refl [lb] w).setCells (.inl (by simp)) _ _
  obtain ⟨hx1, hx2⟩ := h.len2 x hx
  refine ⟨⟨h.blk.step hst (fun hk => by simp at hk; subst hk; exact h.ap1 hlb), ?_, owns_step h.own2 hst (fun k hk hm => by simp at hm; subst hm; exact h.ap3 _ hlb hk), ?_, by simpa using h.len2, h.low, h.ap1, h.ap2, h.ap3, by simpa using h.some1, by simpa using h.few, h.few2⟩, hst.mono (fun k hk => by simp at hk; subst hk; simp [footD, hlb])⟩
  · rw [List.length_set, ← flatS_set S x.1 x.2 hx1 h.len1 hx2]
    exact owns_setCells _ _ _ _ h.own1
  · intro s hs
    rcases List.mem_or_eq_of_mem_set hs with h1 | rfl
    · exact h.len1 s h1
    · exact hx2

set_option maxRecDepth 20000 in
set_option maxHeartbeats 1000000 in
theorem settle_any (base db : Nat) (lv wv : Value) (S : List (List UInt8)) (W : List (Nat × List UInt8)) (d : Bool) (w : World) (h : Dsk w base db lv wv S W d) (f : FuncId) (caps : Array Value) (kp : Nat → Bool) (eg : ∀ args w, (callFunc f args).run Try.prog w = .ok (.enter f args) w)
    (hk : ∀ (i : Nat) (w' : World), i < W.length → Step (footD db lv wv) w w' → Calls Try.prog f (#[.int .i64 (i : Int)] ++ caps) w' fun e w'' => e = .returned (.bool (kp i)) ∧ w' = w'') :
    Calls Try.prog 36 #[.pointer (some ⟨db, 0, none⟩), .func (.func f) #[] caps] w fun e w' => e = .returned (.tuple #[]) ∧ Dsk w' base db lv (.slice none 0 0) (setl kp W S W.length) [] d ∧ Step (footD db lv wv) w w' := by
  obtain ⟨lb, lcap, hlv, -⟩ := owns_form h.own1 h.some1
  subst hlv
  obtain ⟨ao, wcap, hwv, hao⟩ : ∃ ao wcap, wv = .slice ao W.length wcap ∧ (0 < W.length → ∃ wb, ao = some ⟨wb, 0, none⟩) := by
    rcases h.own2.2 with ⟨e1, e2⟩ | ⟨g, c, cur, e1, -⟩
    · exact ⟨none, 0, by rw [e1, e2], fun hp => by omega⟩
    · exact ⟨_, c, e1, fun _ => ⟨g, rfl⟩⟩
  subst hwv
  have HAO := Lib.hid hao
  clear hao
  have c1 : w.cell? ⟨db, 1, none⟩ = some (.slice ao W.length wcap) := h.blk.cell 1
  obtain ⟨j0, hj0, hjz, hj1, hj2⟩ := info_parts Try.infoW
  have hzv : ∀ W, (zeroValue 75).run Try.prog W = .ok (.agg C0) W := fun W => by
    simp [zeroValue, typeInfo, hj0, hjz, C0]
  have hC0 : ¬ C0 = #[] := by decide
  clear hj0 hjz hj1 hj2
  have HD := Lib.hid h
  have HK := Lib.hid hk
  have hfew2 := h.few2
  clear h hk
  obtain ⟨n, hn⟩ : ∃ n, W.length = n := ⟨_, rfl⟩
  have HN := Lib.hid hn
  rw [hn] at c1
  clear hn
  go_enter Try.func36, Try.ntmps36
  go_wp2_with fail
  go_loopw [11] (fun j wr => ∃ k : Nat, k ≤ n ∧ j = .int .i64 k ∧ Dsk wr base db (.slice (some ⟨lb, 0, none⟩) S.length lcap) (.slice ao W.length wcap) (setl kp W S k) W d ∧ Step (footD db (.slice (some ⟨lb, 0, none⟩) S.length lcap) (.slice ao W.length wcap)) w wr) (fun j _ => n - (intOf j).toNat)
  case atStart => exact ⟨0, Nat.zero_le _, rfl, HD.out, Step.refl _ _⟩
  case round =>
    obtain ⟨k, hkn, rfl, hD, hS⟩ := hrel
    have HDR := Lib.hid hD
    have HSR := Lib.hid hS
    clear hD hS
    by_cases hk : k < n
    · have hkW : k < W.length := by have := HN.out; omega
      obtain ⟨wb, hwb⟩ := HAO.out (by omega)
      subst hwb
      obtain ⟨x, hx⟩ : ∃ x, W[k]? = some x := ⟨_, List.getElem?_eq_getElem hkW⟩
      have hxm : x ∈ W := List.mem_of_getElem? hx
      obtain ⟨hx1, hx2⟩ := HD.out.len2 x hxm
      obtain ⟨C, hC⟩ : ∃ C : Array Value, C.toList = waitB x := ⟨(waitB x).toArray, by simp⟩
      have hr : rowC wr wb (k * 65) 65 = some C.toList := by rw [hC]; exact row_of_wait HDR.out.own2 (fun y hy => (HD.out.len2 y hy).2) k x hx
      have hCs : C.size = 65 := by
        rw [← Array.length_toList, hC]
        simp [waitB, secB, hx2]
      have hCo : ∀ v ∈ C.toList, v.oneCell' = true := by
        rw [hC]
        intro v hv
        rcases List.mem_cons.1 hv with rfl | hv
        · rfl
        · exact byteVals_cell _ v hv
      obtain ⟨W1, hst1, hblk1, hs1⟩ := store_whole (P := Try.prog) wr C0 C 75 (by rw [hCs]; rfl) hCo
      have HBk1 := Lib.hid hblk1
      have HS1 := Lib.hid hs1
      have HC := Lib.hid hC
      have HX := Lib.hid hx
      have HX1 := Lib.hid hx1
      have HX2 := Lib.hid hx2
      have HCo := Lib.hid hCo
      clear hblk1 hs1 hC hx hx1 hx2 hCo
      have hD1 := HDR.out.step HS1.out (by simp)
      have c0 : W1.cell? ⟨db, 0, none⟩ = some (.slice (some ⟨lb, 0, none⟩) S.length lcap) := hD1.blk.cell 0
      have hlt1 := hD1.blk.lt
      have HD1 := Lib.hid hD1
      clear hD1
      have hkk : (k : Int) < (n : Int) := by omega
      have hst : Step (footD db (.slice (some ⟨lb, 0, none⟩) S.length lcap) (.slice (some ⟨wb, 0, none⟩) W.length wcap)) w W1 := HSR.out.then HS1.out (by simp)
      have HST := Lib.hid hst
      clear hst
      go_wp2_with fail
      refine (HK.out k W1 hkW HST.out).mono ?_
      rintro e w7 ⟨rfl, rfl⟩
      have d1 : W1.cell? ⟨wr.heap.size, 0, none⟩ = some (.int .i64 (x.1 : Int)) := by
        rw [HBk1.out.cell 0, ← Array.getElem?_toList, HC.out]
        rfl
      cases hkp : kp k with
      | false =>
        have hse : setl kp W S (k + 1) = setl kp W S k := by
          rw [setl_next _ _ _ _ _ HX.out, hkp]
          rfl
        have HSE := Lib.hid hse
        clear hse hkp
        go_wp2_with fail
        go_roundw
        case rel => exact ⟨k + 1, by omega, by go_num, by rw [HSE.out]; exact HD1.out, HST.out⟩
        case measure => simp [intOf]; omega
      | true =>
        have hse : setl kp W S (k + 1) = (setl kp W S k).set x.1 x.2 := by
          rw [setl_next _ _ _ _ _ HX.out, hkp]
          rfl
        have HSE := Lib.hid hse
        clear hse hkp
        have e1 : W1.rangeAt wr.heap.size 1 (secB x.2) := fun j v hv => by
          rw [HBk1.out.cell, ← Array.getElem?_toList, HC.out, Nat.add_comm, waitB, List.getElem?_cons_succ]
          exact hv
        have ho := HD1.out.own1
        rw [setl_len] at ho
        have e2 : W1.there lb (x.1 * 64) 64 := fun j hj => by
          have hx1 := HX1.out
          refine ⟨?_, World.ownsRow.frozenAt ho _⟩
          have hj2 : x.1 * 64 + j < S.length * 64 := by omega
          rw [World.ownsRow.cellAt ho _ hj2, List.getElem?_eq_getElem (by rw [ho.1]; exact hj2)]
          rfl
        clear ho
        have a1 : Try.prog.underlying 72 = some (.array 64 5) := Try.underlying72
        have a2 : (secB x.2).length = 64 := by simp [secB, HX2.out]
        have a3 : (Try.prog.info? 72).map (·.size) = some (secB x.2).length := by rw [a2]; kernel_rfl
        have a4 : ∀ v ∈ secB x.2, v.oneCell' = true := byteVals_cell _
        have hx1 : (x.1 : Int) < (S.length : Int) := by have := HX1.out; omega
        have hx2 : (0 : Int) ≤ (x.1 : Int) := by omega
        have hlb : lb ∈ foot (.slice (some ⟨lb, 0, none⟩) S.length lcap) := by simp [foot, Value.ownBlock]
        have hs9 : Step [lb] W1 (W1.drew.setCells lb (x.1 * 64) (secB x.2)) := (Step.refl [lb] W1).drew.setCells (.inl (by simp)) _ _
        have hne : wr.heap.size ∉ [lb] := by
          intro hm
          simp at hm
          have := owns_live HDR.out.own1 lb hlb
          omega
        have hne2 : db ∉ [lb] := by
          intro hm
          simp at hm
          subst hm
          exact HD1.out.ap1 hlb
        have hlt2 : wr.heap.size < W1.heap.size := HBk1.out.lt
        have HKK := Lib.hid (show (W1.drew.setCells lb (x.1 * 64) (secB x.2)).cell? ⟨db, 0, none⟩ = some (.slice (some ⟨lb, 0, none⟩) S.length lcap) ∧ (W1.drew.setCells lb (x.1 * 64) (secB x.2)).cell? ⟨wr.heap.size, 0, none⟩ = some (.int .i64 (x.1 : Int)) ∧ (W1.drew.setCells lb (x.1 * 64) (secB x.2)).rangeAt wr.heap.size 1 (secB x.2) ∧ (W1.drew.setCells lb (x.1 * 64) (secB x.2)).there lb (x.1 * 64) 64 from
          ⟨(hs9.cell hlt1 hne2).trans c0, (hs9.cell hlt2 hne).trans d1, fun j v hv => (hs9.cell hlt2 hne).trans (e1 j v hv), World.there_setCells ((World.there_drew _ _ _ _).2 e2) _ _ _⟩)
        have HP9 := Lib.hid (Dsk.put (S := setl kp W S k) (by rw [setl_len]; exact HD1.out.step (Step.refl [] W1).drew (by simp)) hxm)
        clear hs9 hne hne2
        go_wp2_with fail
        go_region_held (fun w' => w'.cell? ⟨db, 0, none⟩ = some (.slice (some ⟨lb, 0, none⟩) S.length lcap) ∧ w'.cell? ⟨wr.heap.size, 0, none⟩ = some (.int .i64 (x.1 : Int)) ∧ w'.rangeAt wr.heap.size 1 (secB x.2) ∧ w'.there lb (x.1 * 64) 64) ((first | go_keep_ranges | exact HKK.out)) (fail)
        simp only [List.getElem_toArray, List.getElem_cons_succ, List.getElem_cons_zero]
        clear a1 a2 a3 a4 e1 e2 c0 d1 hr hst1
        go_wp2_with fail
        go_roundw
        case rel =>
          have hq := HP9.out
          rw [setl_len] at hq
          exact ⟨k + 1, by omega, by go_num, by rw [HSE.out]; exact hq.1, HST.out.drew.then hq.2 (fun k hk => .inl hk)⟩
        case measure => simp [intOf]; omega
    · have hke : k = n := by omega
      subst hke
      have f1 := HDR.out.blk.free 1
      have hlt1 := HDR.out.blk.lt
      have hst : Step [db] wr (wr.setCell ⟨db, 1, none⟩ (.slice none 0 0)) := (Step.refl [db] wr).setCell (.inl (by simp)) 1 _
      have HST := Lib.hid hst
      have c9 : wr.cell? ⟨db, 1, none⟩ = some (.slice ao W.length wcap) := HDR.out.blk.cell 1
      clear hst
      go_wp2_with fail
      go_end0
      have hq := HDR.out
      refine ⟨rfl, ⟨hq.blk.set 1 _, ?_, World.ownsRow_nil _ _ _ _, ?_, by simp, hq.low, hq.ap1, by simp [foot, Value.ownBlock], by simp [foot, Value.ownBlock], ?_, ?_, by simp⟩, HSR.out.then HST.out (fun k hk => .inl (by simp at hk; subst hk; simp [footD]))⟩
      · rw [HN.out]
        exact owns_step hq.own1 HST.out (fun k hk hm => by simp at hm; subst hm; exact hq.ap1 hk)
      · rw [HN.out]
        exact hq.len1
      · rw [HN.out]
        exact hq.some1
      · rw [HN.out]
        exact hq.few
end Go.Proofs.Ytdmnhkmpfnhmdaa
end

section
namespace Go.Proofs.Ytdmnhkmpfnhmdaa
set_option linter.unusedVariables false
open Go.RowKit

set_option maxRecDepth 20000 in
set_option maxHeartbeats 1000000 in
/-- slices.Clone of compline/disk.sectors -/
theorem clone_S (ao : Option Addr) (m cap : Nat) (cs : List Value) (w : World) (hn : ao = none → m = 0 ∧ cap = 0) (hl : cs.length = m * 64) (hm : m ≤ 1000000) (h1 : ∀ u ∈ cs, u.oneCell' = true)
    (hc : ∀ w' x, ao = some x → Step [] w w' → ∀ j u, cs[j]? = some u → w'.cell? (x.add j) = some u) :
    Calls Try.prog 32 #[.slice ao m cap] w fun e w' => ∃ v, e = .returned v ∧ w'.ownsRow w.heap.size 72 64 v m cs ∧ Step [] w w' := by
  cases ao with
  | none =>
    obtain ⟨rfl, rfl⟩ := hn rfl
    have : cs = [] := List.eq_nil_of_length_eq_zero (by omega)
    subst this
    have he := fun w => Lib.run_eql_slice_nil (P := Try.prog) w 60 72 none 0 0 0 0 Try.underlying60
    clear hc h1 hl hm hn
    go_enter Try.func32, Try.ntmps32
    go_wp2
    go_ret
    exact ⟨_, rfl, World.ownsRow_nil _ _ _ _, Step.refl _ _⟩
  | some x =>
    obtain ⟨i0, hi, hz0, hz1, hz2⟩ := info_parts Try.infoS
    have he := fun w => Lib.run_eql_slice_nil (P := Try.prog) w 60 72 (some x) m cap 0 0 Try.underlying60
    simp at he
    have HC := Lib.hid hc
    have HL := Lib.hid hl
    have H1 := Lib.hid h1
    clear hc h1 hl hn
    go_enter Try.func32, Try.ntmps32
    go_wp2_with (at_builtin; refine wpList_append_own_any rfl (.tmp 5) (.tmp 6) 60 rfl w.heap.size 72 i0 _ 64 64 Try.underlying60 hi hz0 hz1 hz2 rfl (by decide) _ 0 [] rfl (World.ownsRow_made _ _ 0 (Nat.le_refl _) (Nat.zero_le _) rfl) (some x) m cap cs rfl (by intro h; cases h) HL.out (by intro a ha j u hu; exact HC.out _ a ha ((Step.refl [] w).alloc _) j u hu) H1.out (by unfold maxLen; omega) (by omega) (by simp) ?_)
    intro v2 w2 hown2 hg2
    have hs2 : Step [] w w2 := ((Step.refl _ _).alloc _).grown hg2 (fun k hk => by cases hk; exact .inr (Nat.le_refl _))
    have HO := Lib.hid hown2
    clear hown2 hg2
    go_wp2
    go_ret
    exact ⟨v2, rfl, by simpa using HO.out, hs2⟩

set_option maxRecDepth 20000 in
set_option maxHeartbeats 1000000 in
/-- slices.Clone of compline/disk.writings -/
theorem clone_W (ao : Option Addr) (m cap : Nat) (cs : List Value) (w : World) (hn : ao = none → m = 0 ∧ cap = 0) (hl : cs.length = m * 65) (hm : m ≤ 1000000) (h1 : ∀ u ∈ cs, u.oneCell' = true)
    (hc : ∀ w' x, ao = some x → Step [] w w' → ∀ j u, cs[j]? = some u → w'.cell? (x.add j) = some u) :
    Calls Try.prog 33 #[.slice ao m cap] w fun e w' => ∃ v, e = .returned v ∧ w'.ownsRow w.heap.size 75 65 v m cs ∧ Step [] w w' := by
  cases ao with
  | none =>
    obtain ⟨rfl, rfl⟩ := hn rfl
    have : cs = [] := List.eq_nil_of_length_eq_zero (by omega)
    subst this
    have he := fun w => Lib.run_eql_slice_nil (P := Try.prog) w 61 75 none 0 0 0 0 Try.underlying61
    clear hc h1 hl hm hn
    go_enter Try.func33, Try.ntmps33
    go_wp2
    go_ret
    exact ⟨_, rfl, World.ownsRow_nil _ _ _ _, Step.refl _ _⟩
  | some x =>
    obtain ⟨i0, hi, hz0, hz1, hz2⟩ := info_parts Try.infoW
    have he := fun w => Lib.run_eql_slice_nil (P := Try.prog) w 61 75 (some x) m cap 0 0 Try.underlying61
    simp at he
    have HC := Lib.hid hc
    have HL := Lib.hid hl
    have H1 := Lib.hid h1
    clear hc h1 hl hn
    go_enter Try.func33, Try.ntmps33
    go_wp2_with (at_builtin; refine wpList_append_own_any rfl (.tmp 5) (.tmp 6) 61 rfl w.heap.size 75 i0 _ 65 72 Try.underlying61 hi hz0 hz1 hz2 rfl (by decide) _ 0 [] rfl (World.ownsRow_made _ _ 0 (Nat.le_refl _) (Nat.zero_le _) rfl) (some x) m cap cs rfl (by intro h; cases h) HL.out (by intro a ha j u hu; exact HC.out _ a ha ((Step.refl [] w).alloc _) j u hu) H1.out (by unfold maxLen; omega) (by omega) (by simp) ?_)
    intro v2 w2 hown2 hg2
    have hs2 : Step [] w w2 := ((Step.refl _ _).alloc _).grown hg2 (fun k hk => by cases hk; exact .inr (Nat.le_refl _))
    have HO := Lib.hid hown2
    clear hown2 hg2
    go_wp2
    go_ret
    exact ⟨v2, rfl, by simpa using HO.out, hs2⟩

theorem yes_any (i : Nat) (w : World) : Calls Try.prog 37 #[.int .i64 (i : Int)] w fun e w' => e = .returned (.bool true) ∧ w = w' := by
  go_enter Try.func37, Try.ntmps37
  go_wp2
  go_ret
  exact ⟨rfl, rfl⟩
theorem no_any (i : Nat) (w : World) : Calls Try.prog 40 #[.int .i64 (i : Int)] w fun e w' => e = .returned (.bool false) ∧ w = w' := by
  go_enter Try.func40, Try.ntmps40
  go_wp2
  go_ret
  exact ⟨rfl, rfl⟩

/-- all that wait are written: as settled -/
def syncS (W : List (Nat × List UInt8)) (S : List (List UInt8)) : List (List UInt8) := setl (fun _ => true) W S W.length

set_option maxHeartbeats 1000000 in
theorem sync_any (base db : Nat) (lv wv : Value) (S : List (List UInt8)) (W : List (Nat × List UInt8)) (w : World) (h : Dsk w base db lv wv S W false) :
    Calls Try.prog 18 #[.pointer (some ⟨db, 0, none⟩)] w fun e w' => e = .returned (.int .i64 0) ∧ Dsk w' base db lv (.slice none 0 0) (syncS W S) [] false ∧ Step (footD db lv wv) w w' := by
  have HDn := Lib.hid (down_any base db lv wv S W false w h)
  have HS := Lib.hid (settle_any base db lv wv S W false w h 37 #[] (fun _ => true) (fun args w => by rfl) (fun i w' _ _ => yes_any i w'))
  clear h
  go_enter Try.func18, Try.ntmps18
  go_wp2_with fail
  refine HDn.out.mono ?_
  rintro e w1 ⟨rfl, rfl⟩
  go_wp2_with fail
  refine HS.out.mono ?_
  rintro e w1 ⟨rfl, h1, h2⟩
  have HA := Lib.hid (And.intro h1 h2)
  clear h1 h2
  go_wp2_with fail
  go_ret
  exact ⟨rfl, HA.out⟩

theorem eqlIn_func {P : Program} (d : Nat) (T : TypeId) (ps rs : Array TypeId) (vr : Bool) (h : P.underlying T = some (.func ps rs vr)) (f : FuncId) (caps : Array Value) (w : World) : (Op.equalIn (d + 1) T (.func (.func f) #[] caps) .nilFunc).run P w = .ok false w := by
  simp [Op.equalIn, run_underlying h]
theorem eqlIn_func_nil {P : Program} (d : Nat) (T : TypeId) (ps rs : Array TypeId) (vr : Bool) (h : P.underlying T = some (.func ps rs vr)) (w : World) : (Op.equalIn (d + 1) T .nilFunc .nilFunc).run P w = .ok true w := by
  simp [Op.equalIn, run_underlying h]
theorem eql_func {P : Program} (T : TypeId) (ps rs : Array TypeId) (vr : Bool) (h : P.underlying T = some (.func ps rs vr)) (f : FuncId) (caps : Array Value) (w : World) : (binOp .eql T (.func (.func f) #[] caps) .nilFunc).run P w = .ok (.bool false) w := by
  simp only [binOp]
  simp [Op.equal, Op.maxDepth, eqlIn_func 9999 T ps rs vr h f caps w]
theorem eql_func_nil {P : Program} (T : TypeId) (ps rs : Array TypeId) (vr : Bool) (h : P.underlying T = some (.func ps rs vr)) (w : World) : (binOp .eql T .nilFunc .nilFunc).run P w = .ok (.bool true) w := by
  simp only [binOp]
  simp [Op.equal, Op.maxDepth, eqlIn_func_nil 9999 T ps rs vr h w]

/-- a function value that decides, without changing anything -/
def KeepF (P : Program) (F : List Nat) (w : World) (n : Nat) (f : FuncId) (caps : Array Value) (kp : Nat → Bool) : Prop :=
  ∀ (i : Nat) (w' : World), i < n → Step F w w' → Calls P f (#[.int .i64 (i : Int)] ++ caps) w' fun e w'' => e = .returned (.bool (kp i)) ∧ w' = w''

theorem Dsk.dn {w : World} {base db : Nat} {lv wv : Value} {S : List (List UInt8)} {W : List (Nat × List UInt8)} {d : Bool} (h : Dsk w base db lv wv S W d) (d2 : Bool) : Dsk (w.setCell ⟨db, 2, none⟩ (.bool d2)) base db lv wv S W d2 ∧ Step [db] w (w.setCell ⟨db, 2, none⟩ (.bool d2)) := by
  have hst : Step [db] w (w.setCell ⟨db, 2, none⟩ (.bool d2)) := (Step.refl [db] w).setCell (.inl (by simp)) 2 _
  obtain ⟨h1, h2, h3, h4, h5, h6, h7, h8, h9, h10, h11, h12⟩ := h
  exact ⟨⟨h1.set 2 _, owns_step h2 hst (fun k hk hm => by simp at hm; subst hm; exact h7 hk), owns_step h3 hst (fun k hk hm => by simp at hm; subst hm; exact h8 hk), h4, h5, h6, h7, h8, h9, h10, h11, h12⟩, hst⟩

set_option maxHeartbeats 1000000 in
theorem crash_any (base db : Nat) (lv wv : Value) (S : List (List UInt8)) (W : List (Nat × List UInt8)) (d : Bool) (w : World) (h : Dsk w base db lv wv S W d) (f : FuncId) (caps : Array Value) (kp : Nat → Bool) (eg : ∀ args w, (callFunc f args).run Try.prog w = .ok (.enter f args) w)
    (hk : KeepF Try.prog (footD db lv wv) w W.length f caps kp) :
    Calls Try.prog 24 #[.pointer (some ⟨db, 0, none⟩), .func (.func f) #[] caps] w fun e w' => e = .returned (.tuple #[]) ∧ Dsk w' base db lv (.slice none 0 0) (setl kp W S W.length) [] true ∧ Step (footD db lv wv) w w' := by
  have HS := Lib.hid (settle_any base db lv wv S W d w h f caps kp eg hk)
  have he := fun w => eql_func 52 _ _ _ Try.underlying52 f caps w
  clear h hk
  go_enter Try.func24, Try.ntmps24
  go_wp2_with fail
  refine HS.out.mono ?_
  rintro e w1 ⟨rfl, h1, h2⟩
  obtain ⟨g1, g2⟩ := h1.dn true
  have HA := Lib.hid (And.intro g1 (h2.then g2 (fun k hk => .inl (by simp at hk; subst hk; simp [footD]))))
  have c2 : w1.cell? ⟨db, 2, none⟩ = some (.bool d) := h1.blk.cell 2
  have f2 := h1.blk.free 2
  clear h1 h2 g1 g2
  go_wp2_with fail
  go_end0
  exact ⟨rfl, HA.out⟩

theorem setl_no (W : List (Nat × List UInt8)) (S : List (List UInt8)) (k : Nat) : setl (fun _ => false) W S k = S := by
  induction k with
  | zero => rfl
  | succ k ih =>
    unfold setl
    split
    · simpa using ih
    · exact ih

set_option maxHeartbeats 1000000 in
theorem crash_nil (base db : Nat) (lv wv : Value) (S : List (List UInt8)) (W : List (Nat × List UInt8)) (d : Bool) (w : World) (h : Dsk w base db lv wv S W d) :
    Calls Try.prog 24 #[.pointer (some ⟨db, 0, none⟩), .nilFunc] w fun e w' => e = .returned (.tuple #[]) ∧ Dsk w' base db lv (.slice none 0 0) S [] true ∧ Step (footD db lv wv) w w' := by
  have hs0 := settle_any base db lv wv S W d w h 40 #[] (fun _ => false) (fun args w => by rfl) (fun i w' _ _ => no_any i w')
  rw [setl_no] at hs0
  have HS := Lib.hid hs0
  have he := fun w => eql_func_nil 52 _ _ _ Try.underlying52 w
  clear h hs0
  go_enter Try.func24, Try.ntmps24
  go_wp2_with fail
  refine HS.out.mono ?_
  rintro e w1 ⟨rfl, h1, h2⟩
  obtain ⟨g1, g2⟩ := h1.dn true
  have HA := Lib.hid (And.intro g1 (h2.then g2 (fun k hk => .inl (by simp at hk; subst hk; simp [footD]))))
  have c2 : w1.cell? ⟨db, 2, none⟩ = some (.bool d) := h1.blk.cell 2
  have f2 := h1.blk.free 2
  clear h1 h2 g1 g2
  go_wp2_with fail
  go_end0
  exact ⟨rfl, HA.out⟩
end Go.Proofs.Ytdmnhkmpfnhmdaa
end

section
namespace Go.Proofs.Ytdmnhkmpfnhmdaa
set_option linter.unusedVariables false
open Go.RowKit

theorem flatS_one (S : List (List UInt8)) : ∀ u ∈ flatS S, u.oneCell' = true := by
  intro u hu
  simp only [flatS, List.mem_flatMap] at hu
  obtain ⟨s, _, hs⟩ := hu
  exact byteVals_cell _ u hs
theorem flatW_one (W : List (Nat × List UInt8)) : ∀ u ∈ flatW W, u.oneCell' = true := by
  intro u hu
  simp only [flatW, List.mem_flatMap] at hu
  obtain ⟨s, _, hs⟩ := hu
  rcases List.mem_cons.1 hs with rfl | hs
  · rfl
  · exact byteVals_cell _ u hs
/-- the cells of an own row, in later worlds -/
theorem owns_read {w w' : World} {base e size n cap : Nat} {x : Addr} {xs : List Value} (h : w.ownsRow base e size (.slice (some x) n cap) n xs) (hs : Step [] w w') : ∀ j u, xs[j]? = some u → w'.cell? (x.add j) = some u := by
  have h2 := owns_step h hs (by simp)
  have hx : x = ⟨x.block, 0, none⟩ := by
    rcases h.2 with ⟨e1, _⟩ | ⟨g, c, cur, e1, _⟩
    · cases e1
    · simp only [Value.slice.injEq, Option.some.injEq] at e1
      rw [e1.1]
  rw [hx] at h2
  intro j u hu
  rw [hx, Addr.add_mid, Nat.zero_add]
  have hj : j < n * size := by
    rw [← h.1]
    rcases Nat.lt_or_ge j xs.length with h | h
    · exact h
    · rw [List.getElem?_eq_none h] at hu
      cases hu
  rw [World.ownsRow.cellAt h2 j hj]
  exact hu
theorem owns_shape {w : World} {base e size n : Nat} {v : Value} {xs : List Value} (h : w.ownsRow base e size v n xs) : ∃ ao cap, v = .slice ao n cap ∧ (ao = none → n = 0 ∧ cap = 0) := by
  rcases h.2 with ⟨e1, e2⟩ | ⟨g, c, cur, e1, -⟩
  · exact ⟨none, 0, by rw [e1, e2], fun _ => ⟨e2, rfl⟩⟩
  · exact ⟨_, c, e1, fun h => by cases h⟩

set_option maxRecDepth 20000 in
set_option maxHeartbeats 2000000 in
theorem copy_any (base db : Nat) (lv wv : Value) (S : List (List UInt8)) (W : List (Nat × List UInt8)) (d : Bool) (w : World) (h : Dsk w base db lv wv S W d) :
    Calls Try.prog 13 #[.pointer (some ⟨db, 0, none⟩)] w fun e w' => ∃ db2 lv2 wv2, e = .returned (.pointer (some ⟨db2, 0, none⟩)) ∧ Dsk w' w.heap.size db2 lv2 wv2 S W d ∧ Step [] w w' := by
  obtain ⟨la, lcap, rfl, hl0⟩ := owns_shape h.own1
  obtain ⟨wa, wcap, rfl, hw0⟩ := owns_shape h.own2
  have c0 : ∀ W', Step [] w W' → W'.cell? ⟨db, 0, none⟩ = some (.slice la S.length lcap) ∧ W'.cell? ⟨db, 1, none⟩ = some (.slice wa W.length wcap) ∧ W'.cell? ⟨db, 2, none⟩ = some (.bool d) := fun W' hs => by
    have hb := h.blk.step hs (by simp)
    exact ⟨hb.cell 0, hb.cell 1, hb.cell 2⟩
  have HK := Lib.hid c0
  have h1 := fun W' (hs : Step [] w W') => (clone_S la S.length lcap (flatS S) W' hl0 h.own1.1 (by have := h.few; omega) (flatS_one S) (fun w' x hx hs2 => by subst hx; exact owns_read h.own1 (hs.then hs2 (by simp)))).mono (R' := fun e w' => ∃ a c, e = .returned (.slice a S.length c) ∧ w'.ownsRow w.heap.size 72 64 (.slice a S.length c) S.length (flatS S) ∧ Step [] w w' ∧ Step [] W' w' ∧ ∀ k, k ∈ foot (.slice a S.length c) → W'.heap.size ≤ k) (by
      rintro e w' ⟨v, rfl, ho, hs3⟩
      obtain ⟨a, c, rfl, -⟩ := owns_shape ho
      exact ⟨a, c, rfl, owns_low ho hs.size, hs.then hs3 (by simp), hs3, owns_base ho⟩)
  have h2 := fun W' (hs : Step [] w W') => (clone_W wa W.length wcap (flatW W) W' hw0 h.own2.1 (by have := h.few2; omega) (flatW_one W) (fun w' x hx hs2 => by subst hx; exact owns_read h.own2 (hs.then hs2 (by simp)))).mono (R' := fun e w' => ∃ a c, e = .returned (.slice a W.length c) ∧ w'.ownsRow w.heap.size 75 65 (.slice a W.length c) W.length (flatW W) ∧ Step [] w w' ∧ Step [] W' w' ∧ ∀ k, k ∈ foot (.slice a W.length c) → W'.heap.size ≤ k) (by
      rintro e w' ⟨v, rfl, ho, hs3⟩
      obtain ⟨a, c, rfl, -⟩ := owns_shape ho
      exact ⟨a, c, rfl, owns_low ho hs.size, hs.then hs3 (by simp), hs3, owns_base ho⟩)
  have H1 := Lib.hid h1
  have H2 := Lib.hid h2
  have HD := Lib.hid h
  clear h c0 h1 h2 hl0 hw0
  go_enter Try.func13, Try.ntmps13
  go_wp2_with fail
  go_region_held (fun w' => w'.cell? ⟨db, 0, none⟩ = some (.slice la S.length lcap) ∧ w'.cell? ⟨db, 1, none⟩ = some (.slice wa W.length wcap) ∧ w'.cell? ⟨db, 2, none⟩ = some (.bool d))
    (first | exact HK.out _ (Step.refl [] w).drew | exact HK.out _ hs8 | exact HK.out _ hs7 | exact HK.out _ (hs8.alloc _) | exact HK.out _ (hs7.alloc _))
    (first
      | (go_at_call 32; refine (H1.out _ (by first | exact (Step.refl [] w).drew | exact hs8)).mono ?_; rintro e7 w7 ⟨a7, k7, rfl, ho7, hs7, ht7, hb7⟩)
      | (go_at_call 33; refine (H2.out _ (by first | exact (Step.refl [] w).drew | exact hs7)).mono ?_; rintro e8 w8 ⟨a8, k8, rfl, ho8, hs8, ht8, hb8⟩))
  have hq := HD.out
  have ho7' := owns_step ho7 ht8 (by simp)
  have hst : Step [] w8 (w8.alloc (.cells #[.slice a7 S.length k7, .slice a8 W.length k8, .bool d] 63)) := (Step.refl [] w8).alloc _
  have hl7 := owns_live ho7'
  have hl8 := owns_live ho8
  have h7b := owns_live ho7
  have hdsk : Dsk (w8.alloc (.cells #[.slice a7 S.length k7, .slice a8 W.length k8, .bool d] 63)) w.heap.size w8.heap.size (.slice a7 S.length k7) (.slice a8 W.length k8) S W d :=
    ⟨Blk.new _ _ _, owns_step ho7' hst (by simp), owns_step ho8 hst (by simp), hq.len1, hq.len2, hs8.size, fun hm => by have := hl7 _ hm; omega, fun hm => by have := hl8 _ hm; omega, fun k h1 h2 => by have := hb8 k h2; have := h7b k h1; omega, hq.some1, hq.few, hq.few2⟩
  have HA := Lib.hid (And.intro hdsk (hs8.alloc (.cells #[.slice a7 S.length k7, .slice a8 W.length k8, .bool d] 63)))
  clear hq ho7' hst hl7 hl8 h7b hdsk
  go_wp2_with fail
  go_ret
  exact ⟨_, _, _, rfl, HA.out⟩
end Go.Proofs.Ytdmnhkmpfnhmdaa
end

section
namespace Go.Proofs.Ytdmnhkmpfnhmdaa
set_option linter.unusedVariables false
open Go.RowKit

/-- a sector is loaded, and stored, at once -/
theorem exec_load_s (a : Act) (dst : Option Tmp) (x : Operand) (ty : TypeId) (pos : String) (after : Array Edge) (guard : Option (Nat × Bool)) :
    execOp a.eval { dst, op := .load 72 x, type := ty, pos, after, guard } = (do pure (.value (← loadBig 72 (a.eval x)))) := rfl
theorem Try.load_s (w : World) (b o : Nat) : (loadBig 72 (.pointer (some ⟨b, o, none⟩))).run Try.prog w = match rowC w b o 64 with
      | some cs => .ok (.agg cs.toArray) w
      | none => (loadBig0 72 (.pointer (some ⟨b, o, none⟩))).run Try.prog w :=
  run_loadBig 72 64 _ Try.underlying72 rfl (by kernel_rfl) w b o
theorem exec_store_s (a : Act) (dst : Option Tmp) (x y : Operand) (ty : TypeId) (pos : String) (after : Array Edge) (guard : Option (Nat × Bool)) :
    execOp a.eval { dst, op := .store 72 x y, type := ty, pos, after, guard } = (do storeBig 72 (a.eval x) (a.eval y); pure .skip) := rfl
theorem Try.store_s (w : World) (b o : Nat) (l : List Value) (ht : w.there b o 64) (hl : l.length = 64) (h1 : l.all (·.oneCell') = true) : (storeBig 72 (.pointer (some ⟨b, o, none⟩)) (.agg l.toArray)).run Try.prog w = .ok () (w.setCells b o l) :=
  run_storeBig 72 64 (by kernel_rfl) w b o l ht hl h1
attribute [local go_sem ↓] exec_load_w exec_load_s exec_store_s
attribute [local go_sem] Try.load_w row_drew Try.load_s Try.store_s

/-- a piece of the sectors -/
def cutS (S : List (List UInt8)) (f n : Nat) : List (List UInt8) := (S.drop f).take n
theorem cutS_len {S : List (List UInt8)} {f n : Nat} (h : f + n ≤ S.length) : (cutS S f n).length = n := by
  simp [cutS]
  omega
theorem cutS_in (S : List (List UInt8)) (f n a : Nat) (b : List UInt8) (h1 : f ≤ a) (h2 : a < f + n) : cutS (S.set a b) f n = (cutS S f n).set (a - f) b := by
  unfold cutS
  apply List.ext_getElem?
  intro j
  simp only [List.getElem?_take, List.getElem?_drop, List.getElem?_set, List.length_take, List.length_drop]
  by_cases hj : j < n
  · rw [if_pos hj]
    by_cases he : a = f + j
    · have he2 : a - f = j := by omega
      rw [if_pos he, if_pos he2]
      by_cases hl : a < S.length
      · rw [if_pos hl, if_pos (by omega)]
      · rw [if_neg hl, if_neg (by omega)]
    · rw [if_neg he, if_neg (by omega), if_pos hj]
  · rw [if_neg hj, if_neg (by omega), if_neg hj]
theorem cutS_out (S : List (List UInt8)) (f n a : Nat) (b : List UInt8) (h : a < f ∨ f + n ≤ a) : cutS (S.set a b) f n = cutS S f n := by
  unfold cutS
  apply List.ext_getElem?
  intro j
  simp only [List.getElem?_take, List.getElem?_drop, List.getElem?_set]
  by_cases hj : j < n
  · rw [if_pos hj, if_pos hj, if_neg (by omega)]
  · rw [if_neg hj, if_neg hj]
theorem cutS_mem {S : List (List UInt8)} {f n : Nat} {s : List UInt8} (h : s ∈ cutS S f n) : s ∈ S := List.mem_of_mem_drop (List.mem_of_mem_take h)

theorem flatS_get (S : List (List UInt8)) (k j : Nat) (hS : ∀ y ∈ S, y.length = 64) (hk : k < S.length) (hj : j < 64) : (flatS S)[k * 64 + j]? = (secB (S[k]))[j]? := by
  have he := flatS_cut S k hk
  have hl : (flatS (S.take k)).length = k * 64 := by
    rw [flatS_len _ (fun s h => hS s (List.mem_of_mem_take h)), List.length_take]
    congr 1
    omega
  have hwl : (secB (S[k])).length = 64 := by
    simp [secB, hS _ (List.getElem_mem hk)]
  rw [he, List.append_assoc, List.getElem?_append_right (by omega), hl, Nat.add_sub_cancel_left, List.getElem?_append_left (by omega)]
theorem flatS_drop (S : List (List UInt8)) (hS : ∀ y ∈ S, y.length = 64) (k : Nat) (hk : k ≤ S.length) : (flatS S).drop (k * 64) = flatS (S.drop k) := by
  have hl : (flatS (S.take k)).length = k * 64 := by
    rw [flatS_len _ (fun s h => hS s (List.mem_of_mem_take h)), List.length_take]
    congr 1
    omega
  have he : flatS S = flatS (S.take k) ++ flatS (S.drop k) := by
    conv => lhs; rw [← List.take_append_drop k S]
    simp only [flatS, List.flatMap_append]
  rw [he, ← hl, List.drop_left]
theorem flatS_take (S : List (List UInt8)) (hS : ∀ y ∈ S, y.length = 64) (k : Nat) (hk : k ≤ S.length) : (flatS S).take (k * 64) = flatS (S.take k) := by
  have hl : (flatS (S.take k)).length = k * 64 := by
    rw [flatS_len _ (fun s h => hS s (List.mem_of_mem_take h)), List.length_take]
    congr 1
    omega
  have he : flatS S = flatS (S.take k) ++ flatS (S.drop k) := by
    conv => lhs; rw [← List.take_append_drop k S]
    simp only [flatS, List.flatMap_append]
  rw [he, ← hl, List.take_left]
theorem flatS_piece (S : List (List UInt8)) (hS : ∀ y ∈ S, y.length = 64) (f n : Nat) (h : f + n ≤ S.length) : flatS (cutS S f n) = ((flatS S).drop (f * 64)).take (n * 64) := by
  rw [flatS_drop S hS f (by omega), flatS_take (S.drop f) (fun y hy => hS y (List.mem_of_mem_drop hy)) n (by simp; omega)]
  rfl

/-- what is read: the sectors with all that waits written -/
def readS (W : List (Nat × List UInt8)) (S : List (List UInt8)) (f n : Nat) : List (List UInt8) := cutS (syncS W S) f n

theorem wrap_id (x : Int) (h1 : -9223372036854775808 ≤ x) (h2 : x ≤ 9223372036854775807) : IntKind.i64.wrap x = x := by
  rw [IntKind.wrap_i64]
  omega
theorem setl_64 (kp : Nat → Bool) (W : List (Nat × List UInt8)) (S : List (List UInt8)) (hS : ∀ s ∈ S, s.length = 64) (hW : ∀ y ∈ W, y.2.length = 64) (k : Nat) : ∀ s ∈ setl kp W S k, s.length = 64 := by
  induction k with
  | zero => exact hS
  | succ k ih =>
    unfold setl
    split
    · rename_i x hx
      split
      · intro s hs
        rcases List.mem_or_eq_of_mem_set hs with h | rfl
        · exact ih s h
        · exact hW x (List.mem_of_getElem? hx)
      · exact ih
    · exact ih
set_option maxRecDepth 20000 in
set_option maxHeartbeats 2000000 in
theorem read_ok (base db : Nat) (lv wv : Value) (S : List (List UInt8)) (W : List (Nat × List UInt8)) (f n : Nat) (w : World) (h : Dsk w base db lv wv S W false) (hn0 : 0 < n) (hfn : f + n ≤ S.length) :
    Calls Try.prog 16 #[.pointer (some ⟨db, 0, none⟩), .int .i64 (f : Int), .int .i64 (n : Int)] w fun e w' => ∃ v, e = .returned (.tuple #[v, .int .i64 0]) ∧ w'.ownsRow w.heap.size 5 1 v (n * 64) (flatS (readS W S f n)) ∧ Step [] w w' := by
  have HDn := Lib.hid (down_any base db lv wv S W false w h)
  obtain ⟨lb, lcap, hlv, -, -, hcap, hcap2⟩ := owns_form h.own1 h.some1
  subst hlv
  obtain ⟨wa, wcap, rfl, hw0⟩ := owns_shape h.own2
  have c0 : w.cell? ⟨db, 0, none⟩ = some (.slice (some ⟨lb, 0, none⟩) S.length lcap) := h.blk.cell 0
  have hfew := h.few
  have hfew2 := h.few2
  have hci : (S.length : Int) ≤ (lcap : Int) := by omega
  have hc2 : (lcap : Int) ≤ 9223372036854775807 := by unfold maxLen at hcap2; omega
  clear hcap2
  have HD := Lib.hid h
  clear h
  obtain ⟨j0, hj0, hjz, hj1, hj2⟩ := info_parts Try.infoW
  have hzv : ∀ W, (zeroValue 75).run Try.prog W = .ok (.agg C0) W := fun W => by
    simp [zeroValue, typeInfo, hj0, hjz, C0]
  have hC0 : ¬ C0 = #[] := by decide
  clear hj0 hjz hj1 hj2
  have p1 : decide ((f : Int) < 0) = false := by simp
  have p2 : decide ((n : Int) < 0) = false := by simp
  have p3 : decide (S.length < f) = false := by simp; omega
  have e1 : IntKind.i64.wrap ((S.length : Int) - (f : Int)) = (S.length : Int) - (f : Int) := wrap_id _ (by omega) (by omega)
  have p4 : decide ((S.length : Int) - (f : Int) < (n : Int)) = false := by simp; omega
  have e2 : IntKind.i64.wrap ((f : Int) + (n : Int)) = (f : Int) + (n : Int) := wrap_id _ (by omega) (by omega)
  go_enter Try.func16, Try.ntmps16
  go_wp2_with fail
  refine HDn.out.mono ?_
  rintro e w1 ⟨rfl, rfl⟩
  go_wp2_with fail
  refine (clone_S (some ⟨lb, f * 64, none⟩) n (lcap - f) (flatS (cutS S f n)) w (fun h => by cases h) (by rw [flatS_len _ (fun s h => HD.out.len1 s (cutS_mem h)), cutS_len hfn]) (by omega) (flatS_one _) (fun w' x hx hs j u hu => by
    cases hx
    rw [flatS_piece S HD.out.len1 f n hfn] at hu
    have hj : j < n * 64 := by
      rcases Nat.lt_or_ge j (n * 64) with h | h
      · exact h
      · rw [List.getElem?_take, if_neg (by omega)] at hu
        cases hu
    rw [List.getElem?_take, if_pos hj, List.getElem?_drop] at hu
    have := owns_read HD.out.own1 hs (f * 64 + j) u hu
    rw [Addr.add_mid] at this ⊢
    rw [Nat.zero_add] at this
    exact this)).mono ?_
  rintro e w1 ⟨v1, rfl, ho1, hs1⟩
  obtain ⟨g, gc, rfl, hg1, hg2, -, -⟩ := owns_form ho1 hn0
  have d1 : w1.cell? ⟨db, 1, none⟩ = some (.slice wa W.length wcap) := (HD.out.blk.step hs1 (by simp)).cell 1
  have HO1 := Lib.hid ho1
  have HS1 := Lib.hid hs1
  clear ho1 hs1
  obtain ⟨m, hm⟩ : ∃ m, W.length = m := ⟨_, rfl⟩
  have HM := Lib.hid hm
  rw [hm] at d1
  clear hm
  go_wp2_with fail
  go_loopw [58] (fun j wr => ∃ k : Nat, k ≤ m ∧ j = .int .i64 k ∧ wr.ownsRow w.heap.size 72 64 (.slice (some ⟨g, 0, none⟩) n gc) n (flatS (cutS (setl (fun _ => true) W S k) f n)) ∧ Step [] w wr) (fun j _ => m - (intOf j).toNat)
  case atStart => exact ⟨0, Nat.zero_le _, rfl, HO1.out, HS1.out⟩
  case round =>
    obtain ⟨k, hkm, rfl, hO, hS⟩ := hrel
    have HO := Lib.hid hO
    have HSR := Lib.hid hS
    clear hO hS
    by_cases hk : k < m
    · have hkW : k < W.length := by have := HM.out; omega
      obtain ⟨wb, hwb⟩ : ∃ wb, wa = some ⟨wb, 0, none⟩ := by
        rcases HD.out.own2.2 with ⟨e1, e2⟩ | ⟨g, c, cur, e1, -⟩
        · omega
        · cases e1
          exact ⟨g, rfl⟩
      subst hwb
      obtain ⟨x, hx⟩ : ∃ x, W[k]? = some x := ⟨_, List.getElem?_eq_getElem hkW⟩
      have hxm : x ∈ W := List.mem_of_getElem? hx
      obtain ⟨hx1, hx2⟩ := HD.out.len2 x hxm
      obtain ⟨C, hC⟩ : ∃ C : Array Value, C.toList = waitB x := ⟨(waitB x).toArray, by simp⟩
      have hr : rowC wr wb (k * 65) 65 = some C.toList := by rw [hC]; exact row_of_wait (owns_step HD.out.own2 HSR.out (by simp)) (fun y hy => (HD.out.len2 y hy).2) k x hx
      have hCs : C.size = 65 := by
        rw [← Array.length_toList, hC]
        simp [waitB, secB, hx2]
      have hCo : ∀ v ∈ C.toList, v.oneCell' = true := by
        rw [hC]
        intro v hv
        rcases List.mem_cons.1 hv with rfl | hv
        · rfl
        · exact byteVals_cell _ v hv
      obtain ⟨W1, hst1, hblk1, hs1⟩ := store_whole (P := Try.prog) wr C0 C 75 (by rw [hCs]; rfl) hCo
      have d1 : W1.cell? ⟨wr.heap.size, 0, none⟩ = some (.int .i64 (x.1 : Int)) := by
        rw [hblk1.cell 0, ← Array.getElem?_toList, hC]
        rfl
      have d2 : rowC W1 wr.heap.size 1 64 = some (secB x.2) := by
        have h := row_of_range W1 wr.heap.size (secB x.2) 1 (fun j v hv => by
          rw [hblk1.cell, ← Array.getElem?_toList, hC, Nat.add_comm, waitB, List.getElem?_cons_succ]
          exact hv)
        rwa [show (secB x.2).length = 64 by simp [secB, hx2]] at h
      have HBk1 := Lib.hid hblk1
      have HS1 := Lib.hid hs1
      have hO1 := owns_step HO.out hs1 (by simp)
      have HO1 := Lib.hid hO1
      have HX := Lib.hid hx
      have HX1 := Lib.hid hx1
      have HX2 := Lib.hid hx2
      have HSW := Lib.hid (HSR.out.then hs1 (by simp))
      clear hblk1 hs1 hC hx hx1 hx2 hCo hO1
      have hkk : (k : Int) < (m : Int) := by omega
      have hse : setl (fun _ => true) W S (k + 1) = (setl (fun _ => true) W S k).set x.1 x.2 := by
        rw [setl_next _ _ _ _ _ HX.out]
        rfl
      have HSE := Lib.hid hse
      clear hse
      by_cases q1 : f ≤ x.1
      · by_cases q2 : x.1 < f + n
        · obtain ⟨i, hi⟩ : ∃ i, x.1 - f = i := ⟨_, rfl⟩
          have e3 : IntKind.i64.wrap ((x.1 : Int) - (f : Int)) = (i : Int) := by rw [wrap_id _ (by omega) (by omega)]; omega
          have hin : (i : Int) < (n : Int) := by omega
          have p5 : decide (f ≤ x.1) = true := by simpa using q1
          have p6 : decide ((x.1 : Int) < (f : Int) + (n : Int)) = true := by simp; omega
          have a2 : (secB x.2).length = 64 := by simp [secB, HX2.out]
          have a4 : (secB x.2).all (·.oneCell') = true := List.all_eq_true.2 (byteVals_cell _)
          have e4 : W1.there g (i * 64) 64 := fun j hj => by
            refine ⟨?_, World.ownsRow.frozenAt HO1.out _⟩
            have hj2 : i * 64 + j < n * 64 := by omega
            rw [World.ownsRow.cellAt HO1.out _ hj2, List.getElem?_eq_getElem (by rw [HO1.out.1]; exact hj2)]
            rfl
          have hfin : (W1.setCells g (i * 64) (secB x.2)).ownsRow w.heap.size 72 64 (.slice (some ⟨g, 0, none⟩) n gc) n (flatS (cutS (setl (fun _ => true) W S (k + 1)) f n)) := by
            rw [HSE.out, cutS_in _ _ _ _ _ q1 q2, hi]
            have hlS : f + n ≤ (setl (fun _ => true) W S k).length := by rw [setl_len]; exact hfn
            have h64 : ∀ s ∈ cutS (setl (fun _ => true) W S k) f n, s.length = 64 := fun s hs => setl_64 _ _ _ HD.out.len1 (fun y hy => (HD.out.len2 y hy).2) k s (cutS_mem hs)
            rw [← flatS_set _ _ _ (by rw [cutS_len hlS]; omega) h64 HX2.out]
            exact owns_setCells _ _ _ _ HO1.out
          have HF := Lib.hid (And.intro hfin (HSW.out.setCells (b := g) (.inr hg1) (secB x.2) (i * 64)))
          clear hfin hi
          go_wp2_with fail
          go_roundw
          case rel => exact ⟨k + 1, by omega, by go_num, HF.out⟩
          case measure => simp [intOf]; omega
        · have p5 : decide (f ≤ x.1) = true := by simpa using q1
          have p6 : decide ((x.1 : Int) < (f : Int) + (n : Int)) = false := by simp; omega
          have hfin : W1.ownsRow w.heap.size 72 64 (.slice (some ⟨g, 0, none⟩) n gc) n (flatS (cutS (setl (fun _ => true) W S (k + 1)) f n)) := by
            rw [HSE.out, cutS_out _ _ _ _ _ (.inr (by omega))]
            exact HO1.out
          have HF := Lib.hid hfin
          clear hfin
          go_wp2_with fail
          go_roundw
          case rel => exact ⟨k + 1, by omega, by go_num, HF.out, HSW.out⟩
          case measure => simp [intOf]; omega
      · have p5 : decide (f ≤ x.1) = false := by simpa using q1
        have hfin : W1.ownsRow w.heap.size 72 64 (.slice (some ⟨g, 0, none⟩) n gc) n (flatS (cutS (setl (fun _ => true) W S (k + 1)) f n)) := by
          rw [HSE.out, cutS_out _ _ _ _ _ (.inl (by omega))]
          exact HO1.out
        have HF := Lib.hid hfin
        clear hfin
        go_wp2_with fail
        go_roundw
        case rel => exact ⟨k + 1, by omega, by go_num, HF.out, HSW.out⟩
        case measure => simp [intOf]; omega
    · have hke : k = m := by omega
      have hL : setl (fun _ => true) W S k = syncS W S := by
        unfold syncS
        rw [hke, HM.out]
      have hO9 := HO.out
      rw [hL] at hO9
      have HO9 := Lib.hid hO9
      clear hL hO9
      subst hke
      obtain ⟨L, hLe⟩ : ∃ L, cutS (syncS W S) f n = L := ⟨_, rfl⟩
      have hL64 : ∀ s ∈ L, s.length = 64 := fun s hs => by
        rw [← hLe] at hs
        exact setl_64 _ _ _ HD.out.len1 (fun y hy => (HD.out.len2 y hy).2) _ s (cutS_mem hs)
      have hLn : L.length = n := by
        rw [← hLe]
        exact cutS_len (by unfold syncS; rw [setl_len]; exact hfn)
      have HLE := Lib.hid hLe
      have HL64 := Lib.hid hL64
      have HLn := Lib.hid hLn
      have hO8 := HO9.out
      rw [hLe] at hO8
      have HO8 := Lib.hid hO8
      clear hLe hL64 hLn hO8 HO9 HO
      go_wp2_with fail
      go_loopw [85, 11] (fun j v ws => ∃ q : Nat, q ≤ n ∧ j = .int .i64 q ∧ ws.ownsRow w.heap.size 5 1 v (q * 64) (flatS (L.take q)) ∧ ws.ownsRow w.heap.size 72 64 (.slice (some ⟨g, 0, none⟩) n gc) n (flatS L) ∧ Step [] w ws ∧ g ∉ foot v) (fun j _ _ => n - (intOf j).toNat)
      case atStart => exact ⟨0, Nat.zero_le _, rfl, by rw [Nat.zero_mul]; exact World.ownsRow_nil _ _ _ _, HO8.out, HSR.out, by simp [foot, Value.ownBlock]⟩
      case round =>
        obtain ⟨q, hqn, rfl, hR, hO, hS, hgf⟩ := hrel
        obtain ⟨ia, hia, hia0, hia1, hia2⟩ := info_parts Try.infoB
        by_cases hq : q < n
        · have hqL : q < L.length := by have := HLn.out; omega
          have hqq : (q : Int) < (n : Int) := by omega
          have hq0 : (0 : Int) ≤ (q : Int) := by omega
          have hcells : ∀ j u, (secB (L[q]))[j]? = some u → wr.cell? ⟨g, q * 64 + j, none⟩ = some u := fun j u hu => by
            have hj : j < 64 := by
              rcases Nat.lt_or_ge j 64 with h | h
              · exact h
              · rw [List.getElem?_eq_none (by rw [secB, List.length_map, HL64.out _ (List.getElem_mem hqL)]; exact h)] at hu
                cases hu
            rw [World.ownsRow.cellAt hO _ (by omega), flatS_get L q j HL64.out hqL hj]
            exact hu
          have hnext : flatS (L.take q) ++ secB (L[q]) = flatS (L.take (q + 1)) := by
            rw [List.take_add_one, List.getElem?_eq_getElem hqL]
            simp only [flatS, List.flatMap_append, Option.toList_some, List.flatMap_cons, List.flatMap_nil, List.append_nil]
          have hsl : (secB (L[q])).length = 64 * 1 := by rw [secB, List.length_map, HL64.out _ (List.getElem_mem hqL)]
          have hbs : w.heap.size ≤ wr.heap.size := hS.size
          have HR := Lib.hid hR
          have HOr := Lib.hid hO
          have HSr := Lib.hid hS
          have HGF := Lib.hid hgf
          have HC := Lib.hid hcells
          have HNX := Lib.hid hnext
          have HSL := Lib.hid hsl
          clear hR hO hS hgf hcells hnext hsl
          go_wp2_with (at_builtin; refine wpList_append_sep rfl (.tmp 88) (.tmp 92) 32 rfl w.heap.size 5 ia (.int .u8 0) 1 1 Try.underlying32 hia hia0 hia1 hia2 rfl (by decide) _ (q * 64) _ rfl HR.out (some ⟨g, q * 64, none⟩) 64 64 (secB (L[q])) rfl (by intro h; cases h) HSL.out (by intro a ha j u hu; cases ha; rw [Addr.add_mid]; exact HC.out j u hu) (byteVals_cell _) (by unfold maxLen; omega) (by omega) hbs ?_)
          intro v2 w2 hown2 hg2 hf2
          have hs2 : Step (foot u11) wr w2 := (Step.refl _ _).grown hg2 (fun k hk => .inl (mem_foot.2 hk))
          have hO2 := owns_step HOr.out hs2 (fun k hk hk2 => by
            have : k = g := by simpa [foot, Value.ownBlock, eq_comm] using hk
            subst this
            exact HGF.out hk2)
          have hst2 : Step [] w w2 := HSr.out.then hs2 (fun k hk => .inr (owns_base HR.out k hk))
          have hgf2 : g ∉ foot v2 := fun hk => by
            rcases hf2 g hk with h | h
            · exact HGF.out h
            · have := owns_live HOr.out g (by simp [foot, Value.ownBlock])
              omega
          rw [HNX.out] at hown2
          have HA := Lib.hid (And.intro hown2 (And.intro hO2 (And.intro hst2 hgf2)))
          clear hown2 hO2 hst2 hgf2 hs2 hg2 hf2
          go_wp2_with fail
          go_roundw
          case rel => exact ⟨q + 1, by omega, by go_num, by rw [show (q + 1) * 64 = q * 64 + 64 by omega]; exact HA.out⟩
          case measure => simp [intOf]; omega
        · have hqe : q = n := by omega
          subst hqe
          have hR2 := hR
          rw [List.take_of_length_le (by rw [HLn.out]; exact Nat.le_refl _)] at hR2
          have HR2 := Lib.hid hR2
          have HSr := Lib.hid hS
          clear hR hO hS hgf hR2
          go_wp2_with fail
          go_ret2
          exact ⟨_, rfl, by unfold readS; rw [HLE.out]; exact HR2.out, HSr.out⟩
end Go.Proofs.Ytdmnhkmpfnhmdaa
end
