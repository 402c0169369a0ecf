/- disk: the walk of Write. -/
import Derived.Test.YtjemdcdcjohjpaaDiskA
import Derived.Test.YtjemdcdcjohjpaaBigCells
import Derived.Deep.RegionLaw
import Derived.Deep.RegionLawGrows
import Derived.Deep.DrawnRows
import Derived.Deep.AppendLies
import Derived.Maps.AppendAt
namespace Go.Proofs.Ytjemdcdcjohjpaa
set_option linter.unusedVariables false
open Go.RowKit
attribute [local go_sem ↓] Go.wp_at_zero Go.wp_at_succ

/-- a sector's bytes: what is written, and zeros -/
def pad (l : List UInt8) : List UInt8 := l ++ List.replicate (64 - l.length) 0
theorem pad_len {l : List UInt8} (h : l.length ≤ 64) : (pad l).length = 64 := by
  unfold pad
  rw [List.length_append, List.length_replicate]
  omega

theorem Step.setCells {F : List Nat} {w w' : World} (h : Step F w w') {b : Nat} (hb : b ∈ F ∨ w.heap.size ≤ b) : ∀ (vs : List Value) (o : Nat), Step F w (w'.setCells b o vs) := by
  intro vs
  induction vs generalizing w' with
  | nil => intro o; exact h
  | cons v r ih => intro o; exact ih (h.setCell hb o v) (o + 1)
theorem setCells_blk {b : Nat} {T : TypeId} : ∀ (vs : List Value) (o : Nat) (w : World) (C : Array Value), Blk w b C T → o + vs.length ≤ C.size → ∃ C', Blk (w.setCells b o vs) b C' T ∧ C'.size = C.size ∧ ∀ j, C'[j]? = if o ≤ j ∧ j < o + vs.length then vs[j - o]? else C[j]? := by
  intro vs
  induction vs with
  | nil =>
    intro o w C hb _
    exact ⟨C, hb, rfl, fun j => by rw [if_neg (by simp)]⟩
  | cons v r ih =>
    intro o w C hb hl
    simp only [List.length_cons] at hl
    obtain ⟨C', h1, h2, h3⟩ := ih (o + 1) (w.setCell ⟨b, o, none⟩ v) (C.setIfInBounds o v) (hb.set o v) (by simp; omega)
    refine ⟨C', h1, by simpa using h2, fun j => ?_⟩
    rw [h3 j]
    simp only [List.length_cons]
    by_cases hj : j = o
    · subst hj
      rw [if_neg (by omega), if_pos (by omega)]
      simp [show j < C.size by omega]
    · by_cases hj2 : o + 1 ≤ j ∧ j < o + 1 + r.length
      · rw [if_pos hj2, if_pos (by omega), show j - o = (j - (o + 1)) + 1 by omega]
        simp
      · rw [if_neg hj2, if_neg (by omega)]
        simp [Ne.symm hj]
theorem Blk.there {w : World} {b : Nat} {C : Array Value} {T : TypeId} (h : Blk w b C T) {o n : Nat} (hn : o + n ≤ C.size) : w.there b o n := fun j hj => by
  refine ⟨?_, h.free (o + j)⟩
  rw [h.cell (o + j), Array.getElem?_eq_getElem (by omega)]
  rfl
/-- a new variable that is stored into as a whole -/
theorem store_whole {P : Program} (w : World) (C0 C1 : Array Value) (T : TypeId) (hsz : C1.size = C0.size) (h1 : ∀ v ∈ C1.toList, v.oneCell' = true) :
    ∃ W1, (storeCells ⟨w.heap.size, 0, none⟩ C1.toList).run P (w.alloc (.cells C0 T)) = .ok () W1 ∧ Blk W1 w.heap.size C1 T ∧ Step [] w W1 := by
  have hb := Blk.new w C0 T
  have ht := hb.there (o := 0) (n := C1.size) (by omega)
  have hr := run_storeCells_cells (P := P) w.heap.size 0 C1.toList 0 (w.alloc (.cells C0 T)) (fun j hj => by simpa using (ht j (by simpa using hj)).1) (fun j hj => by simp [hb.free]) h1
  obtain ⟨C', h2, h3, h4⟩ := setCells_blk C1.toList 0 _ C0 hb (by simp; omega)
  have he : C' = C1 := by
    apply Array.ext_getElem?
    intro j
    rw [h4 j]
    by_cases hj : j < C1.size
    · rw [if_pos (by simp; omega)]
      simp
    · rw [if_neg (by simp; omega), Array.getElem?_eq_none (by omega), Array.getElem?_eq_none (by omega)]
  rw [he] at h2
  exact ⟨_, by simpa using hr, h2, ((Step.refl [] w).alloc _).setCells (.inr (Nat.le_refl _)) _ _⟩

theorem foot_slice (a : Option Addr) (n cap : Nat) : ∀ k, k ∈ foot (.slice a n cap) ↔ ∃ off s, a = some ⟨k, off, s⟩ := by
  intro k
  cases a with
  | none => simp [foot, Value.ownBlock]
  | some x =>
    obtain ⟨b, off, s⟩ := x
    simp [foot, Value.ownBlock]
    exact eq_comm

/-- a row of the call's own, or one without room that is only read -/
def RowOr (w : World) (base e size : Nat) (v : Value) (n : Nat) (xs : List Value) : Prop :=
  w.ownsRow base e size v n xs ∨ ∃ ao, v = .slice ao n n ∧ (ao = none → n = 0) ∧ xs.length = n * size ∧ ∀ b, ao = some b → b.block < w.heap.size ∧ ∀ j u, xs[j]? = some u → w.cell? (b.add j) = some u

theorem RowOr.step {F : List Nat} {w w' : World} {base e size n : Nat} {v : Value} {xs : List Value} (h : RowOr w base e size v n xs) (hs : Step F w w') (hn : ∀ k, k ∈ foot v → k ∉ F) : RowOr w' base e size v n xs := by
  rcases h with h | ⟨ao, rfl, h0, hl, hc⟩
  · exact .inl (owns_step h hs hn)
  · refine .inr ⟨ao, rfl, h0, hl, fun b hb => ⟨Nat.lt_of_lt_of_le (hc b hb).1 hs.size, fun j u hu => ?_⟩⟩
    obtain ⟨h1, h2⟩ := hc b hb
    have h3 := h2 j u hu
    have hbl : (b.add j).block = b.block := by cases b; unfold Addr.add; split <;> rfl
    rw [← h3]
    exact World.cell?_of_block (hs.block (b.add j).block (by rw [hbl]; exact h1) (by
      rw [hbl]
      obtain ⟨x, y, z⟩ := b
      exact hn x ((foot_slice _ _ _ x).2 ⟨y, z, hb⟩)))

/-- append at a step of a region that draws -/
theorem step_append_row {P : Program} {ops : Array Oper} {o : Oper} {a : Act} {w : World} {K : Act → World → Prop} {Q : Exit → Act → World → Prop} {E : Prop}
    (hg : o.guard = none) (s x : Operand) (t : TypeId) (hop : o.op = Op.call { callee := Callee.builtin Builtin.append, args := #[s, x], argTypes := #[t, t] })
    (base : Nat) (e : TypeId) (i : TypeInfo) (z : Value) (size bytes : Nat) (h1 : P.underlying t = some (.slice e)) (h2 : P.info? e = some i) (h3 : i.zero = some z) (h4 : i.size = size) (h5 : i.bytes = bytes) (h6 : z.cells.size = size) (h7 : 0 < size)
    (v : Value) (n : Nat) (xs : List Value) (hs : a.eval s = v) (hrow : RowOr w base e size v n xs)
    (ad : Addr) (m c : Nat) (news : List Value) (hx : a.eval x = .slice (some ad) m c) (hm : 0 < m) (hn : news.length = m * size) (hc : ∀ j u, news[j]? = some u → w.cell? (ad.add j) = some u) (h1c : ∀ u ∈ news, u.oneCell' = true)
    (b1 : n + m ≤ maxLen) (b2 : (n + m) * bytes ≤ 140737488355328) (hbase : base ≤ w.heap.size)
    (hK : ∀ g c' w', w'.ownsRow base e size (.slice (some ⟨g, 0, none⟩) (n + m) c') (n + m) (xs ++ news) → Step (foot v) w w' → Fresh w (foot v) (foot (.slice (some ⟨g, 0, none⟩) (n + m) c')) → K (a.put o.dst (.slice (some ⟨g, 0, none⟩) (n + m) c')) w') :
    if Region.wanted o (yielded ops a.tmps) = true then Oper.wp P o a w K Q else E := by
  have key : ∀ v' w', w'.ownsRow base e size v' (n + m) (xs ++ news) → Step (foot v) w w' → Fresh w (foot v) (foot v') → K (a.put o.dst v') w' := by
    intro v' w' hr hs' hf
    obtain ⟨g, cap, rfl, _⟩ := owns_form hr (by omega)
    exact hK _ _ w' hr hs' hf
  rcases hrow with hown | ⟨ao, rfl, h0, hl, hcells⟩
  · have hw : Region.wanted o (yielded ops a.tmps) = true := by simp [Region.wanted, hg]
    rw [if_pos hw]
    obtain ⟨v', w', hr, r2, r3, _, r5⟩ := run_append_own_at (P := P) w base t o.type e i z size bytes h1 h2 h3 h4 h5 h6 h7 v n xs hown ad m c news hn hc h1c b1 b2 hbase
    unfold Oper.wp execOp
    simp only [hop, resolve, invoke, builtin, Sem.run_bind, Sem.run_pure, Result.andThen_ok, List.map_toArray, List.map_cons, List.map_nil, hs, hx, hr]
    refine key v' w' r2 ((Step.refl _ _).grown r3 (fun k hk => .inl (mem_foot.2 hk))) (fun k hk => ?_)
    rcases r5 with r5 | r5
    · exact .inl (by unfold foot; rw [← r5]; exact hk)
    · right
      have := mem_foot.1 hk
      rw [r5] at this
      cases this
      exact Nat.le_refl _
  · refine step_append_grows hg s x t hop e i z size bytes h1 h2 h3 h4 h5 h6 h7 ao n n xs hs (fun h => ⟨h0 h, h0 h⟩) hl (fun b hb => (hcells b hb).2) ad m c news hx hn hc h1c (by omega) b1 b2 ?_
    intro v' w' r2 r3
    exact key v' w' (owns_low r2 hbase) ((Step.refl _ _).grown r3 (fun k hk => by cases hk)) (fun k hk => .inr (owns_base r2 k hk))

/-- the cells of a writing that is nothing yet -/
def C0 : Array Value := (waitB (0, zeroS)).toArray
theorem Try.infoW : (Try.prog.info? 57).map (fun i => (i.zero, i.size, i.bytes)) = some (some (.agg C0), 65, 72) := by kernel_rfl

/-- a writing is loaded at once -/
theorem exec_load_w (a : Act) (dst : Option Tmp) (x : Operand) (ty : TypeId) (pos : String) (after : Array Edge) (guard : Option (Nat × Bool)) :
    execOp a.eval { dst, op := .load 57 x, type := ty, pos, after, guard } = (do pure (.value (← loadBig 57 (a.eval x)))) := rfl
theorem Try.load_w (w : World) (b o : Nat) : (loadBig 57 (.pointer (some ⟨b, o, none⟩))).run Try.prog w = match rowC w b o 65 with
      | some cs => .ok (.agg cs.toArray) w
      | none => (loadBig0 57 (.pointer (some ⟨b, o, none⟩))).run Try.prog w :=
  run_loadBig 57 65 _ Try.underlying57 rfl (by kernel_rfl) w b o
theorem exec_one_w (a : Act) (dst : Option Tmp) (x : Operand) (ty : TypeId) (pos : String) (after : Array Edge) (guard : Option (Nat × Bool)) :
    execOp a.eval { dst, op := .buildSlice 51 1 #[(0, x)], type := ty, pos, after, guard } = (do pure (.value (← oneBig 51 (a.eval x)))) := execOp_oneBig 51 a dst x ty pos after guard
theorem Try.one_w (C : Array Value) (hC : C.size = 65) (w : World) : (oneBig 51 (.agg C)).run Try.prog w = .ok (.slice (some ⟨w.heap.size, 0, none⟩) 1 1) (w.alloc (.cells C 57)) := by
  obtain ⟨j0, hj0, hjz, hj1, hj2⟩ := info_parts Try.infoW
  exact run_oneBig 51 57 65 j0 _ Try.underlying51 hj0 hjz hj1 (by decide) (by decide) C hC w
attribute [local go_sem ↓] exec_load_w exec_one_w
attribute [local go_sem] Try.load_w row_drew Try.one_w

set_option maxRecDepth 20000 in
set_option maxHeartbeats 1000000 in
theorem write_ok (base db : Nat) (lv wv : Value) (S : List (List UInt8)) (W : List (Nat × List UInt8)) (at' : Nat) (a : Option Addr) (cap : Nat) (l : List UInt8) (w : World) (h : Dsk w base db lv wv S W false) (hat : at' < S.length) (hB : Bytes w a l) (hn : a = none → l.length = 0 ∧ cap = 0) (hl : l.length ≤ 64) (hW : W.length < 1000) :
    Calls Try.prog 9 #[.pointer (some ⟨db, 0, none⟩), .int .i64 (at' : Int), .slice a l.length cap] w fun e w' => e = .returned (.int .i64 0) ∧ ∃ wv', Dsk w' base db lv wv' S (W ++ [(at', pad l)]) false ∧ Step (footD db lv wv) w w' ∧ Fresh w (foot wv) (foot wv') := by
  have HDn := Lib.hid (down_any base db lv wv S W false w h)
  obtain ⟨lb, lcap, hlv, -⟩ := owns_form h.own1 h.some1
  subst hlv
  have c0 : w.cell? ⟨db, 0, none⟩ = some (.slice (some ⟨lb, 0, none⟩) S.length lcap) := h.blk.cell 0
  have c1 : w.cell? ⟨db, 1, none⟩ = some wv := h.blk.cell 1
  have hfew := h.few
  have HD := Lib.hid h
  have HB := Lib.hid hB
  have HN := Lib.hid hn
  clear h hn
  obtain ⟨j0, hj0, hjz, hj1, hj2⟩ := info_parts Try.infoW
  have hzv : ∀ W, (zeroValue 57).run Try.prog W = .ok (.agg C0) W := fun W => by
    simp [zeroValue, typeInfo, hj0, hjz, C0]
  have hC0 : ¬ C0 = #[] := by decide
  have HJ := Lib.hid (And.intro hj0 (And.intro hjz (And.intro hj1 hj2)))
  clear hj0 hjz hj1 hj2
  obtain ⟨C1, hC1⟩ : ∃ C1, C0.setIfInBounds 0 (.int .i64 (at' : Int)) = C1 := ⟨_, rfl⟩
  have hC1l : C1.toList = waitB (at', zeroS) := by rw [← hC1]; rfl
  have hC1s : C1.size = 65 := by rw [← hC1]; rfl
  have hC1o : ∀ v ∈ C1.toList, v.oneCell' = true := by
    rw [hC1l]
    intro v hv
    rcases List.mem_cons.1 hv with rfl | hv
    · rfl
    · exact byteVals_cell _ v hv
  obtain ⟨W1, hst1, hblk1, hs1⟩ := store_whole (P := Try.prog) w C0 C1 57 (by rw [hC1s]; rfl) hC1o
  have HBk1 := Lib.hid hblk1
  have HS1 := Lib.hid hs1
  have HC1 := Lib.hid hC1l
  clear hC1l hC1o
  obtain ⟨C2, W2, hcp, hblk2, hs2, hC2⟩ : ∃ C2 W2, (Builtin.copy_ #[30, 30] 3 #[.slice (some ⟨w.heap.size, 1, none⟩) 64 64, .slice a l.length cap]).run Try.prog W1 = .ok (goInt l.length) W2 ∧ Blk W2 w.heap.size C2 57 ∧ Step [] w W2 ∧ C2.toList = waitB (at', pad l) := by
    by_cases hl0 : l.length = 0
    · have : l = [] := List.eq_nil_of_length_eq_zero hl0
      subst this
      refine ⟨C1, W1, ?_, hblk1, hs1, HC1.out⟩
      exact run_copy_none (P := Try.prog) W1 30 30 3 5 _ a 64 64 0 cap Try.underlying30 (by kernel_rfl) rfl
    · obtain ⟨ab, ao, rfl, -, -⟩ := hB 0 (by omega)
      have ht := hblk1.there (o := 1) (n := 64) (by rw [hC1s]; decide)
      have hlm : (l.map byteVal).length = l.length := by simp
      have hr := run_copy_cells (P := Try.prog) W1 30 30 3 5 w.heap.size 1 64 64 ⟨ab, ao, none⟩ l.length cap (l.map byteVal) Try.underlying30 (by kernel_rfl) (by rw [hlm]; exact (Nat.min_eq_left hl).symm)
        ((hB.step hs1 (by simp)).news ⟨ab, ao, none⟩ rfl) (fun j hj => (ht j (by omega)).1) (fun j hj => (ht j (by omega)).2) (byteVals_cell _)
      obtain ⟨C2, k1, k2, k3⟩ := setCells_blk (l.map byteVal) 1 W1 C1 hblk1 (by rw [hlm, hC1s]; omega)
      refine ⟨C2, _, by rw [hr, hlm], k1, hs1.setCells (.inr (Nat.le_refl _)) _ _, ?_⟩
      apply List.ext_getElem?
      intro j
      rw [Array.getElem?_toList, k3 j, hlm, ← Array.getElem?_toList, HC1.out]
      cases j with
      | zero => simp [waitB]
      | succ j =>
        simp only [waitB, List.getElem?_cons_succ, Nat.add_sub_cancel, secB, pad, List.map_append]
        by_cases hj : j < l.length
        · rw [if_pos (by omega), List.getElem?_append_left (by simpa using hj)]
        · rw [if_neg (by omega), List.getElem?_append_right (by simpa using hj), hlm, zero_cells, List.map_replicate, List.getElem?_replicate, List.getElem?_replicate]
          by_cases hj2 : j < 64
          · rw [if_pos hj2, if_pos (by omega)]
            rfl
          · rw [if_neg hj2, if_neg (by omega)]
  have HBk2 := Lib.hid hblk2
  have HS2 := Lib.hid hs2
  have HC2 := Lib.hid hC2
  have hC2s : C2.size = 65 := by
    have h := congrArg List.length hC2
    rw [Array.length_toList] at h
    rw [h]
    simp [waitB, secB, pad_len hl]
  clear hblk1 hs1 hblk2 hs2 hC2
  have p1 : decide ((at' : Int) < 0) = false := by simp
  have p2 : decide ((S.length : Int) ≤ (at' : Int)) = false := by simp; omega
  have p3 : decide ((64 : Int) < (l.length : Int)) = false := by simp; omega
  go_enter Try.func9, Try.ntmps9
  go_wp2_with fail
  refine HDn.out.mono ?_
  rintro e w1 ⟨rfl, rfl⟩
  go_wp2_with fail
  have d1 : W2.cell? ⟨db, 1, none⟩ = some wv := (HS2.out.cell HD.out.blk.lt (by simp)).trans c1
  have d2 : ∀ o, (W2.alloc o).cell? ⟨db, 1, none⟩ = some wv := fun o => ((HS2.out.alloc o).cell HD.out.blk.lt (by simp)).trans c1
  have d3 : rowC W2 w.heap.size 0 65 = some C2.toList := by
    have h := row_of_range W2 w.heap.size C2.toList 0 (fun j v hv => by rw [Nat.zero_add, HBk2.out.cell j, ← Array.getElem?_toList]; exact hv)
    rwa [Array.length_toList, hC2s] at h
  have hlow := HD.out.low
  have hap := Lib.hid HD.out.ap2
  have hC2o : ∀ u ∈ C2.toList, u.oneCell' = true := by
    rw [HC2.out]
    intro v hv
    rcases List.mem_cons.1 hv with rfl | hv
    · rfl
    · exact byteVals_cell _ v hv
  have hC2L : C2.toList.length = 1 * 65 := by rw [Array.length_toList, hC2s]
  have HC2o := Lib.hid hC2o
  have HC2L := Lib.hid hC2L
  clear hC2o hC2L
  have hrow := Lib.hid (fun o => (RowOr.step (.inl HD.out.own2) (HS2.out.drew.alloc o) (by simp) : RowOr (W2.drew.alloc o) base 57 65 wv W.length (flatW W)))
  have hblk := Lib.hid (fun o => HD.out.blk.step (HS2.out.drew.alloc o) (by simp))
  have hlt := HD.out.blk.lt
  have hlow2 : base ≤ W2.heap.size := by have := HS2.out.size; omega
  go_region_law (first
    | (refine step_append_row rfl (.tmp 37) (.tmp 39) 51 rfl base 57 j0 _ 65 72 Try.underlying51 HJ.out.1 HJ.out.2.1 HJ.out.2.2.1 HJ.out.2.2.2 rfl (by decide) wv W.length (flatW W) (by rfl) ?hr ⟨W2.heap.size, 0, none⟩ 1 1 C2.toList (by rfl) (by decide) HC2L.out (World.news_of_block (Go.heap_alloc_new _ _)) HC2o.out ?h2 ?h3 ?h4 ?_
       case hr => exact hrow.out _
       case h2 => unfold maxLen; omega
       case h3 => omega
       case h4 => exact Nat.le_trans hlow2 (Nat.le_of_lt (by show W2.heap.size < (W2.alloc _).heap.size; rw [World.size_alloc]; exact Nat.lt_succ_self _))
       intro g8 k8 w8 hown8 hs8 hf8
       have hB8 := (hblk.out _).step hs8 hap.out
       have c8 := hB8.cell 1
       have f8 := hB8.free 1
       simp only [List.getElem?_toArray, List.getElem?_cons_zero, List.getElem?_cons_succ] at c8
       have HB8 := Lib.hid hB8
       have HO8 := Lib.hid hown8
       have HS8 := Lib.hid hs8
       have HF8 := Lib.hid hf8
       clear hown8 hs8 hf8 hB8))
  all_goals
    have hst8 : Step (footD db (.slice (some ⟨lb, 0, none⟩) S.length lcap) wv) w (w8.setCell ⟨db, 1, none⟩ (.slice (some ⟨g8, 0, none⟩) (W.length + 1) k8)) := by
      have h1 := ((HS2.out.drew.alloc (Obj.cells C2 57))).mono (G := footD db (.slice (some ⟨lb, 0, none⟩) S.length lcap) wv) (by simp)
      exact (h1.then HS8.out (fun k hk => .inl (by simp [footD, hk]))).setCell (.inl (by simp [footD])) 1 _
    have hfr8 : Fresh w (foot wv) (foot (.slice (some ⟨g8, 0, none⟩) (W.length + 1) k8)) := by
      intro k hk
      rcases HF8.out _ hk with h | h
      · exact .inl h
      · have h2 : W2.heap.size ≤ k := Nat.le_trans (Nat.le_of_lt (by show W2.heap.size < (W2.alloc _).heap.size; rw [World.size_alloc]; exact Nat.lt_succ_self _)) h
        have := HS2.out.size
        exact .inr (by omega)
    have hdsk : Dsk (w8.setCell ⟨db, 1, none⟩ (.slice (some ⟨g8, 0, none⟩) (W.length + 1) k8)) base db (.slice (some ⟨lb, 0, none⟩) S.length lcap) (.slice (some ⟨g8, 0, none⟩) (W.length + 1) k8) S (W ++ [(at', pad l)]) false := by
      have hs1 : Step (foot wv) w w8 := (((HS2.out.drew.alloc (Obj.cells C2 57))).mono (G := foot wv) (by simp)).then HS8.out (fun k hk => .inl hk)
      have hdb : db ∉ foot (.slice (some ⟨g8, 0, none⟩) (W.length + 1) k8) := by
        intro hk
        rcases hfr8 _ hk with h | h
        · exact hap.out h
        · have := HD.out.blk.lt
          omega
      have hst : Step [db] w8 (w8.setCell ⟨db, 1, none⟩ (.slice (some ⟨g8, 0, none⟩) (W.length + 1) k8)) := (Step.refl [db] w8).setCell (.inl (by simp)) 1 _
      refine ⟨HB8.out.set 1 _, ?_, ?_, HD.out.len1, ?_, HD.out.low, HD.out.ap1, hdb, ?_, HD.out.some1, HD.out.few, by simp; omega⟩
      · refine owns_step (owns_step HD.out.own1 hs1 (fun k hk => HD.out.ap3 k hk)) hst (fun k hk hm => ?_)
        simp at hm
        subst hm
        exact HD.out.ap1 hk
      · have h1 := owns_step HO8.out hst (fun k hk hm => by simp at hm; subst hm; exact hdb hk)
        rw [HC2.out] at h1
        rw [List.length_append]
        have he : flatW (W ++ [(at', pad l)]) = flatW W ++ waitB (at', pad l) := by simp [flatW]
        rw [he]
        exact h1
      · intro x hx
        rcases List.mem_append.1 hx with h | h
        · exact HD.out.len2 x h
        · simp at h
          subst h
          exact ⟨hat, pad_len hl⟩
      · intro k hk hk2
        rcases hfr8 _ hk2 with h | h
        · exact HD.out.ap3 k hk h
        · have := owns_live HD.out.own1 k hk
          omega
    have HA := Lib.hid (And.intro hdsk (And.intro hst8 hfr8))
    clear hdsk hst8 hfr8
    go_wp2_with fail
    go_ret
    exact ⟨rfl, _, HA.out⟩
end Go.Proofs.Ytjemdcdcjohjpaa
