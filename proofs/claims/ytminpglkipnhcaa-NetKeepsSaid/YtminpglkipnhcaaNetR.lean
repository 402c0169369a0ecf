/- NetKeeps: the caller's message while it is made; how the law leaves. -/
import Derived.Test.YtminpglkipnhcaaNetP
import Derived.Test.YtminpglkipnhcaaStr
import Derived.Test.YtminpglkipnhcaaStepApp
import Derived.Test.YtminpglkipnhcaaSeqNil
import Derived.Test.YtminpglkipnhcaaNetO
import Derived.Test.YtminpglkipnhcaaMarks
import Derived.Test.YtminpglkipnhcaaOctetC
namespace Go.Proofs.Ytminpglkipnhcaa
set_option linter.unusedVariables false
set_option linter.unusedSimpArgs false
open Go.RowKit
/-- the caller's message while it is made: j entries -/
structure KI (w2 : World) (b8 : Nat) (l : List UInt8) (j : Nat) (wr : World) (x : Ms) (D : List Nat) (L : List En) : Prop where
  kd : x.kd = 0
  fr : x.fr = 1
  too : x.too = 2
  tm : x.tm = 0
  ix : x.ix = 0
  lt : x.lt = 0
  cm : x.cm = 0
  ys : x.ys = false
  en : x.en = j
  blk : Blk wr b8 (msC x).toArray 31
  own : wr.ownsRow w2.heap.size 45 4 (.slice x.ea j x.ec) j (cellsL L)
  ok : ∀ i, i < j → EnOk wr D (L.getD i en0) ⟨i, 0, false, l⟩
  ms : SlI wr D x.ma x.mn x.mc [1, 2]
  da : SlB wr D x.da x.dn x.dc l
  uf : UnF wr D
  lo : ∀ k, k ∈ D → w2.heap.size ≤ k ∧ k < wr.heap.size
  b8l : w2.heap.size ≤ b8
  b8d : b8 ∉ D
  dj : Dj (foot (.slice x.ea j x.ec)) D
  st : Step [] w2 wr
theorem row_new (w : World) (l : List Value) (T : TypeId) : ∀ j u, l[j]? = some u → (w.alloc (.cells l.toArray T)).cell? (Addr.add ⟨w.heap.size, 0, none⟩ j) = some u := by
  intro j u hu
  rw [add_plain, Nat.zero_add, (Blk.new w l.toArray T).cell j]
  simpa using hu
theorem KI.start {w2 w3 W4 : World} {b8 : Nat} {l : List UInt8} {a3 : Option Addr} {n c3 : Nat} {X0 : Ms} (hX : X0 = Ms.with (bare 0 1 2 0 0 0 0 false) none 0 0 (some ⟨w3.heap.size, 0, none⟩) 2 2 a3 n c3)
    (ho3 : w3.ownsRow w2.heap.size 5 1 (.slice a3 n c3) n (l.map byteVal)) (hs3 : Step [] w2 w3) (hB3 : SlB w3 (foot (.slice a3 n c3)) a3 n c3 l) (hb8 : w3.heap.size + 1 = b8)
    (hbm : Blk W4 (w3.heap.size + 1) (msC X0).toArray 31) (hsm : Step [] (w3.alloc (.cells #[.int .i64 1, .int .i64 2] 3)) W4) : KI w2 b8 l 0 W4 X0 (w3.heap.size :: foot (.slice a3 n c3)) [] := by
  subst hX
  subst hb8
  have hbi : Blk W4 w3.heap.size #[.int .i64 1, .int .i64 2] 3 := (Blk.new w3 _ _).step hsm (by simp)
  have hs34 : Step [] w3 W4 := ((Step.refl [] w3).alloc _).then hsm (by simp)
  have hlv := owns_live ho3
  have hba := owns_base ho3
  have hz3 := hs3.size
  have hz4 := hs34.size
  refine ⟨rfl, rfl, rfl, rfl, rfl, rfl, rfl, rfl, rfl, hbm, World.ownsRow_nil _ _ _ _, (fun i hi => by omega), ⟨rfl, fun i hi => ⟨w3.heap.size, 0, rfl, hbi.lt, ?_⟩, (fun h => by cases h), (fun b off s e => by cases e; simp)⟩, (hB3.step hs34 (fun k _ => List.not_mem_nil)).mono (fun k hk => List.mem_cons_of_mem _ hk), fun k hk => ?_, fun k hk => ?_, by omega, fun hk => ?_, (fun k hk => by simp [foot, Value.ownBlock, Ms.with] at hk), hs3.then hs34 (by simp)⟩
  · rw [Nat.zero_add, hbi.cell i]
    have h2 : i < 2 := hi
    rcases (by omega : i = 0 ∨ i = 1) with rfl | rfl <;> rfl
  · rcases List.mem_cons.1 hk with rfl | hk
    · exact ⟨_, _, hbi⟩
    · exact ((owns_unf ho3).step hs34 (fun k _ => List.not_mem_nil)) k hk
  · rcases List.mem_cons.1 hk with rfl | hk
    · exact ⟨hz3, hbi.lt⟩
    · have := hlv k hk
      exact ⟨hba k hk, by omega⟩
  · rcases List.mem_cons.1 hk with h | hk
    · omega
    · have := hlv _ hk
      omega
theorem KI.next {w2 wr w5 w8 : World} {b8 : Nat} {l : List UInt8} {j : Nat} {x : Ms} {D : List Nat} {L : List En} (h : KI w2 b8 l j wr x D L) {a5 : Option Addr} {n c5 n5 g8 k8 : Nat} {xs : List Value} (hs : Step [] wr w5) (ho5 : w5.ownsRow wr.heap.size 5 1 (.slice a5 n c5) n5 xs) (hB5 : SlB w5 (foot (.slice a5 n c5)) a5 n c5 l)
    (ho : w8.ownsRow w2.heap.size 45 4 (.slice (some ⟨g8, 0, none⟩) (j + 1) k8) (j + 1) (cellsL L ++ [.int .u64 (j : Int), .int .u64 0, .bool false, .slice a5 n c5])) {o : Obj} (hs8 : Step (foot (.slice x.ea j x.ec)) (w5.alloc o) w8) (hf8 : Fresh (w5.alloc o) (foot (.slice x.ea j x.ec)) (foot (.slice (some ⟨g8, 0, none⟩) (j + 1) k8))) (hB8 : Blk w8 b8 (msC x).toArray 31) :
    KI w2 b8 l (j + 1) (w8.setCell ⟨b8, 8, none⟩ (.slice (some ⟨g8, 0, none⟩) (j + 1) k8)) { x with ea := some ⟨g8, 0, none⟩, en := j + 1, ec := k8 } (foot (.slice a5 n c5) ++ D) (L ++ [⟨j, 0, false, a5, n, c5⟩]) := by
  have hl5 := owns_live ho5
  have hb5 := owns_base ho5
  have hlo := owns_live h.own
  have hbo := owns_base h.own
  have hbl := h.blk.lt
  have hz5 := hs.size
  have hz0 := h.st.size
  have s8W : Step [b8] w8 (w8.setCell ⟨b8, 8, none⟩ (.slice (some ⟨g8, 0, none⟩) (j + 1) k8)) := (Step.refl _ _).setCell (.inl (by simp)) 8 _
  have s58 : Step (foot (.slice x.ea j x.ec)) w5 w8 := (((Step.refl [] w5).alloc o).mono (by simp)).then hs8 (fun k hk => .inl hk)
  have s5W : Step (b8 :: foot (.slice x.ea j x.ec)) w5 (w8.setCell ⟨b8, 8, none⟩ (.slice (some ⟨g8, 0, none⟩) (j + 1) k8)) := (s58.mono (fun k hk => List.mem_cons_of_mem _ hk)).then s8W (fun k hk => .inl (by simp at hk; simp [hk]))
  have sW : Step (b8 :: foot (.slice x.ea j x.ec)) wr (w8.setCell ⟨b8, 8, none⟩ (.slice (some ⟨g8, 0, none⟩) (j + 1) k8)) := (hs.mono (by simp)).then s5W (fun k hk => .inl hk)
  have hdD : Dj D (b8 :: foot (.slice x.ea j x.ec)) := fun k hk hm => by
    rcases List.mem_cons.1 hm with rfl | hm
    · exact h.b8d hk
    · exact h.dj k hm hk
  have hd5 : Dj (foot (.slice a5 n c5)) (b8 :: foot (.slice x.ea j x.ec)) := fun k hk hm => by
    have := hb5 k hk
    rcases List.mem_cons.1 hm with rfl | hm
    · omega
    · have := hlo k hm
      omega
  have hll : L.length = j := by
    have := h.own.1
    rw [cellsL_len] at this
    omega
  have hmr : ∀ k, k ∈ D → k ∈ foot (.slice a5 n c5) ++ D := fun k hk => List.mem_append_right _ hk
  refine ⟨h.kd, h.fr, h.too, h.tm, h.ix, h.lt, h.cm, h.ys, rfl, hB8.set 8 _, ?_, fun i hi => ?_, (h.ms.step sW hdD).mono hmr, (h.da.step sW hdD).mono hmr, ((owns_unf ho5).step s5W hd5).app (h.uf.step sW hdD), fun k hk => ?_, h.b8l, fun hk => ?_, fun k hk hm => ?_, h.st.then sW (fun k hk => .inr ?_)⟩
  · have e : cellsL (L ++ [⟨j, 0, false, a5, n, c5⟩]) = cellsL L ++ [.int .u64 (j : Int), .int .u64 0, .bool false, .slice a5 n c5] := by rw [cellsL_app]; rfl
    rw [e]
    refine owns_step ho s8W (fun k hk hm => ?_)
    simp at hm
    subst hm
    exact not_msg ho hB8 (by decide) hk
  · by_cases hij : i < j
    · have e : (L ++ [(⟨j, 0, false, a5, n, c5⟩ : En)]).getD i en0 = L.getD i en0 := by simp [List.getD, List.getElem?_append_left, show i < L.length by omega]
      rw [e]
      exact ((h.ok i hij).step sW hdD).mono hmr
    · have e1 : i = j := by omega
      have e : (L ++ [(⟨j, 0, false, a5, n, c5⟩ : En)]).getD i en0 = ⟨j, 0, false, a5, n, c5⟩ := by simp [List.getD, e1, ← hll]
      rw [e, e1]
      exact ⟨rfl, rfl, rfl, (hB5.step s5W hd5).mono (fun k hk => List.mem_append_left _ hk)⟩
  · have hz := s5W.size
    rcases List.mem_append.1 hk with hk | hk
    · exact ⟨by have := hb5 k hk; omega, Nat.lt_of_lt_of_le (hl5 k hk) hz⟩
    · have := h.lo k hk
      omega
  · rcases List.mem_append.1 hk with hk | hk
    · have := hb5 _ hk
      omega
    · exact h.b8d hk
  · have hsz : (w5.alloc o).heap.size = w5.heap.size + 1 := World.size_alloc _ _
    rcases hf8 k hk with h1 | h1
    · have := hlo k h1
      rcases List.mem_append.1 hm with hm | hm
      · have := hb5 k hm
        omega
      · exact h.dj k h1 hm
    · rcases List.mem_append.1 hm with hm | hm
      · have := hl5 k hm
        omega
      · have := h.lo k hm
        omega
  · rcases List.mem_cons.1 hk with rfl | hk
    · exact h.b8l
    · exact hbo k hk
/-- what the law's message says -/
def pmK (l : List UInt8) (j : Nat) : PM := ⟨0, 1, 2, 0, 0, 0, 0, false, (List.range j).map (fun i => ⟨i, 0, false, l⟩), [1, 2], l⟩
theorem pmK_few (l : List UInt8) (j : Nat) (hj : j ≤ 9) (hl : l.length ≤ 60) : Few (pmK l j) :=
  ⟨by simpa [pmK] using hj, by simp [pmK], hl, fun e he => by
    simp only [pmK, List.mem_map] at he
    obtain ⟨i, _, rfl⟩ := he
    exact hl⟩
theorem KI.done {w2 wr : World} {b8 : Nat} {l : List UInt8} {j : Nat} {x : Ms} {D : List Nat} {L : List En} (h : KI w2 b8 l j wr x D L) (hj : j ≤ 9) (hl : l.length ≤ 60) :
    TmOk wr ⟨x, pmK l j, foot (.slice x.ea j x.ec) ++ D⟩ ∧ (∀ k, k ∈ foot (.slice x.ea j x.ec) ++ D → w2.heap.size ≤ k) ∧ b8 ∉ foot (.slice x.ea j x.ec) ++ D := by
  have hmr : ∀ k, k ∈ D → k ∈ foot (.slice x.ea j x.ec) ++ D := fun k hk => List.mem_append_right _ hk
  have hll : L.length = j := by
    have := h.own.1
    rw [cellsL_len] at this
    omega
  have hb := owns_base h.own
  have hv := owns_live h.own
  refine ⟨⟨⟨h.kd, h.fr, h.too, h.tm, h.ix, h.lt, h.cm, h.ys, ⟨fun e => ?_, fun b off s e => List.mem_append_left _ ((foot_slice _ _ _ b).2 ⟨off, s, e⟩), L, by rw [h.en]; exact hll, by rw [h.en]; simp [pmK], owns_ents h.own, fun i y e hy he => ?_⟩, h.ms.mono hmr, h.da.mono hmr⟩, pmK_few l j hj hl, (owns_unf h.own).app h.uf, fun k hk => ?_⟩, fun k hk => ?_, fun hk => ?_⟩
  · rw [h.en]
    rcases h.own.2 with ⟨h1, h2⟩ | ⟨g, c, cur, h1, _⟩
    · injection h1 with e1 e2 e3
      exact ⟨h2, e3⟩
    · injection h1 with e1
      rw [e] at e1
      cases e1
  · have hij : i < j := by
      have := (List.getElem?_eq_some_iff.1 hy).1
      omega
    have h1 := h.ok i hij
    have e1 : L.getD i en0 = y := by simp [List.getD, hy]
    rw [e1] at h1
    have e2 : e = ⟨i, 0, false, l⟩ := by
      simp only [pmK, List.getElem?_map, List.getElem?_range hij, Option.map_some] at he
      injection he with he
      exact he.symm
    rw [e2]
    exact h1.mono hmr
  · rcases List.mem_append.1 hk with hk | hk
    · exact hv k hk
    · exact (h.lo k hk).2
  · rcases List.mem_append.1 hk with hk | hk
    · exact hb k hk
    · exact (h.lo k hk).1
  · rcases List.mem_append.1 hk with hk | hk
    · exact not_msg h.own h.blk (by decide) hk
    · exact h.b8d hk
theorem tm_str {w : World} {t : Tm} {l : List UInt8} {j : Nat} (h : TmOk w t) (hM : t.M = pmK l j) : (convert 29 9 (.slice t.x.da t.x.dn t.x.dc)).run Try.prog w = .ok (.string (bstr l)) w := by
  have h1 := h.ok.da
  rw [hM] at h1
  have h2 : l.length = t.x.dn := h1.len
  rw [← h2]
  exact Bytes.str (P := Try.prog) h1.rd (fun e => by have := (h1.nil e).1; show l.length = 0; omega) t.x.dc 29 9 5 Try.underlying29 Try.underlying5 Try.underlying9
theorem en_str {w : World} {D : List Nat} {y : En} {i : Nat} {l : List UInt8} (h : EnOk w D y ⟨i, 0, false, l⟩) : (convert 29 9 (.slice y.da y.dn y.dc)).run Try.prog w = .ok (.string (bstr l)) w := by
  have h1 := h.da
  have h2 : l.length = y.dn := h1.len
  rw [← h2]
  exact Bytes.str (P := Try.prog) h1.rd (fun e => by have := (h1.nil e).1; show l.length = 0; omega) y.dc 29 9 5 Try.underlying29 Try.underlying5 Try.underlying9
theorem tm_rows {w : World} {t : Tm} {l : List UInt8} {j : Nat} (h : TmOk w t) (hM : t.M = pmK l j) : t.x.en = j ∧ ∃ L : List En, L.length = j ∧ Ents w t.x.ea L ∧ ∀ q, q < j → EnOk w t.D (L.getD q en0) ⟨q, 0, false, l⟩ := by
  obtain ⟨L, h1, h2, h3, h4⟩ := h.ok.es.rows
  rw [hM] at h2 h4
  have e : t.x.en = j := by rw [← h2]; simp [pmK]
  refine ⟨e, L, by omega, h3, fun q hq => h4 q _ _ (by simp [List.getD, show q < L.length by omega]) ?_⟩
  simp only [pmK, List.getElem?_map, List.getElem?_range hq, Option.map_some]
def pmB (z : Nat) : PM := ⟨0, 1, 3, (z : Int), 0, 0, 0, false, [], [], []⟩
/-- what lies in a net after i little messages -/
structure Tl (T : List Tm) (i : Nat) : Prop where
  len : T.length = min i 64
  at' : ∀ k, k < T.length → (T.getD k tm0).M = pmB (i - T.length + k)
theorem Tl.nil : Tl [] 0 := ⟨rfl, fun k hk => by simp at hk⟩
theorem Tl.put {T : List Tm} {i : Nat} (h : Tl T i) {t : Tm} (ht : t.M = pmB i) : Tl (putT T t) (i + 1) := by
  obtain ⟨h1, h2⟩ := h
  unfold putT
  by_cases hi : i < 64
  · have hl : T.length = i := by omega
    rw [if_neg (by simp; omega)]
    refine ⟨by simp; omega, fun k hk => ?_⟩
    simp only [List.length_append, List.length_cons, List.length_nil] at hk ⊢
    by_cases hk2 : k < T.length
    · have e : (T ++ [t]).getD k tm0 = T.getD k tm0 := by simp [List.getD, List.getElem?_append_left hk2]
      rw [e, h2 k hk2]
      congr 1
      omega
    · have e0 : k = T.length := by omega
      have e : (T ++ [t]).getD k tm0 = t := by simp [List.getD, e0]
      rw [e, ht]
      congr 1
      omega
  · have hl : T.length = 64 := by omega
    rw [if_pos (by simp; omega)]
    have hlen : ((T ++ [t]).eraseIdx 0).length = 64 := by rw [List.length_eraseIdx]; simp [hl]
    refine ⟨by omega, fun k hk => ?_⟩
    rw [hlen] at hk ⊢
    have e1 : ((T ++ [t]).eraseIdx 0).getD k tm0 = (T ++ [t]).getD (k + 1) tm0 := by simp [List.getD, List.getElem?_eraseIdx]
    rw [e1]
    by_cases hk2 : k + 1 < T.length
    · have e : (T ++ [t]).getD (k + 1) tm0 = T.getD (k + 1) tm0 := by simp [List.getD, List.getElem?_append_left hk2]
      rw [e, h2 (k + 1) hk2]
      congr 1
      omega
    · have e0 : k + 1 = T.length := by omega
      have e : (T ++ [t]).getD (k + 1) tm0 = t := by simp [List.getD, e0]
      rw [e, ht]
      congr 1
      omega
theorem kept_mark {w W : World} {Φ : World → List Nat → Prop} {XO : List (Nat × Obj)} {D : Nat} {C : Array Value} {T : TypeId} (h : Kept w Φ XO W) (hD : (D, Obj.deferred (some [])) ∈ XO) (hb : (w.heap.size, Obj.cells C T (0, 0)) ∈ XO) : w.heap.size < D := by
  have h1 : w.heap.size ≤ D := (h.lt hD).1
  have h2 := h.get hD
  have h3 := h.get hb
  rcases Nat.lt_or_ge w.heap.size D with h4 | h4
  · exact h4
  · have e : w.heap.size = D := by omega
    rw [← e, h3] at h2
    cases h2
/-- the law leaves: its answer is stored, its marks lie in blocks of their own -/
theorem marks_set {w W : World} {Φ : World → List Nat → Prop} {XO : List (Nat × Obj)} {Ds : List Nat} {C : Array Value} {T : TypeId} (h : Kept w Φ XO W) (hD : ∀ D, D ∈ Ds → (D, Obj.deferred (some [])) ∈ XO) (hb : (w.heap.size, Obj.cells C T (0, 0)) ∈ XO) (hn : Ds.Nodup) (v : Value) : MarksOk (W.setCell ⟨w.heap.size, 0, none⟩ v) Ds :=
  ⟨hn, fun D hd => by
    have h1 := kept_mark h (hD D hd) hb
    exact (heap_setCell_other W ⟨w.heap.size, 0, none⟩ D v (by show D ≠ w.heap.size; omega)).trans (h.get (hD D hd))⟩
theorem leave_keeps {w wr : World} {Ds : List Nat} {T : TypeId} {tmps : Array Value} {Q : Ending → World → Prop} (hb : Blk wr w.heap.size #[.bool true] T) (hs : Step [] w wr) (hm : MarksOk wr Ds) (hD : ∀ D, D ∈ Ds → w.heap.size < D)
    (h6 : tmps[6]?.getD undef = .pointer (some ⟨w.heap.size, 0, none⟩)) (hQ : ∀ w', Step [] w w' → Q (.returned (.bool true)) w') :
    LeavesInM Fence.wide 3 Try.prog Try.f5 tmps Q (mks Ds) .returning wr := by
  have hne : w.heap.size ∉ Ds := fun hd => by have := hD _ hd; omega
  refine leaves_marks Ds wr hm (fun w' hs2 => ?_)
  have c0 := (hb.step hs2 hne).cell 0
  simp only [List.getElem?_toArray, List.getElem?_cons_zero] at c0
  refine ⟨.bool true, ?_, hQ w' (hs.then hs2 (fun k hk => .inr (Nat.le_of_lt (hD k hk))))⟩
  simp [results, Try.f5, go_sem, c0, h6]
end Go.Proofs.Ytminpglkipnhcaa
