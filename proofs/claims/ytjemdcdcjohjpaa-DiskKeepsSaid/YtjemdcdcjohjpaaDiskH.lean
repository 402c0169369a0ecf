/- disk: the acts that come in; what is accepted of them. -/
import Derived.Test.YtjemdcdcjohjpaaDiskG
import Derived.Test.YtjemdcdcjohjpaaOpen
import Derived.Test.YtjemdcdcjohjpaaStr
namespace Go.Proofs.Ytjemdcdcjohjpaa
set_option linter.unusedVariables false
open Go.RowKit

/-- an act -/
structure Ac where
  kind : Int
  pos : Int
  cnt : Int
  ba : Option Addr
  bc : Nat
  bs : List UInt8
  keep : Int
def ac0 : Ac := ⟨0, 0, 0, none, 0, [], 0⟩

/-- acts that are only read -/
def Acts (w : World) (a : Option Addr) (l : List Ac) : Prop :=
  ∀ i, i < l.length → ∃ b off, a = some ⟨b, off, none⟩ ∧ b < w.heap.size ∧ w.cell? ⟨b, off + i * 5, none⟩ = some (.int .i64 (l.getD i ac0).kind) ∧ w.cell? ⟨b, off + i * 5 + 1, none⟩ = some (.int .i64 (l.getD i ac0).pos)
    ∧ w.cell? ⟨b, off + i * 5 + 2, none⟩ = some (.int .i64 (l.getD i ac0).cnt) ∧ w.cell? ⟨b, off + i * 5 + 3, none⟩ = some (.slice (l.getD i ac0).ba (l.getD i ac0).bs.length (l.getD i ac0).bc) ∧ w.cell? ⟨b, off + i * 5 + 4, none⟩ = some (.int .u64 (l.getD i ac0).keep)
    ∧ Bytes w (l.getD i ac0).ba (l.getD i ac0).bs ∧ ((l.getD i ac0).ba = none → (l.getD i ac0).bs.length = 0 ∧ (l.getD i ac0).bc = 0)
theorem Acts.step {w w' : World} {a : Option Addr} {l : List Ac} (h : Acts w a l) (hs : Step [] w w') : Acts w' a l := fun i hi => by
  obtain ⟨b, off, ha, hlt, h0, h1, h2, h3, h4, h5, h6⟩ := h i hi
  exact ⟨b, off, ha, Nat.lt_of_lt_of_le hlt hs.size, (hs.cell hlt (by simp)).trans h0, (hs.cell hlt (by simp)).trans h1, (hs.cell hlt (by simp)).trans h2, (hs.cell hlt (by simp)).trans h3, (hs.cell hlt (by simp)).trans h4, h5.step hs (by simp), h6⟩

/-- an act written, if it may be -/
def accA (W : List (Nat × List UInt8)) (x : Ac) : List (Nat × List UInt8) :=
  if x.bs.length ≤ 64 ∧ 0 ≤ x.pos ∧ x.pos < 8 then W ++ [(x.pos.toNat, pad x.bs)] else W
def accL (l : List Ac) (k : Nat) : List (Nat × List UInt8) := (l.take k).foldl accA []
theorem accL_next (l : List Ac) (k : Nat) (hk : k < l.length) : accL l (k + 1) = accA (accL l k) (l.getD k ac0) := by
  unfold accL
  rw [List.take_add_one, List.getElem?_eq_getElem hk, List.foldl_append, List.getD_eq_getElem?_getD, List.getElem?_eq_getElem hk]
  rfl
theorem accL_len (l : List Ac) (k : Nat) : (accL l k).length ≤ k := by
  induction k with
  | zero => simp [accL]
  | succ k ih =>
    by_cases hk : k < l.length
    · rw [accL_next l k hk]
      unfold accA
      split
      · simp; omega
      · omega
    · have : accL l (k + 1) = accL l k := by
        unfold accL
        rw [List.take_of_length_le (by omega), List.take_of_length_le (by omega)]
      rw [this]
      omega

/-- a disk, some writings after a point of time -/
def LoopR (base db : Nat) (lv : Value) (S : List (List UInt8)) (wv0 : Value) (w0 : World) (W : List (Nat × List UInt8)) (wr : World) : Prop :=
  ∃ wv, Dsk wr base db lv wv S W false ∧ Step (footD db lv wv0) w0 wr ∧ Fresh w0 (foot wv0) (foot wv)

theorem LoopR.next {base db : Nat} {lv : Value} {S : List (List UInt8)} {wv0 : Value} {w0 wr : World} {W : List (Nat × List UInt8)} (h : LoopR base db lv S wv0 w0 W wr) {w' : World} (hs : Step [] wr w') : LoopR base db lv S wv0 w0 W w' := by
  obtain ⟨wv, h1, h2, h3⟩ := h
  exact ⟨wv, h1.step hs (by simp), h2.then hs (by simp), h3⟩

/-- what Write says to one that comes in -/
def errA (x : Ac) : Int := if 0 ≤ x.pos ∧ x.pos < 8 then 0 else 3
def WroteA (base db : Nat) (lv : Value) (S : List (List UInt8)) (wv0 : Value) (w0 : World) (W : List (Nat × List UInt8)) (x : Ac) (e : Ending) (w' : World) : Prop :=
  e = .returned (.int .i64 (errA x)) ∧ LoopR base db lv S wv0 w0 (accA W x) w'
theorem write_acc (base db : Nat) (lv : Value) (S : List (List UInt8)) (wv0 : Value) (w0 wr : World) (W : List (Nat × List UInt8)) (x : Ac) (h : LoopR base db lv S wv0 w0 W wr) (hS : S.length = 8) (hB : Bytes wr x.ba x.bs) (hn : x.ba = none → x.bs.length = 0 ∧ x.bc = 0) (hl : x.bs.length ≤ 64) (hW : W.length < 1000) :
    Calls Try.prog 9 #[.pointer (some ⟨db, 0, none⟩), .int .i64 x.pos, .slice x.ba x.bs.length x.bc] wr (WroteA base db lv S wv0 w0 W x) := by
  obtain ⟨wv, h1, h2, h3⟩ := h
  by_cases hp : 0 ≤ x.pos ∧ x.pos < 8
  · obtain ⟨p, hpe⟩ : ∃ p : Nat, x.pos = (p : Int) := ⟨x.pos.toNat, by omega⟩
    have hacc : accA W x = W ++ [(p, pad x.bs)] := by
      unfold accA
      rw [if_pos ⟨hl, hp⟩, hpe]
      rfl
    have herr : errA x = 0 := if_pos hp
    unfold WroteA
    rw [hacc, herr, hpe]
    refine (write_ok base db lv wv S W p x.ba x.bc x.bs wr h1 (by omega) hB hn hl hW).mono ?_
    rintro e w' ⟨rfl, wv', g1, g2, g3⟩
    have hf : ∀ k, k ∈ foot wv → k ∈ foot wv0 ∨ w0.heap.size ≤ k := h3
    refine ⟨rfl, wv', g1, h2.then g2 (fun k hk => ?_), fun k hk => ?_⟩
    · simp only [footD, List.mem_cons, List.mem_append] at hk ⊢
      rcases hk with hk | hk | hk
      · exact .inl (.inl hk)
      · exact .inl (.inr (.inl hk))
      · rcases hf k hk with h | h
        · exact .inl (.inr (.inr h))
        · exact .inr h
    · rcases g3 k hk with h | h
      · exact hf k h
      · exact .inr (Nat.le_trans h2.size h)
  · have hacc : accA W x = W := by
      unfold accA
      rw [if_neg (fun h => hp h.2)]
    have herr : errA x = 3 := if_neg hp
    unfold WroteA
    rw [hacc, herr]
    refine (write_bad base db lv wv S W x.pos x.ba _ x.bc wr h1 (by omega)).mono ?_
    rintro e w' ⟨rfl, rfl⟩
    exact ⟨rfl, wv, h1, h2, h3⟩

theorem flatS_flat (L : List (List UInt8)) : flatS L = L.flatten.map byteVal := by
  induction L with
  | nil => rfl
  | cons s r ih =>
    simp only [flatS, List.flatMap_cons, List.flatten_cons, List.map_append] at ih ⊢
    rw [ih]
    rfl
/-- bytes of one's own, as a string -/
theorem owns_str {w : World} {base n : Nat} {v : Value} {L : List (List UInt8)} (h : w.ownsRow base 5 1 v n (flatS L)) (T U : TypeId) (e : TypeId) {P : Program} (hs : P.underlying T = some (.slice e)) (he : P.underlying e = some (.int .u8)) (hd : P.underlying U = some .string) :
    (convert T U v).run P w = .ok (.string (bstr L.flatten)) w := by
  rw [flatS_flat] at h
  obtain ⟨a, cap, rfl, hl, -, -, hb, hn, -⟩ := owns_bytes h
  subst hl
  exact hb.str (fun h => (hn h).1) cap T U e hs he hd

theorem choose_ltA {p : Nat → Ac → Prop} {n : Nat} (h : ∀ i, i < n → ∃ x, p i x) : ∃ f : Nat → Ac, ∀ i, i < n → p i (f i) := by
  refine ⟨fun i => if h' : i < n then (h i h').choose else ac0, fun i hi => ?_⟩
  simp only [hi, dite_true]
  exact (h i hi).choose_spec

open Go.ChangeShapes Go.WideShapes Go.Deep in
theorem open_acts {H : Type} {enc : TypeId × Value → H} {w : World} {base : Nat} {v : Value} {d : DataW H} {p : List MemPlace} (ho : Value.okWide Try.prog w .any base 22 v) (h : DataW.Trod enc Try.prog w 0 (fun _ => true) true 22 v d p) :
    ∃ (a : Option Addr) (cap : Nat) (vs : List Ac), v = .slice a vs.length cap ∧ Acts w a vs := by
  obtain ⟨a, len, cap, rfl⟩ := okWide_slice Try.underlying22 ho
  obtain ⟨fuel, hf⟩ := h
  rcases open_slice Try.underlying22 hf with ⟨hcs, _⟩ | ⟨x, l, c, m, n, D, Pl, hcs, _, hl, hm, hmm, _, hi⟩
  · simp [Value.cells] at hcs
    obtain ⟨rfl, rfl, rfl⟩ := hcs
    exact ⟨none, 0, [], rfl, fun i hi => by simp at hi⟩
  · simp [Value.cells] at hcs
    obtain ⟨rfl, rfl, rfl⟩ := hcs
    have hmc : m = cap := by simpa using hmm
    subst hmc
    have hce : Try.prog.cellsOf 32 = 5 := by kernel_rfl
    have each : ∀ i, i < len → ∃ q : Ac, w.cell? (x.add (i * 5)) = some (.int .i64 q.kind) ∧ w.cell? (x.add (i * 5 + 1)) = some (.int .i64 q.pos) ∧ w.cell? (x.add (i * 5 + 2)) = some (.int .i64 q.cnt) ∧ w.cell? (x.add (i * 5 + 3)) = some (.slice q.ba q.bs.length q.bc) ∧ w.cell? (x.add (i * 5 + 4)) = some (.int .u64 q.keep)
        ∧ Bytes w q.ba q.bs ∧ (q.ba = none → q.bs.length = 0 ∧ q.bc = 0) := fun i hil => by
      obtain ⟨cs', h1, h2⟩ := hi i (by omega)
      rw [hce] at h1
      obtain ⟨_, hlen, hcell⟩ := World.cells?_some h1
      obtain ⟨xs, k, hk, hxy, _, hxl, hf⟩ := DataW.trod_struct Try.underlying32 h2
      match xs, hxl, cs', hlen with
      | [y0, y1, y2, y3, y4], _, [v0, v1, v2, v3, v4], _ =>
        have g0 := hf 0 _ rfl
        have g1 := hf 1 _ rfl
        have g2 := hf 2 _ rfl
        have g3 := hf 3 _ rfl
        have g4 := hf 4 _ rfl
        have k3 : Try.prog.cellsOf 3 = 1 := by kernel_rfl
        have k4 : Try.prog.cellsOf 23 = 1 := by kernel_rfl
        have k5 : Try.prog.cellsOf 30 = 1 := by kernel_rfl
        simp [k3, k4, k5] at g0 g1 g2 g3 g4
        obtain ⟨z0, rfl, hw0⟩ := int_field Try.underlying3 g0
        obtain ⟨z1, rfl, hw1⟩ := int_field Try.underlying3 g1
        obtain ⟨z2, rfl, hw2⟩ := int_field Try.underlying3 g2
        obtain ⟨z4, rfl, hw4⟩ := int_field Try.underlying23 g4
        have e0 := hcell 0 (by omega)
        have e1 := hcell 1 (by omega)
        have e2 := hcell 2 (by omega)
        have e3 := hcell 3 (by omega)
        have e4 := hcell 4 (by omega)
        rw [add_add] at e0 e1 e2 e3 e4
        simp at e0 e1 e2 e3 e4
        have hrow : ∃ (da : Option Addr) (dn dc : Nat) (zs : List Int), v3 = .slice da dn dc ∧ IsRow .u8 w da dn dc zs := by
          rcases open_ints Try.underlying30 Try.underlying5 (by kernel_rfl) g3 with ⟨hcs, _⟩ | ⟨x, l, c, zs, hcs, _, hl, hm, hz, _, hcell, hwz⟩
          · exact ⟨none, 0, 0, [], by simpa using hcs, .inl ⟨rfl, rfl, rfl, rfl⟩⟩
          · exact ⟨some x, l, c, zs, by simpa using hcs, .inr ⟨_, rfl, hl, hm, by simpa using hz, hcell, hwz⟩⟩
        obtain ⟨da, dn, dc, zs, rfl, hr⟩ := hrow
        obtain ⟨bs, hbl, _, hb, hbn, _, _⟩ := hr.bytes
        subst hbl
        exact ⟨⟨z0, z1, z2, da, dc, bs, z4⟩, e0, e1, e2, e3, e4, hb, hbn⟩
    obtain ⟨q, hq⟩ := choose_ltA each
    refine ⟨some x, m, (List.range len).map q, by simp, fun i hil => ?_⟩
    have hil' : i < len := by simpa using hil
    obtain ⟨h0, h1, h2, h3, h4, h5⟩ := hq i hil'
    obtain ⟨b, off, spot⟩ := x
    have hspot : spot = none := by simpa [Addr.add] using World.cell?_spot (hq 0 (by omega)).1
    subst hspot
    rw [Go.Proofs.Ytjemdcdcjohjpaa.add_plain] at h0 h1 h2 h3 h4
    have hg : ((List.range len).map q).getD i ac0 = q i := by simp [List.getD, hil']
    rw [hg]
    exact ⟨b, off, rfl, World.block_lt_of_cell? w _ h0, h0, by rw [Nat.add_assoc]; exact h1, by rw [Nat.add_assoc]; exact h2, by rw [Nat.add_assoc]; exact h3, by rw [Nat.add_assoc]; exact h4, h5⟩
end Go.Proofs.Ytjemdcdcjohjpaa
