/- rows of records that came in: a kind, and data of their own. -/
import Derived.Test.YtkogchmnpffiaaaFrameS
import Derived.Deep.SlicePairs
namespace Go.Proofs.Ytkogchmnpffiaaa
set_option linter.unusedVariables false
open Go.RowKit

/-- a record as it lies in memory: its kind, its slice, its bytes -/
structure Rr where
  k : UInt8
  a : Option Addr
  c : Nat
  d : List UInt8
def rr0 : Rr := ⟨0, none, 0, []⟩
def Rr.pr (x : Rr) : UInt8 × List UInt8 := (x.k, x.d)
def Rr.sl (x : Rr) : Value := .slice x.a x.d.length x.c
/-- a row of records: cells in pairs, the data apart -/
structure Recs (w : World) (a : Option Addr) (cap : Nat) (l : List Rr) : Prop where
  cells : ∀ i, i < l.length → ∃ b off, a = some ⟨b, off, none⟩ ∧ b < w.heap.size ∧ w.cell? ⟨b, off + i * 2, none⟩ = some (.int .u8 ((l.getD i rr0).k.toNat : Int)) ∧ w.cell? ⟨b, off + i * 2 + 1, none⟩ = some (l.getD i rr0).sl
  room : l.length ≤ cap
  nil : a = none → l.length = 0 ∧ cap = 0
  data : ∀ x ∈ l, RecIn w x.a x.c x.d ∧ (0 < x.d.length → ∀ b off, x.a = some ⟨b, off, none⟩ → b < w.heap.size)
theorem Recs.step {w w' : World} {a : Option Addr} {cap : Nat} {l : List Rr} (h : Recs w a cap l) (hs : Step [] w w') : Recs w' a cap l :=
  ⟨fun i hi => by
    obtain ⟨b, off, ha, hlt, h0, h1⟩ := h.cells i hi
    exact ⟨b, off, ha, Nat.lt_of_lt_of_le hlt hs.size, (hs.cell hlt (by simp)).trans h0, (hs.cell hlt (by simp)).trans h1⟩, h.room, h.nil, fun x hx => by
    obtain ⟨h1, h2⟩ := h.data x hx
    exact ⟨⟨h1.bytes.step hs (by simp), h1.nil, h1.max⟩, fun hq b off hb => Nat.lt_of_lt_of_le (h2 hq b off hb) hs.size⟩⟩
theorem choose_ltR {p : Nat → Rr → Prop} {n : Nat} (h : ∀ i, i < n → ∃ x, p i x) : ∃ f : Nat → Rr, ∀ i, i < n → p i (f i) := by
  classical
  refine ⟨fun i => if hi : i < n then (h i hi).choose else rr0, fun i hi => ?_⟩
  simp only [hi, dite_true]
  exact (h i hi).choose_spec

open Go.ChangeShapes Go.WideShapes Go.Deep in
theorem open_records {H : Type} {enc : TypeId × Value → H} {w : World} {base : Nat} {v : Value} {d : DataW H} {p : List MemPlace} (ho : Value.okWide Try.prog w .any base 40 v) (h : DataW.Trod enc Try.prog w 0 (fun _ => true) true 40 v d p) :
    ∃ (a : Option Addr) (cap : Nat) (vs : List Rr), v = .slice a vs.length cap ∧ Recs w a cap vs := by
  obtain ⟨a, len, cap, rfl⟩ := okWide_slice Try.underlying40 ho
  obtain ⟨fuel, hf⟩ := h
  rcases open_slice Try.underlying40 hf with ⟨hcs, _⟩ | ⟨x, l, c, m, n, D, Pl, hcs, _, hl, hm, hmm, _, hi⟩
  · simp [Value.cells] at hcs
    obtain ⟨rfl, rfl, rfl⟩ := hcs
    exact ⟨none, 0, [], rfl, fun i hi => by simp at hi, Nat.le_refl _, fun _ => ⟨rfl, rfl⟩, fun x hx => (nomatch hx)⟩
  · simp [Value.cells] at hcs
    obtain ⟨rfl, rfl, rfl⟩ := hcs
    have hmc : m = cap := by simpa using hmm
    subst hmc
    have hce : Try.prog.cellsOf 25 = 2 := by kernel_rfl
    have each : ∀ i, i < len → ∃ q : Rr, w.cell? (x.add (i * 2)) = some (.int .u8 (q.k.toNat : Int)) ∧ w.cell? (x.add (i * 2 + 1)) = some q.sl ∧ RecIn w q.a q.c q.d ∧ (0 < q.d.length → ∀ b off, q.a = some ⟨b, off, none⟩ → b < w.heap.size) := fun i hil => by
      obtain ⟨cs', h1, h2⟩ := hi i (by omega)
      rw [hce] at h1
      obtain ⟨_, hlen, hcell⟩ := World.cells?_some h1
      obtain ⟨xs, k, hk, hxy, _, hxl, hf⟩ := DataW.trod_struct Try.underlying25 h2
      match xs, hxl, cs', hlen with
      | [y0, y1], _, [v0, v1], _ =>
        have g0 := hf 0 _ rfl
        have g1 := hf 1 _ rfl
        have k3 : Try.prog.cellsOf 5 = 1 := by kernel_rfl
        have k5 : Try.prog.cellsOf 23 = 1 := by kernel_rfl
        simp [k3, k5] at g0 g1
        obtain ⟨z0, rfl, hw0⟩ := int_field Try.underlying5 g0
        obtain ⟨k0, rfl⟩ := u8_of z0 hw0
        have e0 := hcell 0 (by omega)
        have e1 := hcell 1 (by omega)
        rw [add_add] at e0 e1
        simp at e0 e1
        have hrow : ∃ (da : Option Addr) (dn dc : Nat) (zs : List Int), v1 = .slice da dn dc ∧ IsRow .u8 w da dn dc zs := by
          rcases open_ints Try.underlying23 Try.underlying5 (by kernel_rfl) g1 with ⟨hcs, _⟩ | ⟨x, l, c, zs, hcs, _, hl, hm, hz, _, hcell, hwz⟩
          · exact ⟨none, 0, 0, [], by simpa using hcs, .inl ⟨rfl, rfl, rfl, rfl⟩⟩
          · exact ⟨some x, l, c, zs, by simpa using hcs, .inr ⟨_, rfl, hl, hm, by simpa using hz, hcell, hwz⟩⟩
        obtain ⟨da, dn, dc, zs, rfl, hr⟩ := hrow
        obtain ⟨bs, hbl, hmx, hb, hbn, _, _⟩ := hr.bytes
        subst hbl
        refine ⟨⟨k0, da, dc, bs⟩, e0, e1, ⟨hb, hbn, hmx⟩, fun hq b off hda => ?_⟩
        simp only at hq hda
        obtain ⟨b2, off2, hb2, hlt, _⟩ := hb 0 (by omega)
        rw [hda] at hb2
        cases hb2
        exact hlt
    obtain ⟨q, hq⟩ := choose_ltR each
    refine ⟨some x, m, (List.range len).map q, by simp, fun i hil => ?_, by simpa using hl, fun h => (by cases h), fun y hy => ?_⟩
    · have hil' : i < len := by simpa using hil
      obtain ⟨h0, h1, _⟩ := hq i hil'
      obtain ⟨b, off, spot⟩ := x
      have hspot : spot = none := by simpa [Addr.add] using World.cell?_spot (hq 0 (by omega)).1
      subst hspot
      rw [Go.Proofs.Ytkogchmnpffiaaa.add_plain] at h0 h1
      have hg : ((List.range len).map q).getD i rr0 = q i := by simp [List.getD, hil']
      rw [hg]
      exact ⟨b, off, rfl, World.block_lt_of_cell? w _ h0, h0, by rw [Nat.add_assoc]; exact h1⟩
    · obtain ⟨i, hil, rfl⟩ := List.mem_map.1 hy
      exact (hq i (by simpa using hil)).2.2
end Go.Proofs.Ytkogchmnpffiaaa
