/- rows of items; their bytes. -/
import Derived.Test.YtllpcddfnjbeaaaOctetT
import Derived.Test.YtllpcddfnjbeaaaOpen
import Derived.Deep.SlicePairs
namespace Go.Proofs.Ytllpcddfnjbeaaa
set_option linter.unusedVariables false
open Go.RowKit

/-- an item, as it was handed in -/
structure ItV where
  kind : UInt8
  x : Nat
  s : List UInt8
def it0 : ItV := ⟨0, 0, []⟩

/-- a row of items that is only read -/
def Items (w : World) (a : Option Addr) (l : List ItV) : Prop :=
  ∀ i, i < l.length → ∃ b off, a = some ⟨b, off, none⟩ ∧ b < w.heap.size ∧ w.cell? ⟨b, off + i * 3, none⟩ = some (.int .u8 ((l.getD i it0).kind.toNat : Int)) ∧ w.cell? ⟨b, off + i * 3 + 1, none⟩ = some (.int .u64 ((l.getD i it0).x : Int))
    ∧ w.cell? ⟨b, off + i * 3 + 2, none⟩ = some (.string (bstr (l.getD i it0).s))
theorem Items.step {w w' : World} {a : Option Addr} {l : List ItV} (h : Items w a l) (hs : Step [] w w') : Items w' a l := fun i hi => by
  obtain ⟨b, off, ha, hlt, h0, h1, h2⟩ := h i hi
  refine ⟨b, off, ha, Nat.lt_of_lt_of_le hlt hs.size, ?_, ?_, ?_⟩
  all_goals (rw [hs.cell hlt (by simp)]; assumption)

theorem string_field {H : Type} {enc : TypeId × Value → H} {P : Program} {w : World} {base : Nat} {spare : Nat → Bool} {held : Bool} {t : TypeId} {n : Nat} {u : Value} {y : DataW H × List MemPlace} (ht : P.underlying t = some .string) (h : DataW.trod enc P w base spare held n t [u] = some y) : ∃ s : List UInt8, u = .string (bstr s) := by
  obtain ⟨x, h1, _⟩ := DataW.trod_string ht h
  have h2 : u = .string x := by simpa using h1
  exact ⟨x.data.toList, h2⟩

open Go.ChangeShapes Go.WideShapes Go.Deep in
theorem open_items {H : Type} {enc : TypeId × Value → H} {w : World} {base : Nat} {v : Value} {d : DataW H} {p : List MemPlace} (ho : Value.okWide Try.prog w .any base 40 v) (h : DataW.Trod enc Try.prog w 0 (fun _ => true) true 40 v d p) :
    ∃ (a : Option Addr) (cap : Nat) (vs : List ItV), v = .slice a vs.length cap ∧ Items w a vs ∧ ∀ x ∈ vs, x.x < M64 := by
  obtain ⟨a, len, cap, rfl⟩ := okWide_slice Try.underlying40 ho
  obtain ⟨fuel, hf⟩ := h
  rcases open_slice Try.underlying40 hf with ⟨hcs, _⟩ | ⟨x, l, c, m, n, D, Pl, hcs, _, hl, hm, hmm, _, hi⟩
  · simp [Value.cells] at hcs
    obtain ⟨rfl, rfl, rfl⟩ := hcs
    exact ⟨none, 0, [], rfl, fun i hi => by simp at hi, fun x hx => (nomatch hx)⟩
  · simp [Value.cells] at hcs
    obtain ⟨rfl, rfl, rfl⟩ := hcs
    have hmc : m = cap := by simpa using hmm
    subst hmc
    have hce : Try.prog.cellsOf 42 = 3 := by kernel_rfl
    have each : ∀ i, i < len → ∃ q : ItV, w.cell? (x.add (i * 3)) = some (.int .u8 (q.kind.toNat : Int)) ∧ w.cell? (x.add (i * 3 + 1)) = some (.int .u64 (q.x : Int)) ∧ w.cell? (x.add (i * 3 + 2)) = some (.string (bstr q.s)) ∧ q.x < M64 := fun i hil => by
      obtain ⟨cs', h1, h2⟩ := hi i (by omega)
      rw [hce] at h1
      obtain ⟨_, hlen, hcell⟩ := World.cells?_some h1
      obtain ⟨xs, k, hk, hxy, _, hxl, hf⟩ := DataW.trod_struct Try.underlying42 h2
      match xs, hxl, cs', hlen with
      | [y0, y1, y2], _, [v0, v1, v2], _ =>
        have g0 := hf 0 _ rfl
        have g1 := hf 1 _ rfl
        have g2 := hf 2 _ rfl
        have k3 : Try.prog.cellsOf 5 = 1 := by kernel_rfl
        have k4 : Try.prog.cellsOf 22 = 1 := by kernel_rfl
        have k5 : Try.prog.cellsOf 9 = 1 := by kernel_rfl
        simp [k3, k4, k5] at g0 g1 g2
        obtain ⟨z0, rfl, hw0⟩ := int_field Try.underlying5 g0
        obtain ⟨z1, rfl, hw1⟩ := int_field Try.underlying22 g1
        obtain ⟨s, rfl⟩ := string_field Try.underlying9 g2
        have e0 := hcell 0 (by omega)
        have e1 := hcell 1 (by omega)
        have e2 := hcell 2 (by omega)
        rw [add_add] at e0 e1 e2
        simp at e0 e1 e2
        obtain ⟨u, rfl⟩ := u8_of z0 hw0
        have hu : 0 ≤ z1 ∧ z1 ≤ 18446744073709551615 := by
          simp [Lit.wf, IntKind.min, IntKind.max, IntKind.bits, IntKind.signed] at hw1
          omega
        obtain ⟨m1, rfl⟩ : ∃ m1 : Nat, z1 = (m1 : Int) := ⟨z1.toNat, by omega⟩
        exact ⟨⟨u, m1, s⟩, e0, e1, e2, by show m1 < M64; unfold M64; omega⟩
    haveI : Inhabited ItV := ⟨it0⟩
    obtain ⟨q, hq⟩ := choose_lt each
    refine ⟨some x, m, (List.range len).map q, by simp, fun i hil => ?_, fun y hy => ?_⟩
    · have hil' : i < len := by simpa using hil
      obtain ⟨h0, h1, h2, _⟩ := hq i hil'
      obtain ⟨b, off, spot⟩ := x
      have hspot : spot = none := by simpa [Addr.add] using World.cell?_spot (hq 0 (by omega)).1
      subst hspot
      rw [Go.Proofs.Ytllpcddfnjbeaaa.add_plain] at h0 h1 h2
      have hg : ((List.range len).map q).getD i it0 = q i := by simp [List.getD, hil']
      rw [hg]
      exact ⟨b, off, rfl, World.block_lt_of_cell? w _ h0, h0, by rw [Nat.add_assoc]; exact h1, by rw [Nat.add_assoc]; exact h2⟩
    · obtain ⟨i, hil, rfl⟩ := List.mem_map.1 hy
      exact (hq i (by simpa using hil)).2.2.2

/-- an item's bytes -/
def itemB (q : ItV) : List UInt8 :=
  if q.kind.toNat % 4 = 0 then numB q.x
  else if q.kind.toNat % 4 = 1 then numB (foldN (wrap64 (q.x : Int)))
  else if q.kind.toNat % 4 = 2 then numB (q.x % 2)
  else numB q.s.length ++ q.s

theorem i64_wrap (x : Int) : I64 (wrap64 x) := by
  unfold I64 wrap64
  omega
theorem itemB_len (q : ItV) (h : q.s.length ≤ 200) : (itemB q).length ≤ 210 := by
  unfold itemB
  have h1 := numB_len q.x
  have h2 := numB_len (foldN (wrap64 (q.x : Int)))
  have h3 := numB_len (q.x % 2)
  have h4 := numB_len q.s.length
  split
  · omega
  · split
    · omega
    · split
      · omega
      · rw [List.length_append]; omega

def allB (l : List ItV) : List UInt8 := l.flatMap itemB
theorem allB_snoc (l : List ItV) (k : Nat) (hk : k < l.length) : allB (l.take (k + 1)) = allB (l.take k) ++ itemB (l.getD k it0) := by
  unfold allB
  rw [List.take_succ_eq_append_getElem hk, List.flatMap_append]
  simp [List.getD, hk]
theorem allB_drop (l : List ItV) (k : Nat) (hk : k < l.length) : allB (l.drop k) = itemB (l.getD k it0) ++ allB (l.drop (k + 1)) := by
  unfold allB
  rw [List.drop_eq_getElem_cons hk, List.flatMap_cons]
  simp [List.getD, hk]
end Go.Proofs.Ytllpcddfnjbeaaa
