/- the arguments opened. -/
import Derived.Test.YtdfkagpnfgmbeaaSqM
import Derived.Test.YtdfkagpnfgmbeaaOpen
import Derived.Test.YtdfkagpnfgmbeaaStrs
namespace Go.Proofs.Ytdfkagpnfgmbeaa
set_option linter.unusedVariables false
open Go.RowKit

theorem i64_of {z : Int} (h : (Lit.int .i64 z).wf = true) : I64 z := by
  have := h
  simp [Lit.wf, IntKind.min, IntKind.max, IntKind.bits, IntKind.signed] at this
  unfold I64
  omega
/-- a spec that came in -/
structure SpIn (w : World) (a : Option Addr) (c : Nat) (s : PS) : Prop where
  ds : TxS w a s.ds
  nil : a = none → s.ds.length = 0 ∧ c = 0
  wf : WfS s
  nm : s.nm.length ≤ maxLen
  tn : s.tn.length ≤ maxLen
  cr : s.cr.length ≤ maxLen
  dl : s.ds.length ≤ maxLen
  dm : ∀ d ∈ s.ds, d.length ≤ maxLen

theorem bstr_of (s : ByteArray) : ∃ l, s = bstr l ∧ l.length = s.size := ⟨s.data.toList, (bstr_list s).symm, by rw [Array.length_toList]; rfl⟩
set_option maxRecDepth 20000 in
open Go.ChangeShapes Go.WideShapes Go.Deep in
theorem open_spec {H : Type} {enc : TypeId × Value → H} {w : World} {base : Nat} {v : Value} {d : DataW H} {p : List MemPlace} (ho : Value.okWide Try.prog w .any base 36 v) (h : DataW.Trod enc Try.prog w 0 (fun _ => true) true 36 v d p) :
    ∃ (s : PS) (a : Option Addr) (c : Nat), v = .agg (spC s a s.ds.length c).toArray ∧ SpIn w a c s := by
  obtain ⟨cs, n, rfl, hsz, hf⟩ := struct_fields Try.underlying36 (by kernel_rfl) (by kernel_rfl) ho h
  obtain ⟨u0, y0, h0, g0⟩ := hf 0 _ rfl
  obtain ⟨u1, y1, h1, g1⟩ := hf 1 _ rfl
  obtain ⟨u2, y2, h2, g2⟩ := hf 2 _ rfl
  obtain ⟨u3, y3, h3, g3⟩ := hf 3 _ rfl
  obtain ⟨u4, y4, h4, g4⟩ := hf 4 _ rfl
  obtain ⟨u5, y5, h5, g5⟩ := hf 5 _ rfl
  obtain ⟨u6, y6, h6, g6⟩ := hf 6 _ rfl
  obtain ⟨u7, y7, h7, g7⟩ := hf 7 _ rfl
  obtain ⟨u8, y8, h8, g8⟩ := hf 8 _ rfl
  obtain ⟨u9, y9, h9, g9⟩ := hf 9 _ rfl
  obtain ⟨ua, ya, ha, ga⟩ := hf 10 _ rfl
  obtain ⟨s0, e0, _, z0⟩ := DataW.trod_string Try.underlying9 g0
  obtain ⟨s1, e1, _, z1⟩ := DataW.trod_string Try.underlying9 g1
  obtain ⟨i2, rfl, w2⟩ := int_field Try.underlying3 g2
  obtain ⟨i3, rfl, w3⟩ := int_field Try.underlying2 g3
  obtain ⟨i5, rfl, w5⟩ := int_field Try.underlying2 g5
  obtain ⟨i6, rfl, w6⟩ := int_field Try.underlying2 g6
  obtain ⟨i7, rfl, w7⟩ := int_field Try.underlying3 g7
  obtain ⟨i8, rfl, w8⟩ := int_field Try.underlying2 g8
  obtain ⟨s9, e9, _, z9⟩ := DataW.trod_string Try.underlying9 g9
  obtain ⟨ia, rfl, wa⟩ := int_field Try.underlying3 ga
  obtain ⟨l0, rfl, k0⟩ := bstr_of s0
  obtain ⟨l1, rfl, k1⟩ := bstr_of s1
  obtain ⟨l9, rfl, k9⟩ := bstr_of s9
  have hrow : ∃ (a : Option Addr) (c : Nat) (l : List (List UInt8)), u4 = .slice a l.length c ∧ TxS w a l ∧ (a = none → l.length = 0 ∧ c = 0) ∧ l.length ≤ maxLen ∧ ∀ d ∈ l, d.length ≤ maxLen := by
    rcases open_strings Try.underlying34 Try.underlying9 (by kernel_rfl) g4 with ⟨hcs, _⟩ | ⟨x, len, c, ss, hcs, _, hl, hm, hz, _, hcell, hws⟩
    · exact ⟨none, 0, [], by simpa using hcs, fun i hi => by simp at hi, fun _ => ⟨rfl, rfl⟩, Nat.zero_le _, fun d hd => by simp at hd⟩
    · have hz' : ss.length = c := by simpa using hz
      refine ⟨some x, c, (ss.take len).map fun s => s.data.toList, ?_, fun i hi => ?_, (fun h => by cases h), ?_, fun d hd => ?_⟩
      · rw [List.length_map, List.length_take, Nat.min_eq_left (by omega)]
        simpa using hcs
      · have hi2 : i < len := by simp at hi; omega
        have hc := hcell i (by omega)
        obtain ⟨b, off, spot⟩ := x
        have hspot : spot = none := by simpa [Addr.add] using World.cell?_spot (hcell 0 (by omega))
        subst hspot
        have hc' : w.cell? ⟨b, off + i, none⟩ = some (.string (ss.getD i ByteArray.empty)) := by rw [← add_plain]; exact hc
        refine ⟨b, off, rfl, World.block_lt_of_cell? w _ hc', ?_⟩
        rw [hc']
        have hiss : i < ss.length := by omega
        simp [List.getD, hi2, hiss, bstr_list]
      · rw [List.length_map, List.length_take]; omega
      · obtain ⟨s, hs, rfl⟩ := List.mem_map.1 hd
        have := hws s (List.mem_of_mem_take hs)
        show s.data.toList.length ≤ maxLen
        rw [Array.length_toList]
        exact this
  obtain ⟨a, c, l, rfl, q1, q2, q3, q4⟩ := hrow
  refine ⟨⟨l0, l1, i2, i3, l, i5, i6, i7, i8, l9, ia⟩, a, c, ?_, q1, q2, ⟨i64_of w2, i64_of w3, i64_of w5, i64_of w6, i64_of w7, i64_of w8, i64_of wa⟩, by rw [k0]; exact z0, by rw [k1]; exact z1, by rw [k9]; exact z9, q3, q4⟩
  congr 1
  apply Array.ext_getElem?
  intro i
  simp only [List.cons.injEq, and_true] at e0 e1 e9
  subst e0 e1 e9
  match i with
  | 0 => exact h0
  | 1 => exact h1
  | 2 => exact h2
  | 3 => exact h3
  | 4 => exact h4
  | 5 => exact h5
  | 6 => exact h6
  | 7 => exact h7
  | 8 => exact h8
  | 9 => exact h9
  | 10 => exact ha
  | n + 11 => rw [Array.getElem?_eq_none (by simp at hsz; omega), Array.getElem?_eq_none (by simp [spC])]
end Go.Proofs.Ytdfkagpnfgmbeaa
