/- Requests that come in: structs with structs within. -/
import Derived.Test.YtdfkagpnfgmbeaaSqO
import Derived.Test.YtdfkagpnfgmbeaaCmdP
namespace Go.Proofs.Ytdfkagpnfgmbeaa
set_option linter.unusedVariables false
open Go.RowKit Go.ChangeShapes Go.WideShapes Go.Deep

section
variable {H : Type} {enc : TypeId × Value → H} {w : World} {n : Nat} {y : DataW H × List MemPlace}
theorem text_field {v : Value} (h : DataW.trod enc Try.prog w 0 (fun _ => true) true n 9 [v] = some y) : ∃ l : List UInt8, v = .string (bstr l) ∧ l.length ≤ maxLen := by
  obtain ⟨s0, e0, _, z0⟩ := DataW.trod_string Try.underlying9 h
  obtain ⟨l0, rfl, k0⟩ := bstr_of s0
  simp only [List.cons.injEq, and_true] at e0
  exact ⟨l0, e0, by rw [k0]; exact z0⟩
theorem texts_field {v : Value} (h : DataW.trod enc Try.prog w 0 (fun _ => true) true n 34 [v] = some y) : ∃ (a : Option Addr) (c : Nat) (l : List (List UInt8)), v = .slice a l.length c ∧ TxS w a l ∧ (a = none → l.length = 0 ∧ c = 0) ∧ l.length ≤ maxLen ∧ ∀ d ∈ l, d.length ≤ maxLen := by
  rcases open_strings Try.underlying34 Try.underlying9 (by kernel_rfl) h with ⟨hcs, _⟩ | ⟨x, len, c, ss, hcs, _, hl, hm, hz, _, hcell, hws⟩
  · exact ⟨none, 0, [], by simpa using hcs, fun i hi => by simp at hi, fun _ => ⟨rfl, rfl⟩, Nat.zero_le _, fun d hd => by simp at hd⟩
  · have hz' : ss.length = c := by simpa using hz
    refine ⟨some x, c, (ss.take len).map fun s => s.data.toList, ?_, fun i hi => ?_, (fun h => by cases h), ?_, fun d hd => ?_⟩
    · rw [List.length_map, List.length_take, Nat.min_eq_left (by omega)]
      simpa using hcs
    · have hi2 : i < len := by simp at hi; omega
      have hc := hcell i (by omega)
      obtain ⟨b, off, spot⟩ := x
      have hspot : spot = none := by simpa [Addr.add] using World.cell?_spot (hcell 0 (by omega))
      subst hspot
      have hc' : w.cell? ⟨b, off + i, none⟩ = some (.string (ss.getD i ByteArray.empty)) := by rw [← add_plain]; exact hc
      refine ⟨b, off, rfl, World.block_lt_of_cell? w _ hc', ?_⟩
      rw [hc']
      have hiss : i < ss.length := by omega
      simp [List.getD, hi2, hiss, bstr_list]
    · rw [List.length_map, List.length_take]; omega
    · obtain ⟨s, hs, rfl⟩ := List.mem_map.1 hd
      have := hws s (List.mem_of_mem_take hs)
      show s.data.toList.length ≤ maxLen
      rw [Array.length_toList]
      exact this
set_option maxRecDepth 20000 in
theorem spec_field {cs : List Value} (hlen : cs.length = 11) (h : DataW.trod enc Try.prog w 0 (fun _ => true) true n 36 cs = some y) : ∃ (s : PS) (a : Option Addr) (c : Nat), cs = spC s a s.ds.length c ∧ SpIn w a c s := by
  obtain ⟨xs, k, hk, hxy, _, hxl, hf⟩ := DataW.trod_struct Try.underlying36 h
  have hxl' : xs.length = 11 := by simpa using hxl
  match xs, hxl', cs, hlen with
  | [y0, y1, y2, y3, y4, y5, y6, y7, y8, y9, y10], _, [v0, v1, v2, v3, v4, v5, v6, v7, v8, v9, v10], _ =>
    have g0 := hf 0 _ rfl
    have g1 := hf 1 _ rfl
    have g2 := hf 2 _ rfl
    have g3 := hf 3 _ rfl
    have g4 := hf 4 _ rfl
    have g5 := hf 5 _ rfl
    have g6 := hf 6 _ rfl
    have g7 := hf 7 _ rfl
    have g8 := hf 8 _ rfl
    have g9 := hf 9 _ rfl
    have g10 := hf 10 _ rfl
    have k1 : Try.prog.cellsOf 9 = 1 := by kernel_rfl
    have k2 : Try.prog.cellsOf 3 = 1 := by kernel_rfl
    have k3 : Try.prog.cellsOf 2 = 1 := by kernel_rfl
    have k4 : Try.prog.cellsOf 34 = 1 := by kernel_rfl
    simp [k1, k2, k3, k4] at g0 g1 g2 g3 g4 g5 g6 g7 g8 g9 g10
    obtain ⟨l0, rfl, z0⟩ := text_field g0
    obtain ⟨l1, rfl, z1⟩ := text_field g1
    obtain ⟨i2, rfl, w2⟩ := int_field Try.underlying3 g2
    obtain ⟨i3, rfl, w3⟩ := int_field Try.underlying2 g3
    obtain ⟨a, c, l, rfl, q1, q2, q3, q4⟩ := texts_field g4
    obtain ⟨i5, rfl, w5⟩ := int_field Try.underlying2 g5
    obtain ⟨i6, rfl, w6⟩ := int_field Try.underlying2 g6
    obtain ⟨i7, rfl, w7⟩ := int_field Try.underlying3 g7
    obtain ⟨i8, rfl, w8⟩ := int_field Try.underlying2 g8
    obtain ⟨l9, rfl, z9⟩ := text_field g9
    obtain ⟨ia, rfl, wa⟩ := int_field Try.underlying3 g10
    exact ⟨⟨l0, l1, i2, i3, l, i5, i6, i7, i8, l9, ia⟩, a, c, rfl, q1, q2, ⟨i64_of w2, i64_of w3, i64_of w5, i64_of w6, i64_of w7, i64_of w8, i64_of wa⟩, z0, z1, z9, q3, q4⟩
theorem u64_of {z : Int} (h : (Lit.int .u64 z).wf = true) : ∃ x : Nat, z = (x : Int) ∧ x < M64 := by
  have := h
  simp [Lit.wf, IntKind.min, IntKind.max, IntKind.bits, IntKind.signed] at this
  unfold M64
  exact ⟨z.toNat, by omega, by omega⟩
/-- a command that came in -/
structure CmIn (w : World) (a : Option Addr) (k : Nat) (c : PC) : Prop where
  sp : SpIn w a k c.sp
  kd : I64 c.kd
  tk : c.tk < M64
  vl : I64 c.vl
  nm : c.nm.length ≤ maxLen
  wk : c.wk.length ≤ maxLen
set_option maxRecDepth 20000 in
theorem cmd_field {cs : List Value} (hlen : cs.length = 16) (h : DataW.trod enc Try.prog w 0 (fun _ => true) true n 38 cs = some y) : ∃ (c : PC) (a : Option Addr) (k : Nat), cs = cmC c a c.sp.ds.length k ∧ CmIn w a k c := by
  obtain ⟨xs, k, hk, hxy, _, hxl, hf⟩ := DataW.trod_struct Try.underlying38 h
  have hxl' : xs.length = 6 := by simpa using hxl
  match xs, hxl', cs, hlen with
  | [y0, y1, y2, y3, y4, y5], _, [v0, v1, v2, v3, v4, u0, u1, u2, u3, u4, u5, u6, u7, u8, u9, u10], _ =>
    have g0 := hf 0 _ rfl
    have g1 := hf 1 _ rfl
    have g2 := hf 2 _ rfl
    have g3 := hf 3 _ rfl
    have g4 := hf 4 _ rfl
    have g5 := hf 5 _ rfl
    have k1 : Try.prog.cellsOf 9 = 1 := by kernel_rfl
    have k2 : Try.prog.cellsOf 3 = 1 := by kernel_rfl
    have k3 : Try.prog.cellsOf 2 = 1 := by kernel_rfl
    have k4 : Try.prog.cellsOf 33 = 1 := by kernel_rfl
    have k5 : Try.prog.cellsOf 36 = 11 := by kernel_rfl
    simp [k1, k2, k3, k4, k5] at g0 g1 g2 g3 g4 g5
    obtain ⟨i0, rfl, w0⟩ := int_field Try.underlying3 g0
    obtain ⟨l1, rfl, z1⟩ := text_field g1
    obtain ⟨l2, rfl, z2⟩ := text_field g2
    obtain ⟨i3, rfl, w3⟩ := int_field Try.underlying33 g3
    obtain ⟨i4, rfl, w4⟩ := int_field Try.underlying2 g4
    obtain ⟨s, a, c, hcs, hin⟩ := spec_field rfl g5
    obtain ⟨x3, rfl, hx3⟩ := u64_of w3
    refine ⟨⟨i0, l1, l2, x3, i4, s⟩, a, c, ?_, hin, i64_of w0, hx3, i64_of w4, z1, z2⟩
    show _ :: _ :: _ :: _ :: _ :: _ = _ :: _ :: _ :: _ :: _ :: spC s a s.ds.length c
    rw [← hcs]
/-- a request that came in -/
structure RqIn (w : World) (a : Option Addr) (k : Nat) (q : PQ) : Prop where
  c : CmIn w a k q.c
  cl : q.cl < M64
  no : q.no < M64
set_option maxRecDepth 20000 in
theorem open_request {base : Nat} {v : Value} {d : DataW H} {p : List MemPlace} (ho : Value.okWide Try.prog w .any base 40 v) (h : DataW.Trod enc Try.prog w 0 (fun _ => true) true 40 v d p) :
    ∃ (q : PQ) (a : Option Addr) (k : Nat), v = .agg (rqC q a q.c.sp.ds.length k).toArray ∧ RqIn w a k q := by
  obtain ⟨cs, rfl, hsz⟩ := okWide_struct Try.underlying40 ho
  obtain ⟨fuel, hf0⟩ := h
  obtain ⟨xs, k, _, _, hlen, hxl, hf⟩ := DataW.trod_struct Try.underlying40 hf0
  have hxl' : xs.length = 3 := by simpa using hxl
  have hcells : (Value.agg cs).cells.toList = cs.toList := rfl
  rw [hcells] at hf hlen
  have h18 : cs.toList.length = 18 := by
    have k9 : Try.prog.cellsOf 40 = 18 := by kernel_rfl
    rw [hlen, k9]
  have hgo : ∀ l : List Value, cs.toList = l → l.length = 18 → ∃ (q : PQ) (a : Option Addr) (k : Nat), l = rqC q a q.c.sp.ds.length k ∧ RqIn w a k q := by
    intro l hl h18
    rw [hl] at hf
    match xs, hxl', l, h18 with
    | [y0, y1, y2], _, [v0, v1, u0, u1, u2, u3, u4, u5, u6, u7, u8, u9, u10, u11, u12, u13, u14, u15], _ =>
      have g0 := hf 0 _ rfl
      have g1 := hf 1 _ rfl
      have g2 := hf 2 _ rfl
      have k4 : Try.prog.cellsOf 33 = 1 := by kernel_rfl
      have k5 : Try.prog.cellsOf 38 = 16 := by kernel_rfl
      simp [k4, k5] at g0 g1 g2
      obtain ⟨i0, rfl, w0⟩ := int_field Try.underlying33 g0
      obtain ⟨i1, rfl, w1⟩ := int_field Try.underlying33 g1
      obtain ⟨c, a, k, hcs, hin⟩ := cmd_field rfl g2
      obtain ⟨x0, rfl, hx0⟩ := u64_of w0
      obtain ⟨x1, rfl, hx1⟩ := u64_of w1
      refine ⟨⟨x0, x1, c⟩, a, k, ?_, hin, hx0, hx1⟩
      show _ :: _ :: _ = _ :: _ :: cmC c a c.sp.ds.length k
      rw [← hcs]
  obtain ⟨q, a, k, h1, h2⟩ := hgo _ rfl h18
  refine ⟨q, a, k, ?_, h2⟩
  congr 1
  apply Array.toList_inj.1
  rw [h1]
end
end Go.Proofs.Ytdfkagpnfgmbeaa
