/- EntryTwice: the plain law, and the opening of entries that came in. -/
import Derived.Test.YtjepglbolkbldaaEntL
import Derived.Test.YtjepglbolkbldaaOpen
import Derived.Deep.SlicePairs
namespace Go.Proofs.Ytjepglbolkbldaa
set_option linter.unusedVariables false
open Go.RowKit

theorem term_base (ix tm : Nat) (ts : List Nat) : termAt ix tm ts ix = (tm, 0) := by
  unfold termAt
  rw [if_neg (by omega), if_neg (by omega), if_pos rfl]
theorem term_past {ix tm : Nat} {ts : List Nat} {i : Nat} (h : ix + ts.length < i) : termAt ix tm ts i = (0, 7) := by
  unfold termAt
  rw [if_neg (by omega), if_pos h]
theorem term_lastT (ix tm : Nat) (ts : List Nat) : termAt ix tm ts (ix + ts.length) = (lastT tm ts, 0) := by
  unfold termAt lastT
  rw [if_neg (by omega), if_neg (by omega)]
  by_cases q : ts.length = 0
  · rw [if_pos (by omega), if_pos q]
  · rw [if_neg (by omega), if_neg q, show ix + ts.length - ix - 1 = ts.length - 1 by omega]
theorem known_past {ix tm : Nat} {ts : List Nat} (l : List En) (h : l.map key = keysFrom (ix + ts.length) (l.map (·.tm))) : knownN ix tm ts l = 0 := by
  cases l with
  | nil => rfl
  | cons x r =>
    simp only [List.map_cons, keysFrom, List.cons.injEq, key, Prod.mk.injEq] at h
    unfold knownN
    rw [term_past (by omega)]
    rw [if_neg (by intro h; simp at h)]
theorem known_all {ix tm : Nat} : ∀ (l : List En) (pre : List Nat), l.map key = keysFrom (ix + pre.length) (l.map (·.tm)) → knownN ix tm (pre ++ l.map (·.tm)) l = l.length := by
  intro l
  induction l with
  | nil => intro pre _; rfl
  | cons x r ih =>
    intro pre h
    simp only [List.map_cons, keysFrom, List.cons.injEq, key, Prod.mk.injEq] at h
    have ht : termAt ix tm (pre ++ (x :: r).map (·.tm)) x.ix = (x.tm, 0) := by
      unfold termAt
      rw [if_neg (by omega), if_neg (by simp; omega), if_neg (by omega)]
      congr 1
      rw [h.1.1, show ix + pre.length + 1 - ix - 1 = pre.length by omega]
      simp [List.getD]
    unfold knownN
    rw [if_pos ht]
    have h2 := ih (pre ++ [x.tm]) (by rw [show ix + (pre ++ [x.tm]).length = ix + pre.length + 1 by simp; omega]; exact h.2)
    rw [List.append_assoc] at h2
    have e : pre ++ (x :: r).map (·.tm) = pre ++ ([x.tm] ++ r.map (·.tm)) := rfl
    rw [e, h2]
    rfl
/-- entries behind the last one are put whole -/
theorem put_past (ix tm : Nat) (ts : List Nat) (l : List En) (hf : followF (ix + ts.length) (lastT tm ts) false l = 0) (hl : ts.length + l.length ≤ 1024) :
    putR ix tm ts (ix + ts.length) (lastT tm ts) l = (if l.length = 0 then 0 else ix + ts.length + 1, 0, ts ++ l.map (·.tm)) := by
  have hk := followF_keys _ _ _ _ hf
  unfold putR
  rw [if_pos hf, term_lastT, if_pos rfl, if_pos rfl, known_past l hk]
  by_cases q : l.length = 0
  · have : l = [] := List.eq_nil_of_length_eq_zero q
    subst this
    simp
  · rw [if_neg (by omega), if_neg (by omega), if_neg q]
    congr 2
    simp
/-- entries that stand there are not put anew -/
theorem put_again (ix tm : Nat) (l : List En) (hf : followF ix tm false l = 0) : putR ix tm (l.map (·.tm)) ix tm l = (0, 0, l.map (·.tm)) := by
  have hk := followF_keys _ _ _ _ hf
  unfold putR
  have h2 : knownN ix tm (l.map (·.tm)) l = l.length := known_all l [] hk
  rw [if_pos hf, term_base, if_pos rfl, if_pos rfl, h2, if_pos rfl]
theorem put_bad (ix tm : Nat) (ts : List Nat) (i t : Nat) (l : List En) (F : Int) (hF : followF i t false l = F) (h : F ≠ 0) : (putR ix tm ts i t l).2.1 = F := by
  unfold putR
  rw [hF, if_neg h]

theorem bool_field {H : Type} {enc : TypeId × Value → H} {P : Program} {w : World} {base : Nat} {spare : Nat → Bool} {held : Bool} {t : TypeId} {n : Nat} {u : Value} {y : DataW H × List MemPlace} (ht : P.underlying t = some .bool) (h : DataW.trod enc P w base spare held n t [u] = some y) : ∃ x : Bool, u = .bool x := by
  obtain ⟨x, h1, _⟩ := DataW.trod_bool ht h
  exact ⟨x, by simpa using h1⟩

/-- entries that came in -/
structure Came (w : World) (a : Option Addr) (cap : Nat) (l : List En) : Prop where
  ents : Ents w a l
  room : l.length ≤ cap
  data : ∀ x ∈ l, DataOk w x ∧ (0 < x.dn → ∀ b off, x.da = some ⟨b, off, none⟩ → b < w.heap.size) ∧ x.ix < 18446744073709551616 ∧ x.tm < 18446744073709551616

open Go.ChangeShapes Go.WideShapes Go.Deep in
theorem open_entries {H : Type} {enc : TypeId × Value → H} {w : World} {base : Nat} {v : Value} {d : DataW H} {p : List MemPlace} (ho : Value.okWide Try.prog w .any base 23 v) (h : DataW.Trod enc Try.prog w 0 (fun _ => true) true 23 v d p) :
    ∃ (a : Option Addr) (cap : Nat) (vs : List En), v = .slice a vs.length cap ∧ Came w a cap vs := by
  obtain ⟨a, len, cap, rfl⟩ := okWide_slice Try.underlying23 ho
  obtain ⟨fuel, hf⟩ := h
  rcases open_slice Try.underlying23 hf with ⟨hcs, _⟩ | ⟨x, l, c, m, n, D, Pl, hcs, _, hl, hm, hmm, _, hi⟩
  · simp [Value.cells] at hcs
    obtain ⟨rfl, rfl, rfl⟩ := hcs
    exact ⟨none, 0, [], rfl, fun i hi => by simp at hi, Nat.le_refl _, fun x hx => (nomatch hx)⟩
  · simp [Value.cells] at hcs
    obtain ⟨rfl, rfl, rfl⟩ := hcs
    have hmc : m = cap := by simpa using hmm
    subst hmc
    have hce : Try.prog.cellsOf 42 = 4 := by kernel_rfl
    have each : ∀ i, i < len → ∃ q : En, w.cell? (x.add (i * 4)) = some (.int .u64 (q.ix : Int)) ∧ w.cell? (x.add (i * 4 + 1)) = some (.int .u64 (q.tm : Int)) ∧ w.cell? (x.add (i * 4 + 2)) = some (.bool q.cf) ∧ w.cell? (x.add (i * 4 + 3)) = some (.slice q.da q.dn q.dc)
        ∧ DataOk w q ∧ (0 < q.dn → ∀ b off, q.da = some ⟨b, off, none⟩ → b < w.heap.size) ∧ q.ix < 18446744073709551616 ∧ q.tm < 18446744073709551616 := fun i hil => by
      obtain ⟨cs', h1, h2⟩ := hi i (by omega)
      rw [hce] at h1
      obtain ⟨_, hlen, hcell⟩ := World.cells?_some h1
      obtain ⟨xs, k, hk, hxy, _, hxl, hf⟩ := DataW.trod_struct Try.underlying42 h2
      match xs, hxl, cs', hlen with
      | [y0, y1, y2, y3], _, [v0, v1, v2, v3], _ =>
        have g0 := hf 0 _ rfl
        have g1 := hf 1 _ rfl
        have g2 := hf 2 _ rfl
        have g3 := hf 3 _ rfl
        have k3 : Try.prog.cellsOf 22 = 1 := by kernel_rfl
        have k4 : Try.prog.cellsOf 4 = 1 := by kernel_rfl
        have k5 : Try.prog.cellsOf 40 = 1 := by kernel_rfl
        simp [k3, k4, k5] at g0 g1 g2 g3
        obtain ⟨z0, rfl, hw0⟩ := int_field Try.underlying22 g0
        obtain ⟨z1, rfl, hw1⟩ := int_field Try.underlying22 g1
        obtain ⟨c2, rfl⟩ := bool_field Try.underlying4 g2
        have e0 := hcell 0 (by omega)
        have e1 := hcell 1 (by omega)
        have e2 := hcell 2 (by omega)
        have e3 := hcell 3 (by omega)
        rw [add_add] at e0 e1 e2 e3
        simp at e0 e1 e2 e3
        have hu0 : 0 ≤ z0 ∧ z0 ≤ 18446744073709551615 := by
          simp [Lit.wf, IntKind.min, IntKind.max, IntKind.bits, IntKind.signed] at hw0
          omega
        have hu1 : 0 ≤ z1 ∧ z1 ≤ 18446744073709551615 := by
          simp [Lit.wf, IntKind.min, IntKind.max, IntKind.bits, IntKind.signed] at hw1
          omega
        obtain ⟨m0, rfl⟩ : ∃ m0 : Nat, z0 = (m0 : Int) := ⟨z0.toNat, by omega⟩
        obtain ⟨m1, rfl⟩ : ∃ m1 : Nat, z1 = (m1 : Int) := ⟨z1.toNat, by omega⟩
        have hrow : ∃ (da : Option Addr) (dn dc : Nat) (zs : List Int), v3 = .slice da dn dc ∧ IsRow .u8 w da dn dc zs := by
          rcases open_ints Try.underlying40 Try.underlying5 (by kernel_rfl) g3 with ⟨hcs, _⟩ | ⟨x, l, c, zs, hcs, _, hl, hm, hz, _, hcell, hwz⟩
          · exact ⟨none, 0, 0, [], by simpa using hcs, .inl ⟨rfl, rfl, rfl, rfl⟩⟩
          · exact ⟨some x, l, c, zs, by simpa using hcs, .inr ⟨_, rfl, hl, hm, by simpa using hz, hcell, hwz⟩⟩
        obtain ⟨da, dn, dc, zs, rfl, hr⟩ := hrow
        obtain ⟨bs, hbl, _, hb, hbn, _, _⟩ := hr.bytes
        refine ⟨⟨m0, m1, c2, da, dn, dc⟩, e0, e1, e2, e3, ⟨bs, hbl, hb, hbn⟩, fun hq b off hda => ?_, by show m0 < _; omega, by show m1 < _; omega⟩
        simp only at hq hda
        obtain ⟨b2, off2, hb2, hlt, _⟩ := hb 0 (by omega)
        rw [hda] at hb2
        cases hb2
        exact hlt
    haveI : Inhabited En := ⟨en0⟩
    obtain ⟨q, hq⟩ := choose_lt each
    refine ⟨some x, m, (List.range len).map q, by simp, fun i hil => ?_, by simpa using hl, fun y hy => ?_⟩
    · have hil' : i < len := by simpa using hil
      obtain ⟨h0, h1, h2, h3, _⟩ := hq i hil'
      obtain ⟨b, off, spot⟩ := x
      have hspot : spot = none := by simpa [Addr.add] using World.cell?_spot (hq 0 (by omega)).1
      subst hspot
      rw [Go.Proofs.Ytjepglbolkbldaa.add_plain] at h0 h1 h2 h3
      have hg : ((List.range len).map q).getD i en0 = q i := by simp [List.getD, hil']
      rw [hg]
      exact ⟨b, off, rfl, World.block_lt_of_cell? w _ h0, h0, by rw [Nat.add_assoc]; exact h1, by rw [Nat.add_assoc]; exact h2, by rw [Nat.add_assoc]; exact h3⟩
    · obtain ⟨i, hil, rfl⟩ := List.mem_map.1 hy
      exact (hq i (by simpa using hil)).2.2.2.2
end Go.Proofs.Ytjepglbolkbldaa
