/- Opening a row of votes that came in. -/
import Derived.Test.YtnonejablndojaaOpen
import Derived.Test.YtnonejablndojaaBallotP
import Derived.Deep.SlicePairs
namespace Go.Proofs.Ytnonejablndojaa
open Go.ChangeShapes Go.WideShapes Go.RowKit Go.Deep
set_option linter.unusedVariables false

theorem bool_field {H : Type} {enc : TypeId × Value → H} {P : Program} {w : World} {base : Nat} {spare : Nat → Bool} {held : Bool} {t : TypeId} {n : Nat} {u : Value} {y : DataW H × List MemPlace} (ht : P.underlying t = some .bool) (h : DataW.trod enc P w base spare held n t [u] = some y) : ∃ x : Bool, u = .bool x := by
  obtain ⟨x, h1, _⟩ := DataW.trod_bool ht h
  exact ⟨x, by simpa using h1⟩

theorem open_votes {H : Type} {enc : TypeId × Value → H} {w : World} {base : Nat} {v : Value} {d : DataW H} {p : List MemPlace} (ho : Value.okWide Try.prog w .any base 23 v) (h : DataW.Trod enc Try.prog w 0 (fun _ => true) true 23 v d p) :
    ∃ (a : Option Addr) (cap : Nat) (vs : List (Int × Bool)), v = .slice a vs.length cap ∧ Votes w a vs ∧ ∀ x ∈ vs, IsI x.1 := by
  obtain ⟨a, len, cap, rfl⟩ := okWide_slice Try.underlying23 ho
  obtain ⟨fuel, hf⟩ := h
  rcases open_slice_pairs Try.underlying23 Try.underlying30 (by kernel_rfl) rfl rfl (by kernel_rfl) (by kernel_rfl) hf with ⟨hcs, _⟩ | ⟨x, l, c, m, n, V0, V1, D0, D1, P0, P1, hcs, _, hl, hm, hmm, _, hi⟩
  · simp [Value.cells] at hcs
    obtain ⟨rfl, rfl, rfl⟩ := hcs
    exact ⟨none, 0, [], rfl, fun i hi => by simp at hi, fun x hx => (nomatch hx)⟩
  · simp [Value.cells] at hcs
    obtain ⟨rfl, rfl, rfl⟩ := hcs
    have hmc : m = cap := by simpa using hmm
    subst hmc
    have each : ∀ i, i < len → ∃ q : Int × Bool, V0 i = .int .i64 q.1 ∧ V1 i = .bool q.2 ∧ IsI q.1 := fun i hil => by
      obtain ⟨_, _, h3, h4⟩ := hi i (by omega)
      obtain ⟨z, hz, hw⟩ := int_field Try.underlying3 h3
      obtain ⟨b, hb⟩ := bool_field Try.underlying4 h4
      exact ⟨(z, b), hz, hb, hw⟩
    obtain ⟨q, hq⟩ := choose_lt each
    refine ⟨some x, m, (List.range len).map q, by simp, fun i hil => ?_, fun y hy => ?_⟩
    · have hil' : i < len := by simpa using hil
      obtain ⟨h1, h2, _, _⟩ := hi i (by omega)
      obtain ⟨b, off, spot⟩ := x
      have hspot : spot = none := by
        have h0 := (hi 0 (by omega)).1
        simpa [Addr.add] using World.cell?_spot h0
      subst hspot
      rw [add_plain] at h1 h2
      have hg : ((List.range len).map q).getD i (0, false) = q i := by simp [List.getD, hil']
      rw [hg]
      obtain ⟨e1, e2, _⟩ := hq i hil'
      rw [e1] at h1
      rw [e2] at h2
      exact ⟨b, off, rfl, World.block_lt_of_cell? w _ h1, h1, by rw [← Nat.add_assoc] at h2; exact h2⟩
    · obtain ⟨i, hil, rfl⟩ := List.mem_map.1 hy
      exact (hq i (by simpa using hil)).2.2
theorem IsRow.ints {w : World} {a : Option Addr} {len cap : Nat} {z : List Int} (h : IsRow .i64 w a len cap z) :
    ∃ l : List Int, l.length = len ∧ Ints w a l ∧ (∀ x ∈ l, IsI x) ∧ (a = none → len = 0 ∧ cap = 0) ∧ len ≤ maxLen := by
  rcases h with ⟨rfl, rfl, rfl, rfl⟩ | ⟨x, rfl, hl, hm, hz, hcell, hw⟩
  · exact ⟨[], rfl, fun i hi => by simp at hi, fun x hx => by simp at hx, fun _ => ⟨rfl, rfl⟩, Nat.zero_le _⟩
  · refine ⟨z.take len, by simp; omega, fun i hi => ?_, fun y hy => hw y (List.mem_of_mem_take hy), fun h => (nomatch h), by omega⟩
    have hi2 : i < len := by simp at hi; omega
    have hc := hcell i (by omega)
    obtain ⟨b, off, spot⟩ := x
    have hspot : spot = none := by simpa [Addr.add] using World.cell?_spot (hcell 0 (by omega))
    subst hspot
    rw [getD_take _ _ _ _ hi2]
    have hc' : w.cell? ⟨b, off + i, none⟩ = some (.int .i64 (z.getD i 0)) := by rw [← add_plain]; exact hc
    exact ⟨b, off, rfl, World.block_lt_of_cell? w _ hc', hc'⟩
end Go.Proofs.Ytnonejablndojaa
