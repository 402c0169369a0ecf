/- a slice of ints that came in. -/
import Derived.Test.YtdfkagpnfgmbeaaIntsB
namespace Go.Proofs.Ytdfkagpnfgmbeaa
set_option linter.unusedVariables false
open Go.RowKit

theorem IsRow.ints {w : World} {a : Option Addr} {len cap : Nat} {z : List Int} (h : IsRow .i64 w a len cap z) :
    ∃ l : List Int, l.length = len ∧ Ints w a l ∧ (∀ x ∈ l, IsI x) ∧ (a = none → len = 0 ∧ cap = 0) ∧ len ≤ maxLen := by
  rcases h with ⟨rfl, rfl, rfl, rfl⟩ | ⟨x, rfl, hl, hm, hz, hcell, hw⟩
  · exact ⟨[], rfl, fun i hi => by simp at hi, fun x hx => by simp at hx, fun _ => ⟨rfl, rfl⟩, Nat.zero_le _⟩
  · refine ⟨z.take len, by simp; omega, fun i hi => ?_, fun y hy => hw y (List.mem_of_mem_take hy), fun h => (nomatch h), by omega⟩
    have hi2 : i < len := by simp at hi; omega
    have hc := hcell i (by omega)
    obtain ⟨b, off, spot⟩ := x
    have hspot : spot = none := by simpa [Addr.add] using World.cell?_spot (hcell 0 (by omega))
    subst hspot
    rw [getD_take _ _ _ _ hi2]
    have hc' : w.cell? ⟨b, off + i, none⟩ = some (.int .i64 (z.getD i 0)) := by rw [← add_plain]; exact hc
    exact ⟨b, off, rfl, World.block_lt_of_cell? w _ hc', hc'⟩
end Go.Proofs.Ytdfkagpnfgmbeaa
