/- a slice of numbers that is only read. -/
import Derived.Test.YtebgojcecgimaaaSep
namespace Go.Proofs.Ytebgojcecgimaaa
set_option linter.unusedVariables false
open Go.RowKit
/-- a slice of numbers of one kind that is only read -/
def Nums (q : IntKind) (w : World) (a : Option Addr) (l : List Int) : Prop :=
  ∀ i, i < l.length → ∃ b off, a = some ⟨b, off, none⟩ ∧ b < w.heap.size ∧ w.cell? ⟨b, off + i, none⟩ = some (.int q (l.getD i 0))
theorem Nums.step {q : IntKind} {w w' : World} {a : Option Addr} {l : List Int} (h : Nums q w a l) (hs : Step [] w w') : Nums q w' a l := fun i hi => by
  obtain ⟨b, off, ha, hlt, hc⟩ := h i hi
  exact ⟨b, off, ha, Nat.lt_of_lt_of_le hlt hs.size, by rw [hs.cell hlt (by simp)]; exact hc⟩
theorem getD_take_num (l : List Int) (n i : Nat) (h : i < n) : (l.take n).getD i 0 = l.getD i 0 := by simp [List.getD, h]
theorem IsRow.nums {q : IntKind} {w : World} {a : Option Addr} {len cap : Nat} {z : List Int} (h : IsRow q w a len cap z) :
    ∃ l : List Int, l.length = len ∧ Nums q w a l ∧ (∀ x ∈ l, (Lit.int q x).wf = true) ∧ (a = none → len = 0 ∧ cap = 0) ∧ len ≤ maxLen := by
  rcases h with ⟨rfl, rfl, rfl, rfl⟩ | ⟨x, rfl, hl, hm, hz, hcell, hw⟩
  · exact ⟨[], rfl, fun i hi => by simp at hi, fun x hx => by simp at hx, fun _ => ⟨rfl, rfl⟩, Nat.zero_le _⟩
  · refine ⟨z.take len, by simp; omega, fun i hi => ?_, fun y hy => hw y (List.mem_of_mem_take hy), fun h => (nomatch h), by omega⟩
    have hi2 : i < len := by simp at hi; omega
    have hc := hcell i (by omega)
    obtain ⟨b, off, spot⟩ := x
    have hspot : spot = none := by simpa [Addr.add] using World.cell?_spot (hcell 0 (by omega))
    subst hspot
    rw [getD_take_num _ _ _ hi2]
    have hc' : w.cell? ⟨b, off + i, none⟩ = some (.int q (z.getD i 0)) := by rw [← add_plain]; exact hc
    exact ⟨b, off, rfl, World.block_lt_of_cell? w _ hc', hc'⟩
end Go.Proofs.Ytebgojcecgimaaa
