/- a slice of strings that is only read. -/
import Derived.Test.YtdfkagpnfgmbeaaSep
import Derived.SliceStrings
import Derived.OpenShut
namespace Go.Proofs.Ytdfkagpnfgmbeaa
set_option linter.unusedVariables false
open Go.RowKit
def Strs (w : World) (a : Option Addr) (l : List ByteArray) : Prop :=
  ∀ i, i < l.length → ∃ b off, a = some ⟨b, off, none⟩ ∧ b < w.heap.size ∧ w.cell? ⟨b, off + i, none⟩ = some (.string (l.getD i ByteArray.empty))
theorem Strs.step {w w' : World} {a : Option Addr} {l : List ByteArray} (h : Strs w a l) (hs : Step [] w w') : Strs w' a l := fun i hi => by
  obtain ⟨b, off, ha, hlt, hc⟩ := h i hi
  exact ⟨b, off, ha, Nat.lt_of_lt_of_le hlt hs.size, by rw [hs.cell hlt (by simp)]; exact hc⟩
theorem getD_take_str (l : List ByteArray) (n i : Nat) (h : i < n) : (l.take n).getD i ByteArray.empty = l.getD i ByteArray.empty := by simp [List.getD, h]
set_option maxRecDepth 20000 in
open Go.ChangeShapes Go.WideShapes in
theorem open_strs {H : Type} {enc : TypeId × Value → H} {w : World} {base : Nat} {v : Value} {d : DataW H} {p : List MemPlace} (ho : Value.okWide Try.prog w .any base 34 v) (h : DataW.Trod enc Try.prog w 0 (fun _ => true) true 34 v d p) :
    ∃ (a : Option Addr) (cap : Nat) (l : List ByteArray), v = .slice a l.length cap ∧ Strs w a l ∧ ∀ s ∈ l, s.size ≤ maxLen := by
  obtain ⟨a, len, cap, rfl⟩ := okWide_slice Try.underlying34 ho
  obtain ⟨fuel, hf⟩ := h
  rcases open_strings Try.underlying34 Try.underlying9 (by kernel_rfl) hf with ⟨hcs, _⟩ | ⟨x, l, c, ss, hcs, _, hl, hm, hz, _, hcell, hws⟩
  · simp [Value.cells] at hcs
    obtain ⟨rfl, rfl, rfl⟩ := hcs
    exact ⟨none, 0, [], rfl, fun i hi => by simp at hi, fun s hs => by simp at hs⟩
  · simp [Value.cells] at hcs
    obtain ⟨rfl, rfl, rfl⟩ := hcs
    have hz' : ss.length = cap := by simpa using hz
    refine ⟨some x, cap, ss.take len, ?_, fun i hi => ?_, fun s hs => hws s (List.mem_of_mem_take hs)⟩
    · rw [List.length_take, Nat.min_eq_left (by omega)]
    · have hi2 : i < len := by simp at hi; omega
      have hc := hcell i (by omega)
      obtain ⟨b, off, spot⟩ := x
      have hspot : spot = none := by simpa [Addr.add] using World.cell?_spot (hcell 0 (by omega))
      subst hspot
      rw [getD_take_str _ _ _ hi2]
      have hc' : w.cell? ⟨b, off + i, none⟩ = some (.string (ss.getD i ByteArray.empty)) := by rw [← add_plain]; exact hc
      exact ⟨b, off, rfl, World.block_lt_of_cell? w _ hc', hc'⟩
end Go.Proofs.Ytdfkagpnfgmbeaa
