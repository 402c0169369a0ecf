/- Slices of ints: what is read, what is owned. -/
import Derived.Test.YtdfkagpnfgmbeaaSep
namespace Go.Proofs.Ytdfkagpnfgmbeaa
set_option linter.unusedVariables false
open Go.RowKit

def IsI (x : Int) : Prop := (Lit.int .i64 x).wf = true

instance (x : Int) : Decidable (IsI x) := inferInstanceAs (Decidable (_ = _))

def iVal (x : Int) : Value := .int .i64 x

theorem iVals_cell (l : List Int) : ∀ u ∈ l.map iVal, u.oneCell' = true := by
  intro u hu
  obtain ⟨b, _, rfl⟩ := List.mem_map.1 hu
  rfl

/-- a slice of ints that is only read -/
def Ints (w : World) (a : Option Addr) (l : List Int) : Prop :=
  ∀ i, i < l.length → ∃ b off, a = some ⟨b, off, none⟩ ∧ b < w.heap.size ∧ w.cell? ⟨b, off + i, none⟩ = some (.int .i64 (l.getD i 0))

theorem Ints.step {F : List Nat} {w w' : World} {a : Option Addr} {l : List Int} (h : Ints w a l) (hs : Step F w w') (hn : ∀ b off, a = some ⟨b, off, none⟩ → 0 < l.length → b ∉ F) : Ints w' a l := fun i hi => by
  obtain ⟨b, off, ha, hlt, hc⟩ := h i hi
  exact ⟨b, off, ha, Nat.lt_of_lt_of_le hlt hs.size, by rw [hs.cell hlt (hn b off ha (Nat.lt_of_le_of_lt (Nat.zero_le _) hi))]; exact hc⟩

/-- ints that a row of the call's own holds are read as ints -/
theorem owns_ints {w : World} {base e : Nat} {v : Value} {n : Nat} {l : List Int} (h : w.ownsRow base e 1 v n (l.map iVal)) :
    ∃ a cap, v = .slice a n cap ∧ l.length = n ∧ n ≤ maxLen ∧ n ≤ cap ∧ Ints w a l ∧ (a = none → n = 0 ∧ cap = 0) ∧ (∀ b off spot, a = some ⟨b, off, spot⟩ → base ≤ b ∧ b < w.heap.size) := by
  obtain ⟨hlen, h⟩ := h
  have hl : l.length = n := by simpa using hlen
  rcases h with ⟨rfl, rfl⟩ | ⟨g, cap, cur, rfl, hg, hh, hn, hcap, hsz, htake⟩
  · exact ⟨none, 0, rfl, hl, Nat.zero_le _, Nat.le_refl _, fun i hi => by omega, fun _ => ⟨rfl, rfl⟩, fun b off spot h => by cases h⟩
  · refine ⟨some ⟨g, 0, none⟩, cap, rfl, hl, by omega, hn, ?_, fun h => (by cases h), fun b off spot h => ?_⟩
    · intro i hi
      refine ⟨g, 0, rfl, ?_, ?_⟩
      · rcases Nat.lt_or_ge g w.heap.size with h' | h'
        · exact h'
        · rw [Array.getElem?_eq_none h'] at hh; cases hh
      · have hc : cur.toList[i]? = some (iVal (l.getD i 0)) := by
          have := congrArg (fun x : List Value => x[i]?) htake
          simp only [List.getElem?_take, List.getElem?_map] at this
          rw [if_pos (by omega)] at this
          rw [this]
          simp [List.getD, hi]
        have : cur[i]? = some (iVal (l.getD i 0)) := by simpa using hc
        simp [World.cell?, hh, this, iVal]
    · cases h
      refine ⟨hg, ?_⟩
      rcases Nat.lt_or_ge g w.heap.size with h' | h'
      · exact h'
      · rw [Array.getElem?_eq_none h'] at hh; cases hh

/-- what is appended: the cells of a slice of ints, nil or not -/
theorem Ints.news {w : World} {a : Option Addr} {l : List Int} (h : Ints w a l) : ∀ ad, a = some ad → ∀ j u, (l.map iVal)[j]? = some u → w.cell? (ad.add j) = some u := by
  intro ad ha j u hu
  have hj : j < l.length := by
    rcases Nat.lt_or_ge j l.length with h | h
    · exact h
    · rw [List.getElem?_eq_none (by simpa using h)] at hu; cases hu
  obtain ⟨b, off, ha', _, hc⟩ := h j hj
  rw [ha] at ha'
  cases ha'
  have : u = .int .i64 (l.getD j 0) := by
    rw [List.getElem?_map, List.getElem?_eq_getElem hj] at hu
    simp [iVal] at hu
    rw [← hu]
    simp [List.getD, hj]
  rw [this, ← hc, add_plain]

theorem getD_mem {l : List Int} {i : Nat} (h : i < l.length) : l.getD i 0 ∈ l := by
  rw [List.getD, List.getElem?_eq_getElem h]
  exact List.getElem_mem h

theorem Try.infoI : (Try.prog.info? 3).map (fun i => (i.zero, i.size, i.bytes)) = some (some (.int .i64 0), 1, 8) := by kernel_rfl
end Go.Proofs.Ytdfkagpnfgmbeaa
