/- heap E (string, uint64): what it is in memory. -/
import Derived.Test.YtebgojcecgimaaaHpAE
import Derived.Test.YtebgojcecgimaaaMapLen
import Derived.BigRegion
import Derived.StillTailTactics
import Derived.WideKeyEntry
namespace Go.Proofs.Ytebgojcecgimaaa
set_option linter.unusedVariables false
set_option linter.unusedSectionVars false
open Go.RowKit
namespace HpE
def itB (x : It) : List Value := [.string (x.1), .int .u64 (x.2)]
def flatI (l : List It) : List Value := l.flatMap itB
theorem flat_len (l : List It) : (flatI l).length = l.length * 2 := by
  induction l with
  | nil => rfl
  | cons x r ih => simp only [flatI, List.flatMap_cons, List.length_append] at ih ⊢; rw [ih]; simp [itB]; omega
theorem flat_get : ∀ (l : List It) (i : Nat), i < l.length → (flatI l)[i * 2]? = some (.string ((Hp.nth l i).1)) ∧ (flatI l)[i * 2 + 1]? = some (.int .u64 ((Hp.nth l i).2))
  | [], i, h => absurd h (Nat.not_lt_zero _)
  | x :: r, 0, _ => ⟨rfl, rfl⟩
  | x :: r, i + 1, h => by
    obtain ⟨h1, h2⟩ := flat_get r i (by simpa using h)
    have e : flatI (x :: r) = itB x ++ flatI r := rfl
    have e2 : Hp.nth (x :: r) (i + 1) = Hp.nth r i := rfl
    rw [e, e2, ← h1, ← h2]
    constructor
    · rw [List.getElem?_append_right (by simp [itB]; omega)]
      congr 1
      simp [itB]
      omega
    · rw [List.getElem?_append_right (by simp [itB]; omega)]
      congr 1
      simp [itB]
      omega
theorem flat_set : ∀ (l : List It) (i : Nat) (x : It), i < l.length → ((flatI l).set (i * 2) (.string (x.1))).set (i * 2 + 1) (.int .u64 (x.2)) = flatI (l.set i x)
  | [], i, x, h => absurd h (Nat.not_lt_zero _)
  | y :: r, 0, x, _ => rfl
  | y :: r, i + 1, x, h => by
    have h1 := flat_set r i x (by simpa using h)
    have e : flatI (y :: r) = itB y ++ flatI r := rfl
    have e2 : flatI ((y :: r).set (i + 1) x) = itB y ++ flatI (r.set i x) := rfl
    rw [e, e2, ← h1, List.set_append_right _ _ (by simp [itB]; omega), List.set_append_right _ _ (by simp [itB]; omega)]
    have l2 : (itB y).length = 2 := rfl
    rw [l2]
    congr 2
    · congr 1
      omega
    · omega
theorem flat_set_rank (l : List It) (i : Nat) (v : Int) (h : i < l.length) : (flatI l).set (i * 2 + 1) (.int .u64 (v)) = flatI (l.set i ((Hp.nth l i).1, v)) := by
  rw [← flat_set l i ((Hp.nth l i).1, v) h]
  congr 1
  obtain ⟨h1, h2⟩ := flat_get l i h
  exact (list_set_self _ _ _ h1).symm
theorem flat_app (l r : List It) : flatI (l ++ r) = flatI l ++ flatI r := by simp [flatI]
theorem flat_one (l : List It) : ∀ u ∈ flatI l, u.oneCell' = true := by
  intro u hu
  simp only [flatI, List.mem_flatMap] at hu
  obtain ⟨x, _, hu⟩ := hu
  simp only [itB, List.mem_cons, List.not_mem_nil, or_false] at hu
  rcases hu with rfl | rfl <;> rfl
theorem flat_take (l : List It) (n : Nat) (h : n ≤ l.length) : (flatI l).take (n * 2) = flatI (l.take n) := by
  conv => lhs; rw [← List.take_append_drop n l, flat_app]
  rw [List.take_append_of_le_length (by rw [flat_len]; simp; omega), List.take_of_length_le (by rw [flat_len]; simp; omega)]

theorem zeroN (w : World) : (zeroValue 3).run Try.prog w = .ok ((intEl .i64).val 0) w := by kernel_rfl
/-- a heap, whatever order it is in -/
structure HR (w : World) (base hb : Nat) (lv : Value) (mb : Nat) (l : List It) (f : ByteArray → Option Int) : Prop where
  blk : Blk w hb #[lv, .map (some mb)] 71
  own : w.ownsRow base 66 2 lv l.length (flatI l)
  map : MapF (strKey Try.underlying9) (intEl .i64) w mb l.length f
  at' : Hp.AtOK (fun x : It => x.1) l f
  good : ∀ x ∈ l, ((strKey Try.underlying9) : KeyT Try.prog _ _).good x.1
  low : base ≤ hb ∧ base ≤ mb
  ap1 : hb ∉ foot lv
  ap2 : mb ∉ foot lv
  ap3 : hb ≠ mb
  few : l.length ≤ 100000
def footH (hb : Nat) (lv : Value) (mb : Nat) : List Nat := hb :: mb :: foot lv
variable {w w' : World} {base hb mb : Nat} {lv : Value} {l : List It} {f : ByteArray → Option Int} {F : List Nat}
theorem HR.step (h : HR w base hb lv mb l f) (hs : Step F w w') (hn : ∀ k, k ∈ footH hb lv mb → k ∉ F) : HR w' base hb lv mb l f :=
  ⟨h.blk.step hs (hn _ (by simp [footH])), owns_step h.own hs (fun k hk => hn k (by simp [footH, hk])), h.map.step hs (hn _ (by simp [footH])), h.at', h.good, h.low, h.ap1, h.ap2, h.ap3, h.few⟩
theorem HR.base' (h : HR w base hb lv mb l f) : ∀ k, k ∈ footH hb lv mb → base ≤ k := by
  intro k hk
  simp only [footH, List.mem_cons] at hk
  rcases hk with rfl | rfl | hk
  · exact h.low.1
  · exact h.low.2
  · exact owns_base h.own k hk
theorem HR.live (h : HR w base hb lv mb l f) : ∀ k, k ∈ footH hb lv mb → k < w.heap.size := by
  intro k hk
  simp only [footH, List.mem_cons] at hk
  rcases hk with rfl | rfl | hk
  · exact h.blk.lt
  · exact h.map.lt
  · exact owns_live h.own k hk
/-- its map has as many entries as it has places, however it is counted -/
theorem keys_ok (hat : Hp.AtOK (fun x : It => x.1) l f) : (l.map (fun x => x.1)).Nodup ∧ ∀ x, f x ≠ Option.none ↔ x ∈ l.map (fun x => x.1) := by
  constructor
  · unfold List.Nodup
    rw [List.pairwise_iff_getElem]
    intro i j hi hj hij e
    simp only [List.length_map] at hi hj
    simp only [List.getElem_map] at e
    have := hat.inj (i := i) (j := j) hi hj (by rw [Hp.nth_get l i hi, Hp.nth_get l j hj]; exact e)
    omega
  · intro x
    constructor
    · intro hx
      cases e : f x with
      | none => exact absurd e hx
      | some v =>
        obtain ⟨i, hi, _, h3⟩ := hat.2 x v e
        rw [List.mem_map]
        exact ⟨_, Hp.nth_mem l i hi, h3⟩
    · intro hx e
      rw [List.mem_map] at hx
      obtain ⟨a, ha, rfl⟩ := hx
      exact (hat.none e a ha) rfl
theorem map_shrink {n : Nat} (h : MapF (strKey Try.underlying9) (intEl .i64) w mb n f) (hat : Hp.AtOK (fun x : It => x.1) l f) (hg : ∀ x ∈ l, ((strKey Try.underlying9) : KeyT Try.prog _ _).good x.1) : MapF (strKey Try.underlying9) (intEl .i64) w mb l.length f := by
  obtain ⟨h1, h2⟩ := keys_ok hat
  have := h.shrink (l.map (fun x => x.1)) h1 (fun x _ => h2 x) (fun x hx => by
    rw [List.mem_map] at hx
    obtain ⟨a, ha, rfl⟩ := hx
    exact hg a ha)
  rwa [List.length_map] at this
theorem HR.cell {gb cap : Nat} (h : HR w base hb (.slice (some ⟨gb, 0, none⟩) l.length cap) mb l f) (i : Nat) (hi : i < l.length) : w.cell? ⟨gb, i * 2, none⟩ = some (.string ((Hp.nth l i).1)) ∧ w.cell? ⟨gb, i * 2 + 1, none⟩ = some (.int .u64 ((Hp.nth l i).2)) := by
  obtain ⟨h1, h2⟩ := flat_get l i hi
  exact ⟨(h.own.cellAt (i * 2) (by omega)).trans h1, (h.own.cellAt (i * 2 + 1) (by omega)).trans h2⟩
end HpE
end Go.Proofs.Ytebgojcecgimaaa
