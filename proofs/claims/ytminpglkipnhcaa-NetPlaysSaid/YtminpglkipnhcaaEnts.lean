/- Rows of entries: what is read, what is owned; slices.Clone of entries. -/
import Derived.Test.YtminpglkipnhcaaOctetC
import Derived.Test.YtminpglkipnhcaaRowF
namespace Go.Proofs.Ytminpglkipnhcaa
set_option linter.unusedVariables false
open Go.RowKit

/-- an entry: index, term, conf, and the slice of its data -/
structure En where
  ix : Nat
  tm : Nat
  cf : Bool
  da : Option Addr
  dn : Nat
  dc : Nat
def en0 : En := ⟨0, 0, false, none, 0, 0⟩
def enCells (x : En) : List Value := [.int .u64 (x.ix : Int), .int .u64 (x.tm : Int), .bool x.cf, .slice x.da x.dn x.dc]
def cellsL (l : List En) : List Value := l.flatMap enCells

theorem cellsL_len (l : List En) : (cellsL l).length = l.length * 4 := by
  induction l with
  | nil => rfl
  | cons x r ih => simp [cellsL, enCells] at ih ⊢; omega
theorem cellsL_app (l r : List En) : cellsL (l ++ r) = cellsL l ++ cellsL r := by simp [cellsL]
theorem cellsL_at (l : List En) : ∀ (k j : Nat), k < l.length → j < 4 → (cellsL l)[k * 4 + j]? = (enCells (l.getD k en0))[j]? := by
  induction l with
  | nil => intro k j hk; simp at hk
  | cons x r ih =>
    intro k j hk hj
    have e : cellsL (x :: r) = enCells x ++ cellsL r := rfl
    have hl : (enCells x).length = 4 := rfl
    rw [e]
    cases k with
    | zero =>
      rw [List.getElem?_append_left (by omega)]
      simp
    | succ k =>
      rw [List.getElem?_append_right (by omega), hl, show (k + 1) * 4 + j - 4 = k * 4 + j by omega, ih k j (by simpa using hk) hj]
      simp
theorem cellsL_one (l : List En) : ∀ u ∈ cellsL l, u.oneCell' = true := by
  intro u hu
  obtain ⟨x, _, h⟩ := List.mem_flatMap.1 hu
  simp [enCells] at h
  rcases h with rfl | rfl | rfl | rfl <;> rfl

/-- entries that are read -/
def Ents (w : World) (a : Option Addr) (l : List En) : Prop :=
  ∀ i, i < l.length → ∃ b off, a = some ⟨b, off, none⟩ ∧ b < w.heap.size ∧ w.cell? ⟨b, off + i * 4, none⟩ = some (.int .u64 ((l.getD i en0).ix : Int)) ∧ w.cell? ⟨b, off + i * 4 + 1, none⟩ = some (.int .u64 ((l.getD i en0).tm : Int))
    ∧ w.cell? ⟨b, off + i * 4 + 2, none⟩ = some (.bool (l.getD i en0).cf) ∧ w.cell? ⟨b, off + i * 4 + 3, none⟩ = some (.slice (l.getD i en0).da (l.getD i en0).dn (l.getD i en0).dc)
theorem Ents.step {F : List Nat} {w w' : World} {a : Option Addr} {l : List En} (h : Ents w a l) (hs : Step F w w') (hn : ∀ b off, a = some ⟨b, off, none⟩ → 0 < l.length → b ∉ F) : Ents w' a l := fun i hi => by
  obtain ⟨b, off, ha, hlt, h0, h1, h2, h3⟩ := h i hi
  have hb := hn b off ha (by omega)
  refine ⟨b, off, ha, Nat.lt_of_lt_of_le hlt hs.size, ?_, ?_, ?_, ?_⟩
  all_goals (rw [hs.cell hlt hb]; assumption)

theorem Ents.of_cells {w : World} {b off : Nat} {l : List En} (hlt : b < w.heap.size) (h : ∀ j u, (cellsL l)[j]? = some u → w.cell? ⟨b, off + j, none⟩ = some u) : Ents w (some ⟨b, off, none⟩) l := fun i hi => by
  refine ⟨b, off, rfl, hlt, ?_, ?_, ?_, ?_⟩
  · have := h (i * 4 + 0) _ (cellsL_at l i 0 hi (by omega)); simpa using this
  · have := h (i * 4 + 1) _ (cellsL_at l i 1 hi (by omega)); rw [← Nat.add_assoc] at this; simpa using this
  · have := h (i * 4 + 2) _ (cellsL_at l i 2 hi (by omega)); rw [← Nat.add_assoc] at this; simpa using this
  · have := h (i * 4 + 3) _ (cellsL_at l i 3 hi (by omega)); rw [← Nat.add_assoc] at this; simpa using this
theorem Ents.cells {w : World} {a : Option Addr} {l : List En} (h : Ents w a l) : ∀ ad, a = some ad → ∀ j u, (cellsL l)[j]? = some u → w.cell? (ad.add j) = some u := by
  intro ad ha j u hu
  have hj : j < l.length * 4 := by
    rcases Nat.lt_or_ge j (l.length * 4) with h | h
    · exact h
    · rw [List.getElem?_eq_none (by rw [cellsL_len]; exact h)] at hu; cases hu
  obtain ⟨b, off, ha', _, h0, h1, h2, h3⟩ := h (j / 4) (by omega)
  rw [ha] at ha'
  cases ha'
  rw [Go.Proofs.Ytminpglkipnhcaa.add_plain]
  have hc := cellsL_at l (j / 4) (j % 4) (by omega) (by omega)
  rw [show j / 4 * 4 + j % 4 = j by omega, hu] at hc
  have h4 : j % 4 = 0 ∨ j % 4 = 1 ∨ j % 4 = 2 ∨ j % 4 = 3 := by omega
  rcases h4 with h | h | h | h <;> rw [h] at hc <;> simp [enCells] at hc <;> subst hc
  · rw [show off + j = off + j / 4 * 4 by omega]; exact h0
  · rw [show off + j = off + j / 4 * 4 + 1 by omega]; exact h1
  · rw [show off + j = off + j / 4 * 4 + 2 by omega]; exact h2
  · rw [show off + j = off + j / 4 * 4 + 3 by omega]; exact h3
theorem Ents.drop {w : World} {b off : Nat} {l : List En} (h : Ents w (some ⟨b, off, none⟩) l) (k : Nat) : Ents w (some ⟨b, off + k * 4, none⟩) (l.drop k) := fun i hi => by
  have hi' : k + i < l.length := by simp at hi; omega
  obtain ⟨b', off', ha, hlt, h0, h1, h2, h3⟩ := h (k + i) hi'
  cases ha
  have e : (l.drop k).getD i en0 = l.getD (k + i) en0 := by simp [List.getD]
  rw [e]
  refine ⟨b, off + k * 4, rfl, hlt, ?_, ?_, ?_, ?_⟩
  · rw [show off + k * 4 + i * 4 = off + (k + i) * 4 by omega]; exact h0
  · rw [show off + k * 4 + i * 4 = off + (k + i) * 4 by omega]; exact h1
  · rw [show off + k * 4 + i * 4 = off + (k + i) * 4 by omega]; exact h2
  · rw [show off + k * 4 + i * 4 = off + (k + i) * 4 by omega]; exact h3
theorem Ents.take {w : World} {a : Option Addr} {l : List En} (h : Ents w a l) (k : Nat) : Ents w a (l.take k) := fun i hi => by
  have hi' : i < l.length ∧ i < k := by simp at hi; omega
  rw [show (l.take k).getD i en0 = l.getD i en0 from by simp [List.getD, hi'.2]]
  exact h i hi'.1

theorem owns_ents {w : World} {base e : Nat} {a : Option Addr} {n cap : Nat} {l : List En} (h : w.ownsRow base e 4 (.slice a n cap) n (cellsL l)) : Ents w a l := by
  have hl : l.length = n := by have := h.1; rw [cellsL_len] at this; omega
  rcases h.2 with ⟨hv, h0⟩ | ⟨g, cap', cur, hv, hg, hh, hn, hcap, hsz, htake⟩
  · intro i hi; omega
  · cases hv
    have hlt : g < w.heap.size := by
      rcases Nat.lt_or_ge g w.heap.size with h' | h'
      · exact h'
      · rw [Array.getElem?_eq_none h'] at hh; cases hh
    refine Ents.of_cells hlt (fun j u hu => ?_)
    have hj : j < n * 4 := by
      rcases Nat.lt_or_ge j (n * 4) with h | h
      · exact h
      · rw [List.getElem?_eq_none (by rw [cellsL_len]; omega)] at hu; cases hu
    have := h.cellAt j (by omega)
    rw [Nat.zero_add, this, hu]

theorem foot_slice (a : Option Addr) (n cap : Nat) : ∀ k, k ∈ foot (.slice a n cap) ↔ ∃ off s, a = some ⟨k, off, s⟩ := by
  intro k
  cases a with
  | none => simp [foot, Value.ownBlock]
  | some x =>
    obtain ⟨b, off, s⟩ := x
    simp [foot, Value.ownBlock]
    exact eq_comm

theorem Try.infoE : (Try.prog.info? 45).map (fun i => (i.zero, i.size, i.bytes)) = some (some (.agg #[.int .u64 0, .int .u64 0, .bool false, .slice none 0 0]), 4, 48) := by kernel_rfl

set_option maxHeartbeats 1000000 in
theorem cloneL (x : Addr) (m cap : Nat) (l : List En) (w : World) (hE : Ents w (some x) l) (hl : l.length = m) (hm : m ≤ 100000) :
    Calls Try.prog 38 #[.slice (some x) m cap] w fun e w' => (∃ a c, e = .returned (.slice a m c) ∧ w'.ownsRow w.heap.size 45 4 (.slice a m c) m (cellsL l)) ∧ Step [] w w' := by
  obtain ⟨i0, hi0, hz0, hz1, hz2⟩ := info_parts Try.infoE
  have he := fun w => Lib.run_eql_slice_nil (P := Try.prog) w 27 45 (some x) m cap 0 0 Try.underlying27
  simp at he
  have HE := Lib.hid hE
  clear hE
  go_enter Try.func38, Try.ntmps38
  go_wp2_with (at_builtin; refine wpList_append_own_any rfl (.tmp 5) (.tmp 6) 27 rfl w.heap.size 45 i0 _ 4 48 Try.underlying27 hi0 hz0 hz1 hz2 rfl (by decide) _ 0 [] rfl (World.ownsRow_made _ _ 0 (Nat.le_refl _) (Nat.zero_le _) rfl) (some x) m cap (cellsL l) rfl (by intro h; cases h) (by rw [cellsL_len, hl]) ((HE.out.step ((Step.refl [] w).alloc _) (by simp)).cells) (cellsL_one l) (by unfold maxLen; omega) (by omega) (by simp) ?_)
  intro v2 w2 hown2 hg2
  have hs2 : Step [] w w2 := ((Step.refl _ _).alloc _).grown hg2 (fun k hk => by cases hk; exact .inr (Nat.le_refl _))
  have hown3 : w2.ownsRow w.heap.size 45 4 v2 m (cellsL l) := by simpa using hown2
  have HO := Lib.hid hown3
  clear hown2 hg2 hown3
  go_wp2
  go_ret
  refine ⟨?_, hs2⟩
  rcases HO.out.2 with ⟨rfl, h0⟩ | ⟨g, c, cur, rfl, -⟩
  · subst h0
    exact ⟨_, _, rfl, HO.out⟩
  · exact ⟨_, _, rfl, HO.out⟩


/-- slices.Clone of entries, nil or not -/
theorem cloneL_any (a : Option Addr) (m cap : Nat) (l : List En) (w : World) (hn : a = none → m = 0 ∧ cap = 0) (hE : Ents w a l) (hl : l.length = m) (hm : m ≤ 100000) :
    Calls Try.prog 38 #[.slice a m cap] w fun e w' => (∃ a c, e = .returned (.slice a m c) ∧ w'.ownsRow w.heap.size 45 4 (.slice a m c) m (cellsL l)) ∧ Step [] w w' := by
  cases a with
  | some x => exact cloneL x m cap l w hE hl hm
  | none =>
    obtain ⟨rfl, rfl⟩ := hn rfl
    have : l = [] := List.eq_nil_of_length_eq_zero hl
    subst this
    have he := fun w => Lib.run_eql_slice_nil (P := Try.prog) w 27 45 none 0 0 0 0 Try.underlying27
    clear hE hl hm hn
    go_enter Try.func38, Try.ntmps38
    go_wp2
    go_ret
    exact ⟨⟨_, _, rfl, World.ownsRow_nil _ _ _ _⟩, Step.refl _ _⟩
end Go.Proofs.Ytminpglkipnhcaa
