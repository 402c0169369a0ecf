/- entry.Log: entries in memory; a log; what New, Last, Term do. -/
import Derived.Test.YtjepglbolkbldaaOctetC
import Derived.Deep.RegionLawGrows
import Derived.Maps.AppendAt
namespace Go.Proofs.Ytjepglbolkbldaa
set_option linter.unusedVariables false
open Go.RowKit

/-- an entry: index, term, conf, and the slice of its data -/
structure En where
  ix : Nat
  tm : Nat
  cf : Bool
  da : Option Addr
  dn : Nat
  dc : Nat
def en0 : En := ⟨0, 0, false, none, 0, 0⟩
def enCells (x : En) : List Value := [.int .u64 (x.ix : Int), .int .u64 (x.tm : Int), .bool x.cf, .slice x.da x.dn x.dc]
def cellsL (l : List En) : List Value := l.flatMap enCells
def key (x : En) : Nat × Nat := (x.ix, x.tm)

theorem cellsL_len (l : List En) : (cellsL l).length = l.length * 4 := by
  induction l with
  | nil => rfl
  | cons x r ih => simp [cellsL, enCells] at ih ⊢; omega
theorem cellsL_app (l r : List En) : cellsL (l ++ r) = cellsL l ++ cellsL r := by simp [cellsL]
theorem cellsL_at (l : List En) : ∀ (k j : Nat), k < l.length → j < 4 → (cellsL l)[k * 4 + j]? = (enCells (l.getD k en0))[j]? := by
  induction l with
  | nil => intro k j hk; simp at hk
  | cons x r ih =>
    intro k j hk hj
    have e : cellsL (x :: r) = enCells x ++ cellsL r := rfl
    have hl : (enCells x).length = 4 := rfl
    rw [e]
    cases k with
    | zero =>
      rw [List.getElem?_append_left (by omega)]
      simp
    | succ k =>
      rw [List.getElem?_append_right (by omega), hl, show (k + 1) * 4 + j - 4 = k * 4 + j by omega, ih k j (by simpa using hk) hj]
      simp
theorem cellsL_one (l : List En) : ∀ u ∈ cellsL l, u.oneCell' = true := by
  intro u hu
  obtain ⟨x, _, h⟩ := List.mem_flatMap.1 hu
  simp [enCells] at h
  rcases h with rfl | rfl | rfl | rfl <;> rfl

/-- entries that are read -/
def Ents (w : World) (a : Option Addr) (l : List En) : Prop :=
  ∀ i, i < l.length → ∃ b off, a = some ⟨b, off, none⟩ ∧ b < w.heap.size ∧ w.cell? ⟨b, off + i * 4, none⟩ = some (.int .u64 ((l.getD i en0).ix : Int)) ∧ w.cell? ⟨b, off + i * 4 + 1, none⟩ = some (.int .u64 ((l.getD i en0).tm : Int))
    ∧ w.cell? ⟨b, off + i * 4 + 2, none⟩ = some (.bool (l.getD i en0).cf) ∧ w.cell? ⟨b, off + i * 4 + 3, none⟩ = some (.slice (l.getD i en0).da (l.getD i en0).dn (l.getD i en0).dc)
theorem Ents.step {F : List Nat} {w w' : World} {a : Option Addr} {l : List En} (h : Ents w a l) (hs : Step F w w') (hn : ∀ b off, a = some ⟨b, off, none⟩ → 0 < l.length → b ∉ F) : Ents w' a l := fun i hi => by
  obtain ⟨b, off, ha, hlt, h0, h1, h2, h3⟩ := h i hi
  have hb := hn b off ha (by omega)
  refine ⟨b, off, ha, Nat.lt_of_lt_of_le hlt hs.size, ?_, ?_, ?_, ?_⟩
  all_goals (rw [hs.cell hlt hb]; assumption)

theorem Ents.of_cells {w : World} {b off : Nat} {l : List En} (hlt : b < w.heap.size) (h : ∀ j u, (cellsL l)[j]? = some u → w.cell? ⟨b, off + j, none⟩ = some u) : Ents w (some ⟨b, off, none⟩) l := fun i hi => by
  refine ⟨b, off, rfl, hlt, ?_, ?_, ?_, ?_⟩
  · have := h (i * 4 + 0) _ (cellsL_at l i 0 hi (by omega)); simpa using this
  · have := h (i * 4 + 1) _ (cellsL_at l i 1 hi (by omega)); rw [← Nat.add_assoc] at this; simpa using this
  · have := h (i * 4 + 2) _ (cellsL_at l i 2 hi (by omega)); rw [← Nat.add_assoc] at this; simpa using this
  · have := h (i * 4 + 3) _ (cellsL_at l i 3 hi (by omega)); rw [← Nat.add_assoc] at this; simpa using this
theorem Ents.cells {w : World} {a : Option Addr} {l : List En} (h : Ents w a l) : ∀ ad, a = some ad → ∀ j u, (cellsL l)[j]? = some u → w.cell? (ad.add j) = some u := by
  intro ad ha j u hu
  have hj : j < l.length * 4 := by
    rcases Nat.lt_or_ge j (l.length * 4) with h | h
    · exact h
    · rw [List.getElem?_eq_none (by rw [cellsL_len]; exact h)] at hu; cases hu
  obtain ⟨b, off, ha', _, h0, h1, h2, h3⟩ := h (j / 4) (by omega)
  rw [ha] at ha'
  cases ha'
  rw [Go.Proofs.Ytjepglbolkbldaa.add_plain]
  have hc := cellsL_at l (j / 4) (j % 4) (by omega) (by omega)
  rw [show j / 4 * 4 + j % 4 = j by omega, hu] at hc
  have h4 : j % 4 = 0 ∨ j % 4 = 1 ∨ j % 4 = 2 ∨ j % 4 = 3 := by omega
  rcases h4 with h | h | h | h <;> rw [h] at hc <;> simp [enCells] at hc <;> subst hc
  · rw [show off + j = off + j / 4 * 4 by omega]; exact h0
  · rw [show off + j = off + j / 4 * 4 + 1 by omega]; exact h1
  · rw [show off + j = off + j / 4 * 4 + 2 by omega]; exact h2
  · rw [show off + j = off + j / 4 * 4 + 3 by omega]; exact h3
theorem Ents.drop {w : World} {b off : Nat} {l : List En} (h : Ents w (some ⟨b, off, none⟩) l) (k : Nat) : Ents w (some ⟨b, off + k * 4, none⟩) (l.drop k) := fun i hi => by
  have hi' : k + i < l.length := by simp at hi; omega
  obtain ⟨b', off', ha, hlt, h0, h1, h2, h3⟩ := h (k + i) hi'
  cases ha
  have e : (l.drop k).getD i en0 = l.getD (k + i) en0 := by simp [List.getD]
  rw [e]
  refine ⟨b, off + k * 4, rfl, hlt, ?_, ?_, ?_, ?_⟩
  · rw [show off + k * 4 + i * 4 = off + (k + i) * 4 by omega]; exact h0
  · rw [show off + k * 4 + i * 4 = off + (k + i) * 4 by omega]; exact h1
  · rw [show off + k * 4 + i * 4 = off + (k + i) * 4 by omega]; exact h2
  · rw [show off + k * 4 + i * 4 = off + (k + i) * 4 by omega]; exact h3
theorem Ents.take {w : World} {a : Option Addr} {l : List En} (h : Ents w a l) (k : Nat) : Ents w a (l.take k) := fun i hi => by
  have hi' : i < l.length ∧ i < k := by simp at hi; omega
  rw [show (l.take k).getD i en0 = l.getD i en0 from by simp [List.getD, hi'.2]]
  exact h i hi'.1

theorem owns_ents {w : World} {base e : Nat} {a : Option Addr} {n cap : Nat} {l : List En} (h : w.ownsRow base e 4 (.slice a n cap) n (cellsL l)) : Ents w a l := by
  have hl : l.length = n := by have := h.1; rw [cellsL_len] at this; omega
  rcases h.2 with ⟨hv, h0⟩ | ⟨g, cap', cur, hv, hg, hh, hn, hcap, hsz, htake⟩
  · intro i hi; omega
  · cases hv
    have hlt : g < w.heap.size := by
      rcases Nat.lt_or_ge g w.heap.size with h' | h'
      · exact h'
      · rw [Array.getElem?_eq_none h'] at hh; cases hh
    refine Ents.of_cells hlt (fun j u hu => ?_)
    have hj : j < n * 4 := by
      rcases Nat.lt_or_ge j (n * 4) with h | h
      · exact h
      · rw [List.getElem?_eq_none (by rw [cellsL_len]; omega)] at hu; cases hu
    have := h.cellAt j (by omega)
    rw [Nat.zero_add, this, hu]

/-- the keys that follow an index -/
def keysFrom (i : Nat) : List Nat → List (Nat × Nat)
  | [] => []
  | t :: r => (i + 1, t) :: keysFrom (i + 1) r
theorem keysFrom_len (i : Nat) (ts : List Nat) : (keysFrom i ts).length = ts.length := by
  induction ts generalizing i with
  | nil => rfl
  | cons t r ih => simp [keysFrom, ih]
theorem keysFrom_app (i : Nat) (ts us : List Nat) : keysFrom i (ts ++ us) = keysFrom i ts ++ keysFrom (i + ts.length) us := by
  induction ts generalizing i with
  | nil => rfl
  | cons t r ih => simp [keysFrom, ih]; congr 1; omega
theorem keysFrom_at (i : Nat) (ts : List Nat) : ∀ k, k < ts.length → (keysFrom i ts).getD k (0, 0) = (i + k + 1, ts.getD k 0) := by
  induction ts generalizing i with
  | nil => intro k hk; simp at hk
  | cons t r ih =>
    intro k hk
    cases k with
    | zero => rfl
    | succ k =>
      have := ih (i + 1) k (by simpa using hk)
      simp only [keysFrom, List.getD_cons_succ]
      rw [this]
      congr 1
      omega
theorem keysFrom_drop (i : Nat) (ts : List Nat) (k : Nat) (hk : k ≤ ts.length) : (keysFrom i ts).drop k = keysFrom (i + k) (ts.drop k) := by
  induction ts generalizing i k with
  | nil => simp [keysFrom]
  | cons t r ih =>
    cases k with
    | zero => rfl
    | succ k =>
      simp only [keysFrom, List.drop_succ_cons]
      rw [ih (i + 1) k (by simpa using hk)]
      congr 1
      omega
theorem keysFrom_take (i : Nat) (ts : List Nat) (k : Nat) : (keysFrom i ts).take k = keysFrom i (ts.take k) := by
  induction ts generalizing i k with
  | nil => simp [keysFrom]
  | cons t r ih =>
    cases k with
    | zero => rfl
    | succ k => simp [keysFrom, ih]
theorem keys_at {L : List En} {i : Nat} {ts : List Nat} (h : L.map key = keysFrom i ts) (k : Nat) (hk : k < ts.length) : (L.getD k en0).ix = i + k + 1 ∧ (L.getD k en0).tm = ts.getD k 0 := by
  have hl : L.length = ts.length := by have := congrArg List.length h; simpa [keysFrom_len] using this
  have h1 := keysFrom_at i ts k hk
  rw [← h] at h1
  have h2 : (L.map key).getD k (0, 0) = key (L.getD k en0) := by simp [List.getD, show k < L.length by omega]
  rw [h2] at h1
  simpa [key] using h1

/-- a log: its base, and the terms of the entries behind it -/
structure Log (w : World) (base lb : Nat) (a : Option Addr) (cap : Nat) (ix tm : Nat) (ts : List Nat) : Prop where
  blk : Blk w lb #[.int .u64 (ix : Int), .int .u64 (tm : Int), .slice a ts.length cap] 50
  own : ∃ L : List En, L.map key = keysFrom ix ts ∧ w.ownsRow base 42 4 (.slice a ts.length cap) ts.length (cellsL L)
  low : base ≤ lb
  apart : ∀ b off s, a = some ⟨b, off, s⟩ → lb ≠ b
  small : ix + ts.length < 9223372036854775808
  few : ts.length ≤ 1024

theorem foot_slice (a : Option Addr) (n cap : Nat) : ∀ k, k ∈ foot (.slice a n cap) ↔ ∃ off s, a = some ⟨k, off, s⟩ := by
  intro k
  cases a with
  | none => simp [foot, Value.ownBlock]
  | some x =>
    obtain ⟨b, off, s⟩ := x
    simp [foot, Value.ownBlock]
    exact eq_comm

theorem Log.step {F : List Nat} {w w' : World} {base lb : Nat} {a : Option Addr} {cap ix tm : Nat} {ts : List Nat} (h : Log w base lb a cap ix tm ts) (hs : Step F w w') (h1 : lb ∉ F) (h2 : ∀ b off s, a = some ⟨b, off, s⟩ → b ∉ F) : Log w' base lb a cap ix tm ts := by
  obtain ⟨hb, ⟨L, hk, ho⟩, hl, ha, hm, hf⟩ := h
  exact ⟨hb.step hs h1, ⟨L, hk, owns_step ho hs (fun k hk => by obtain ⟨off, s, e⟩ := (foot_slice _ _ _ k).1 hk; exact h2 k off s e)⟩, hl, ha, hm, hf⟩
theorem Log.step0 {w w' : World} {base lb : Nat} {a : Option Addr} {cap ix tm : Nat} {ts : List Nat} (h : Log w base lb a cap ix tm ts) (hs : Step [] w w') : Log w' base lb a cap ix tm ts := h.step hs (by simp) (by simp)
theorem Log.three {w : World} {base lb : Nat} {a : Option Addr} {cap ix tm : Nat} {ts : List Nat} (h : Log w base lb a cap ix tm ts) :
    w.cell? ⟨lb, 0, none⟩ = some (.int .u64 (ix : Int)) ∧ w.cell? ⟨lb, 1, none⟩ = some (.int .u64 (tm : Int)) ∧ w.cell? ⟨lb, 2, none⟩ = some (.slice a ts.length cap) :=
  ⟨h.blk.cell 0, h.blk.cell 1, h.blk.cell 2⟩
/-- the entry at a place -/
theorem Log.at {w : World} {base lb : Nat} {a : Option Addr} {cap ix tm : Nat} {ts : List Nat} (h : Log w base lb a cap ix tm ts) (k : Nat) (hk : k < ts.length) :
    ∃ b off cf da dn dc, a = some ⟨b, off, none⟩ ∧ b < w.heap.size ∧ w.cell? ⟨b, off + k * 4, none⟩ = some (.int .u64 ((ix + k + 1 : Nat) : Int)) ∧ w.cell? ⟨b, off + k * 4 + 1, none⟩ = some (.int .u64 ((ts.getD k 0 : Nat) : Int))
    ∧ w.cell? ⟨b, off + k * 4 + 2, none⟩ = some (.bool cf) ∧ w.cell? ⟨b, off + k * 4 + 3, none⟩ = some (.slice da dn dc) := by
  obtain ⟨L, hL, ho⟩ := h.own
  have hl : L.length = ts.length := by have := congrArg List.length hL; simpa [keysFrom_len] using this
  obtain ⟨b, off, ha, hlt, h0, h1, h2, h3⟩ := owns_ents ho k (by omega)
  obtain ⟨e1, e2⟩ := keys_at hL k hk
  rw [e1] at h0
  rw [e2] at h1
  exact ⟨b, off, _, _, _, _, ha, hlt, h0, h1, h2, h3⟩

def lastT (tm : Nat) (ts : List Nat) : Nat := if ts.length = 0 then tm else ts.getD (ts.length - 1) 0
def termAt (ix tm : Nat) (ts : List Nat) (i : Nat) : Nat × Int :=
  if i < ix then (0, 20) else if ix + ts.length < i then (0, 7) else if i = ix then (tm, 0) else (ts.getD (i - ix - 1) 0, 0)
end Go.Proofs.Ytjepglbolkbldaa
