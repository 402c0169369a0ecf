/- Rows of elements of so many cells each: what is read, cut, cleared. No program in sight. -/
import Derived.Test.YtmfplcmncipojaaSep
import Derived.Laws.OwnMore
import Derived.Deep.MidRow
namespace Go.Proofs.Ytmfplcmncipojaa
set_option linter.unusedVariables false
open Go.RowKit

section
variable {α : Type} {f : α → List Value} {m : Nat}
theorem flatF_len (hf : ∀ x, (f x).length = m) : ∀ L : List α, (L.flatMap f).length = L.length * m
  | [] => by simp
  | x :: r => by rw [List.flatMap_cons, List.length_append, hf, flatF_len hf r, List.length_cons, Nat.succ_mul]; omega
theorem flatF_app (L R : List α) : (L ++ R).flatMap f = L.flatMap f ++ R.flatMap f := by simp
theorem flatF_drop (hf : ∀ x, (f x).length = m) : ∀ (L : List α) (k : Nat), (L.drop k).flatMap f = (L.flatMap f).drop (k * m)
  | L, 0 => by simp
  | [], k + 1 => by simp
  | x :: r, k + 1 => by
    have h0 : (f x).drop ((k + 1) * m) = [] := List.drop_eq_nil_of_le (by rw [hf, Nat.succ_mul]; omega)
    rw [List.drop_succ_cons, flatF_drop hf r k, List.flatMap_cons, List.drop_append, h0, List.nil_append, hf]
    congr 1
    rw [Nat.succ_mul]
    omega
theorem flatF_take (hf : ∀ x, (f x).length = m) : ∀ (L : List α) (k : Nat), (L.take k).flatMap f = (L.flatMap f).take (k * m)
  | L, 0 => by simp
  | [], k + 1 => by simp
  | x :: r, k + 1 => by
    have h0 : (f x).take ((k + 1) * m) = f x := List.take_of_length_le (by rw [hf, Nat.succ_mul]; omega)
    rw [List.take_succ_cons, List.flatMap_cons, flatF_take hf r k, List.flatMap_cons, List.take_append, h0, hf, show (k + 1) * m - m = k * m by rw [Nat.succ_mul]; omega]
theorem flatF_at (hf : ∀ x, (f x).length = m) (L : List α) (k j : Nat) (hk : k < L.length) (hj : j < m) : (L.flatMap f)[k * m + j]? = (f L[k])[j]? := by
  have h1 := flatF_drop hf L k
  rw [List.drop_eq_getElem_cons hk, List.flatMap_cons] at h1
  have h2 := congrArg (fun l : List Value => l[j]?) h1
  simp only [List.getElem?_drop] at h2
  rw [← h2, List.getElem?_append_left (by rw [hf]; exact hj)]
theorem flatF_erase (hf : ∀ x, (f x).length = m) (L : List α) (i : Nat) : (L.eraseIdx i).flatMap f = (L.flatMap f).take (i * m) ++ (L.flatMap f).drop ((i + 1) * m) := by
  rw [List.eraseIdx_eq_take_drop_succ, flatF_app, flatF_take hf, flatF_drop hf]
theorem flatF_one (h1 : ∀ x u, u ∈ f x → u.oneCell' = true) (L : List α) : ∀ u ∈ L.flatMap f, u.oneCell' = true := by
  intro u hu
  obtain ⟨x, _, h⟩ := List.mem_flatMap.1 hu
  exact h1 x u h
end

/-- a shorter row of the same block -/
theorem owns_shrink {w : World} {base e m n cap k g : Nat} {xs : List Value} (h : w.ownsRow base e m (.slice (some ⟨g, 0, none⟩) n cap) n xs) (hk : k ≤ n) : w.ownsRow base e m (.slice (some ⟨g, 0, none⟩) k cap) k (xs.take (k * m)) := by
  obtain ⟨h1, h2⟩ := h
  have hkm : k * m ≤ n * m := Nat.mul_le_mul_right m hk
  refine ⟨by rw [List.length_take, h1]; omega, ?_⟩
  rcases h2 with ⟨hv, _⟩ | ⟨g', c', cur, hv, hg, hh, hn, hc, hs, ht⟩
  · cases hv
  · cases hv
    refine .inr ⟨g, cap, cur, rfl, hg, hh, by omega, hc, hs, ?_⟩
    rw [← ht, List.take_take, Nat.min_eq_left hkm]
/-- a longer row of the same block, within its room -/
theorem owns_widen {w : World} {base e m k cap j g : Nat} {xs : List Value} (h : w.ownsRow base e m (.slice (some ⟨g, 0, none⟩) k cap) k xs) (hj : k ≤ j) (hc : j ≤ cap) : ∃ ys, w.ownsRow base e m (.slice (some ⟨g, 0, none⟩) j cap) j ys ∧ ys.take (k * m) = xs := by
  obtain ⟨h1, h2⟩ := h
  have hkm : k * m ≤ j * m := Nat.mul_le_mul_right m hj
  have hjm : j * m ≤ cap * m := Nat.mul_le_mul_right m hc
  rcases h2 with ⟨hv, _⟩ | ⟨g', c', cur, hv, hg, hh, hn, hc', hs, ht⟩
  · cases hv
  · cases hv
    refine ⟨cur.toList.take (j * m), ⟨by rw [List.length_take, Array.length_toList, hs]; omega, .inr ⟨g, cap, cur, rfl, hg, hh, hc, hc', hs, rfl⟩⟩, ?_⟩
    rw [List.take_take, Nat.min_eq_left hkm, ht]
/-- what is appended within its room, the row as it stands -/
theorem owns_range {w : World} {base e m n cap g : Nat} {xs : List Value} (h : w.ownsRow base e m (.slice (some ⟨g, 0, none⟩) n cap) n xs) (o : Nat) (cs : List Value) (hcs : ∀ j u, cs[j]? = some u → xs[o + j]? = some u) : w.rangeAt g o cs := by
  intro j u hu
  have h1 := hcs j u hu
  have hlt : o + j < n * m := by
    rcases Nat.lt_or_ge (o + j) xs.length with h2 | h2
    · rw [h.1] at h2; exact h2
    · rw [List.getElem?_eq_none h2] at h1; cases h1
  rw [h.cellAt _ hlt, h1]
theorem owns_there {w : World} {base e m n cap g : Nat} {xs : List Value} (h : w.ownsRow base e m (.slice (some ⟨g, 0, none⟩) n cap) n xs) (o k : Nat) (hk : o + k ≤ n * m) : w.there g o k := fun j hj => by
  refine ⟨?_, h.frozenAt _⟩
  rw [h.cellAt _ (by omega), List.getElem?_eq_getElem (by rw [h.1]; omega)]
  rfl
theorem Step.setCells {F : List Nat} {w w' : World} (h : Step F w w') {b : Nat} (hb : b ∈ F ∨ w.heap.size ≤ b) : ∀ (vs : List Value) (o : Nat), Step F w (w'.setCells b o vs) := by
  intro vs
  induction vs generalizing w' with
  | nil => intro o; exact h
  | cons v r ih => intro o; exact ih (h.setCell hb o v) (o + 1)
theorem setCells_blk {b : Nat} {T : TypeId} : ∀ (vs : List Value) (o : Nat) (w : World) (C : Array Value), Blk w b C T → o + vs.length ≤ C.size → ∃ C', Blk (w.setCells b o vs) b C' T ∧ C'.size = C.size ∧ ∀ j, C'[j]? = if o ≤ j ∧ j < o + vs.length then vs[j - o]? else C[j]? := by
  intro vs
  induction vs with
  | nil =>
    intro o w C hb _
    exact ⟨C, hb, rfl, fun j => by rw [if_neg (by simp)]⟩
  | cons v r ih =>
    intro o w C hb hl
    simp only [List.length_cons] at hl
    obtain ⟨C', h1, h2, h3⟩ := ih (o + 1) (w.setCell ⟨b, o, none⟩ v) (C.setIfInBounds o v) (hb.set o v) (by simp; omega)
    refine ⟨C', h1, by simpa using h2, fun j => ?_⟩
    rw [h3 j]
    simp only [List.length_cons]
    by_cases hj : j = o
    · subst hj
      rw [if_neg (by omega), if_pos (by omega)]
      simp [show j < C.size by omega]
    · by_cases hj2 : o + 1 ≤ j ∧ j < o + 1 + r.length
      · rw [if_pos hj2, if_pos (by omega), show j - o = (j - (o + 1)) + 1 by omega]
        simp
      · rw [if_neg hj2, if_neg (by omega)]
        simp [Ne.symm hj]
theorem Blk.there {w : World} {b : Nat} {C : Array Value} {T : TypeId} (h : Blk w b C T) {o n : Nat} (hn : o + n ≤ C.size) : w.there b o n := fun j hj => by
  refine ⟨?_, h.free (o + j)⟩
  rw [h.cell (o + j), Array.getElem?_eq_getElem (by omega)]
  rfl
/-- a whole block is stored anew -/
theorem Blk.setAll {w : World} {b : Nat} {C : Array Value} {T : TypeId} (h : Blk w b C T) (vs : List Value) (hl : vs.length = C.size) : Blk (w.setCells b 0 vs) b vs.toArray T := by
  obtain ⟨C', h2, h3, h4⟩ := setCells_blk vs 0 w C h (by omega)
  have he : C' = vs.toArray := by
    apply Array.ext_getElem?
    intro j
    rw [h4 j]
    by_cases hj : j < vs.length
    · rw [if_pos (by omega)]
      simp
    · rw [if_neg (by omega), Array.getElem?_eq_none (by omega), Array.getElem?_eq_none (by simp; omega)]
  rwa [he] at h2
theorem zero_len (Z : Array Value) (n : Nat) : (Builtin.zeroCells Z n).toList.length = n * Z.size := by
  simp [Builtin.zeroCells]
/-- clear of the end of a row -/
theorem clear_own {P : Program} {w : World} {base e m n cap k g : Nat} {t : TypeId} {xs : List Value} {z : Value} (c : Nat) (h : w.ownsRow base e m (.slice (some ⟨g, 0, none⟩) n cap) n xs) (ht : P.underlying t = some (.slice e))
    (hz : ∀ w, (zeroValue e).run P w = .ok z w) (hzs : z.cells.size = m) (hz1 : ∀ v ∈ z.cells.toList, v.oneCell' = true) (hk : k < n) :
    ∃ w', (∀ ty, (Builtin.clear_ #[t] ty #[.slice (some ⟨g, k * m, none⟩) (n - k) c]).run P w = .ok (.tuple #[]) w') ∧ w'.ownsRow base e m (.slice (some ⟨g, 0, none⟩) k cap) k (xs.take (k * m)) ∧ Step [g] w w' := by
  have hkm : (n - k) * m = n * m - k * m := Nat.sub_mul _ _ _
  have hle : k * m ≤ n * m := Nat.mul_le_mul_right m (by omega)
  have hth := owns_there h (k * m) ((n - k) * m) (by omega)
  have hlen : (Builtin.zeroCells z.cells (n - k)).toList.length = (n - k) * m := by rw [zero_len, hzs]
  have hone : ∀ v ∈ (Builtin.zeroCells z.cells (n - k)).toList, v.oneCell' = true := by
    intro v hv
    have hv2 := hv
    unfold Builtin.zeroCells at hv
    simp at hv
    obtain ⟨j, hj, rfl⟩ := hv
    have hp : 0 < z.cells.size := by
      rcases Nat.eq_zero_or_pos z.cells.size with h0 | h0
      · rw [h0] at hj; simp at hj
      · exact h0
    have := Nat.mod_lt j hp
    rw [getElem!_pos z.cells (j % z.cells.size) this]
    exact hz1 _ (by simp)
  have hst := run_storeCells_cells (P := P) g (k * m) (Builtin.zeroCells z.cells (n - k)).toList 0 w (fun j hj => by rw [Nat.add_zero]; exact (hth j (by omega)).1) (fun j hj => by rw [Nat.add_zero]; exact (hth j (by omega)).2) hone
  simp only [Nat.add_zero] at hst
  refine ⟨w.setCells g (k * m) (Builtin.zeroCells z.cells (n - k)).toList, ?_, ?_, (Step.refl [g] w).setCells (.inl (by simp)) _ _⟩
  · intro ty
    obtain ⟨q, hq⟩ : ∃ q, n - k = q + 1 := ⟨n - k - 1, by omega⟩
    rw [hq] at hst ⊢
    simp [Builtin.clear_, run_underlying ht, hz]
    rw [hst]
    rfl
  · obtain ⟨h1, h2⟩ := h
    rcases h2 with ⟨hv, _⟩ | ⟨g', c', cur, hv, hg, hh, hn, hc, hs, htk⟩
    · cases hv
    · cases hv
      have hcm : n * m ≤ cap * m := Nat.mul_le_mul_right m hn
      obtain ⟨C', k1, k2, k3⟩ := setCells_blk (b := g) (T := e) (Builtin.zeroCells z.cells (n - k)).toList (k * m) w cur hh (by rw [hlen, hs]; omega)
      refine ⟨by rw [List.length_take, h1]; omega, .inr ⟨g, cap, C', rfl, hg, k1, by omega, hc, by rw [k2, hs], ?_⟩⟩
      rw [← htk, List.take_take, Nat.min_eq_left hle]
      apply List.ext_getElem?
      intro j
      rw [List.getElem?_take, List.getElem?_take]
      by_cases hj : j < k * m
      · rw [if_pos hj, if_pos hj, Array.getElem?_toList, Array.getElem?_toList, k3 j, if_neg (by omega)]
      · rw [if_neg hj, if_neg hj]
end Go.Proofs.Ytmfplcmncipojaa
