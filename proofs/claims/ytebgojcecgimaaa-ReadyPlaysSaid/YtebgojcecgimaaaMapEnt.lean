/- m[k] = v within a statement of several stores: the entry, then the store. No program in sight. -/
import Derived.Test.YtebgojcecgimaaaMaps
import Derived.WideKeyEntry
namespace Go.Proofs.Ytebgojcecgimaaa
set_option linter.unusedVariables false
open Go.RowKit Go.Maps Go.WideElems Go.MapKept Go.ChangeShapes Go.WideShapes
open Go.ChangeMaps (setBlock modify_eq_set)

theorem set_block_self {w : World} {b : Nat} {o : Obj} (h : w.heap[b]? = some o) : setBlock w b o = w := by
  have : w.heap.setIfInBounds b o = w.heap := by
    apply Array.ext_getElem?
    intro i
    rw [Array.getElem?_setIfInBounds]
    by_cases e : b = i
    · subst e
      rw [if_pos rfl, h]
      split
      · rfl
      · rename_i hn
        rw [Array.getElem?_eq_none (by omega)] at h
        cases h
    · rw [if_neg e]
  unfold setBlock
  rw [this]
theorem key_once {es : List MapEntry} (h : es.Pairwise (fun x y => x.key ≠ y.key)) {i j : Nat} {a c : MapEntry} (hi : es[i]? = some a) (hj : es[j]? = some c) (he : a.key = c.key) : i = j := by
  obtain ⟨hi1, hi2⟩ := List.getElem?_eq_some_iff.1 hi
  obtain ⟨hj1, hj2⟩ := List.getElem?_eq_some_iff.1 hj
  rw [List.pairwise_iff_getElem] at h
  rcases Nat.lt_trichotomy i j with hl | hl | hl
  · exact absurd (by rw [hi2, hj2]; exact he) (h i j hi1 hj1 hl)
  · exact hl
  · exact absurd (by rw [hi2, hj2]; exact he.symm) (h j i hj1 hi1 hl)

variable {P : Program} {k : TypeId} {κ V : Type} {K : KeyT P k κ} {E : ElT V} {w : World} {b n : Nat} {f : κ → Option V}
/-- the entry of a key that is there: nothing turns; what is stored there -/
theorem MapF.entry [DecidableEq κ] {t e : TypeId} (h : MapF K E w b n f) (ht : P.underlying t = some (.map k e)) (hn : n < maxLen) (z0 : V) (hz : (zeroValue e).run P w = .ok (E.val z0) w) (x : κ) (hg : K.good x) (v : V) (hx : f x = some v) :
    ∃ st : Nat, (∀ w2 : World, w2.heap[b]? = w.heap[b]? → (Instr.mapEntry t (.map (some b)) (K.val x)).run P w2 = .ok (.tuple #[E.val v, goInt st]) w2) ∧
      ∀ (w2 : World), w2.heap[b]? = w.heap[b]? → ∀ u : V, ∃ w3, (Instr.entryStore t (.map (some b)) (goInt st) (E.val u)).run P w2 = .ok () w3 ∧ MapF K E w3 b (n + 1) (upd f x (some u)) ∧ Step [b] w2 w3 := by
  obtain ⟨D, ⟨es, clock, hb, F, hs, hD⟩, hsay⟩ := h
  obtain ⟨s1, s2, s3⟩ := (stamped_iff es clock).1 F.stamped
  have hkey := K.key hg
  have hreads : ∀ e ∈ es.toList, ∃ l, keyOf P k e.key = some l := fun e he => by
    obtain ⟨y, hy⟩ := F.reads e he
    exact ⟨_, rd_key hy⟩
  rcases Maps.fit_look false K.keyed ht hz hb F hkey with ⟨hrun, hno, hat⟩ | ⟨e0, y, hmem, h3, hrun, hRv, hat, _⟩
  · exfalso
    have h1 := ((hsay x hg).2 v hx).1
    rw [hD, Maps.has_eq, List.any_eq_true] at h1
    obtain ⟨p, hp, he⟩ := h1
    obtain ⟨e, hem, rfl⟩ := List.mem_map.1 ((sorted_perm (es.toList.map (rg P k E.R))).mem_iff.1 hp)
    obtain ⟨y, hy⟩ := F.reads e hem
    have hrg : rg P k E.R e = y := by unfold rg; rw [hy]; rfl
    rw [hrg] at he
    have hl : y.1 = K.lit x := by
      by_cases hl : y.1 = K.lit x
      · exact hl
      · rw [sameKey_ne hl] at he; cases he
    exact hno e hem (K.keyed.inj (rd_key hy) (by rw [hl]; exact hkey))
  · obtain ⟨v', hv', hz'⟩ := E.R_inv hRv
    have hval : e0.val = E.val v := by
      have h1 := hat (E.enc v)
      rw [← hD, ((hsay x hg).2 v hx).2 (E.enc v), hz'] at h1
      rw [hv', E.inj h1]
    obtain ⟨j, hj1, hj2⟩ := List.getElem_of_mem hmem
    have h2 : es.toList[j]? = some e0 := by rw [List.getElem?_eq_getElem hj1, hj2]
    have hj : es[j]? = some e0 := by simpa using h2
    have find2 : ∀ w2 : World, (Instr.findKey k (K.val x) es.toList).run P w2 = .ok (some (j, E.val v)) w2 := fun w2 => by
      rcases K.keyed.find w2 hkey es.toList hreads with ⟨_, g2⟩ | ⟨j', e', g1, g2, g3⟩
      · exact absurd h3 (g2 e0 hmem)
      · have := key_once s3 g2 h2 (g3.trans h3.symm)
        subst this
        rw [h2] at g2
        cases g2
        rw [g1, hval]
    have hsame : es.modify j (fun e => { e with key := K.val x }) = es := by
      apply Array.ext'
      rw [Array.toList_modify, modify_eq_set _ _ _ _ h2]
      have : ({ e0 with key := K.val x } : MapEntry) = e0 := by rw [← h3]
      rw [this]
      exact set_self _ _ _ h2
    refine ⟨e0.born, fun w2 hw2 => ?_, fun w2 hw2 u => ?_⟩
    · have hb2 := hw2.trans hb
      have hself : setBlock w2 b (.map es clock) = w2 := set_block_self hb2
      unfold setBlock at hself
      simp [Instr.mapEntry, run_underlying ht, MapKept.run_getObj_map hb2, K.keyed.check w2 false hkey, find2 w2, hj, h3, K.keyed.stays w2 hkey, hsame, MapKept.run_setObj_map _ hb2, Result.andThen, hself]
    · have hb2 := hw2.trans hb
      have hidx : es.findIdx? (fun e => ((e.born : Nat) : Int) == ((e0.born : Nat) : Int)) = some j := by
        rw [findIdx_arr]
        exact findIdx_born s2 h2
      have hmod : es.modify j (fun e => { e with val := E.val u }) = es.modify j (fun e' => { e' with key := K.val x, val := E.val u }) := by
        apply Array.ext'
        rw [Array.toList_modify, Array.toList_modify, modify_eq_set _ _ _ _ h2, modify_eq_set _ _ _ _ h2, ← h3]
      have hstore : (Instr.entryStore t (.map (some b)) (goInt e0.born) (E.val u)).run P w2 = .ok () (setBlock w2 b (.map (es.modify j (fun e' => { e' with key := K.val x, val := E.val u })) clock)) := by
        simp [Instr.entryStore, MapKept.run_getObj_map hb2, asInt, asIntOf, goInt, hidx, hmod, MapKept.run_setObj_map _ hb2, Result.andThen, setBlock]
      have hupd : (Instr.mapUpdate t (.map (some b)) (K.val x) (E.val u)).run P w2 = .ok () (setBlock w2 b (.map (es.modify j (fun e' => { e' with key := K.val x, val := E.val u })) clock)) := by
        simp [Instr.mapUpdate, run_underlying ht, MapKept.run_getObj_map hb2, K.keyed.check w2 false hkey, find2 w2, hj, h3, K.keyed.stays w2 hkey, MapKept.run_setObj_map _ hb2, Result.andThen, setBlock]
      have hown : w2.ownsMap P k E.R b n D := ⟨es, clock, hb2, F, hs, hD⟩
      obtain ⟨w', hrun', hown', hg'⟩ := hown.update (t := t) (e := e) K.keyed ht hn hkey (E.R_val u)
      rw [hupd] at hrun'
      cases hrun'
      exact ⟨_, hstore, ⟨_, hown', says_put hsay hown.isMap x hg u⟩, by simpa using Step.of_grown hg'⟩
end Go.Proofs.Ytebgojcecgimaaa
