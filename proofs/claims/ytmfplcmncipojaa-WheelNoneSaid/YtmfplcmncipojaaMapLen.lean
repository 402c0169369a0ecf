/- how many entries a map has. No program in sight. -/
import Derived.Test.YtmfplcmncipojaaMaps
namespace Go.Proofs.Ytmfplcmncipojaa
set_option linter.unusedVariables false
open Go.RowKit Go.Maps Go.WideElems Go.MapKept

theorem perm_of_nodup {κ : Type} : ∀ {a b : List κ}, a.Nodup → b.Nodup → (∀ x, x ∈ a ↔ x ∈ b) → a.Perm b
  | [], b, _, _, h => by
    cases b with
    | nil => exact List.Perm.refl _
    | cons y r => have := (h y).2 (by simp); cases this
  | x :: r, b, ha, hb, h => by
    obtain ⟨h1, h2⟩ := List.nodup_cons.1 ha
    obtain ⟨s, t, rfl⟩ := List.append_of_mem ((h x).1 (by simp))
    have hb2 : (x :: (s ++ t)).Nodup := List.perm_middle.nodup_iff.1 hb
    obtain ⟨h3, h4⟩ := List.nodup_cons.1 hb2
    refine ((perm_of_nodup h2 h4 fun y => ?_).cons x).trans List.perm_middle.symm
    have hy := h y
    simp only [List.mem_cons, List.mem_append] at hy ⊢
    constructor
    · intro hr
      have hne : y ≠ x := fun e => h1 (e ▸ hr)
      rcases hy.1 (.inr hr) with h5 | h5 | h5
      · exact .inl h5
      · exact absurd h5 hne
      · exact .inr h5
    · intro hst
      have hne : y ≠ x := fun e => h3 (by subst e; simpa using hst)
      rcases hy.2 (by rcases hst with h5 | h5; exact .inl h5; exact .inr (.inr h5)) with h5 | h5
      · exact absurd h5 hne
      · exact h5

variable {P : Program} {k : TypeId} {κ V : Type} {K : KeyT P k κ} {E : ElT V} {w : World} {b n : Nat} {f : κ → Option V}

/-- the keys of some entries, one by one -/
theorem keys_of (K : KeyT P k κ) (E : ElT V) : ∀ (es : List MapEntry), (∀ x ∈ es, ∃ y, rd P k E.R x = some y) → ∃ xs : List κ, xs.length = es.length ∧ (∀ x ∈ xs, K.good x) ∧ es.map (·.key) = xs.map K.val ∧ es.map (rg P k E.R) = (List.zip xs es).map (fun p => (K.lit p.1, (rg P k E.R p.2).2))
  | [], _ => ⟨[], rfl, by simp, rfl, rfl⟩
  | e :: r, h => by
    obtain ⟨xs, h1, h2, h3, h4⟩ := keys_of K E r (fun x hx => h x (List.mem_cons_of_mem _ hx))
    obtain ⟨y, hy⟩ := h e (by simp)
    obtain ⟨x, hg, hv, hl⟩ := K.inv (rd_key hy)
    refine ⟨x :: xs, by simp [h1], fun z hz => ?_, by simp [h3, hv], ?_⟩
    · rcases List.mem_cons.1 hz with rfl | hz
      · exact hg
      · exact h2 z hz
    · rw [List.map_cons, List.zip_cons_cons, List.map_cons, h4]
      congr 1
      unfold rg
      rw [hy]
      simp [← hl]

theorem has_sorted (l : List (Lit × DataW Unit)) (kl : Lit) : Maps.has (.map (l.foldr DataW.insert [])) kl = l.any (fun p => p.1.sameKey kl) := by
  have hi : ∀ (x : Lit × DataW Unit) (r : List (Lit × DataW Unit)), (DataW.insert x r).any (fun p => p.1.sameKey kl) = (x.1.sameKey kl || r.any (fun p => p.1.sameKey kl)) := by
    intro x r
    induction r with
    | nil => rfl
    | cons y r ih =>
      unfold DataW.insert
      split
      · rfl
      · simp only [List.any_cons, ih]
        cases x.1.sameKey kl <;> cases y.1.sameKey kl <;> simp
  rw [Maps.has_eq]
  induction l with
  | nil => rfl
  | cons x r ih => rw [List.foldr_cons, hi, ih, List.any_cons]

/-- a map has as many entries as there are keys with something -/
theorem MapF.count (h : MapF K E w b n f) (ks : List κ) (hnd : ks.Nodup) (hk : ∀ x, K.good x → (f x ≠ Option.none ↔ x ∈ ks)) (hg : ∀ x ∈ ks, K.good x) :
    ∃ D, w.ownsMap P k E.R b ks.length D ∧ Says K E D f ∧ Maps.size D = ks.length := by
  obtain ⟨D, ⟨es, clock, hb, F, hs, hD⟩, hsay⟩ := h
  obtain ⟨xs, h1, h2, h3, h4⟩ := keys_of K E es.toList F.reads
  have hn : es.toList.Pairwise (fun x y => x.key ≠ y.key) := ((stamped_iff es clock).1 F.stamped).2.2
  have hxn : xs.Nodup := by
    have h5 : (es.toList.map (·.key)).Nodup := by
      unfold List.Nodup
      rw [List.pairwise_map]
      exact hn
    rw [h3] at h5
    unfold List.Nodup at h5 ⊢
    rw [List.pairwise_map] at h5
    exact h5.imp (fun {a c} hac e => hac (by rw [e]))
  have hany : ∀ x, K.good x → (Maps.has D (K.lit x) = true ↔ x ∈ xs) := by
    intro x hx
    rw [hD, has_sorted, h4, List.any_map, List.any_eq_true]
    constructor
    · rintro ⟨⟨y, e⟩, hm, he⟩
      have hy : y ∈ xs := (List.of_mem_zip hm).1
      have he2 : (K.lit y).sameKey (K.lit x) = true := he
      by_cases hxy : K.lit y = K.lit x
      · rw [← K.inj hxy]
        exact hy
      · rw [sameKey_ne hxy] at he2
        cases he2
    · intro hxm
      obtain ⟨i, hi, he⟩ := List.getElem_of_mem hxm
      have hi2 : i < es.toList.length := by omega
      refine ⟨(xs[i], es.toList[i]), ?_, ?_⟩
      · rw [List.mem_iff_getElem?]
        exact ⟨i, by rw [List.getElem?_zip_eq_some]; exact ⟨List.getElem?_eq_getElem hi, List.getElem?_eq_getElem hi2⟩⟩
      · show (K.lit xs[i]).sameKey (K.lit x) = true
        rw [he]
        exact WideAt.sameKey_self (K.keyed.key (K.key hx))
  have hperm : xs.Perm ks := perm_of_nodup hxn hnd fun x => by
    constructor
    · intro hx
      have hgx := h2 x hx
      refine (hk x hgx).1 fun e => ?_
      have h5 := (hany x hgx).2 hx
      rw [(hsay x hgx).1 e] at h5
      cases h5
    · intro hx
      have hgx := hg x hx
      refine (hany x hgx).1 ?_
      rw [hsay.has hgx]
      cases e : f x with
      | none => exact absurd e ((hk x hgx).2 hx)
      | some v => rfl
  have hlen : es.size = ks.length := by
    rw [← hperm.length_eq, h1]
    simp
  refine ⟨D, ⟨es, clock, hb, F, by omega, hD⟩, hsay, ?_⟩
  rw [hD]
  simp [Maps.size, length_sorted, hlen]
theorem MapF.shrink (h : MapF K E w b n f) (ks : List κ) (hnd : ks.Nodup) (hk : ∀ x, K.good x → (f x ≠ Option.none ↔ x ∈ ks)) (hg : ∀ x ∈ ks, K.good x) : MapF K E w b ks.length f := by
  obtain ⟨D, h1, h2, _⟩ := h.count ks hnd hk hg
  exact ⟨D, h1, h2⟩
theorem MapF.len (h : MapF K E w b n f) (ks : List κ) (hnd : ks.Nodup) (hk : ∀ x, K.good x → (f x ≠ Option.none ↔ x ∈ ks)) (hg : ∀ x ∈ ks, K.good x) {t e : TypeId} (ht : P.underlying t = some (.map k e)) (ty : TypeId) :
    (Builtin.len_ #[t] ty #[.map (some b)]).run P w = .ok (.int .i64 (ks.length : Int)) w := by
  obtain ⟨D, h1, h2, h3⟩ := h.count ks hnd hk hg
  rw [h1.len ht ty, h3]
end Go.Proofs.Ytmfplcmncipojaa
