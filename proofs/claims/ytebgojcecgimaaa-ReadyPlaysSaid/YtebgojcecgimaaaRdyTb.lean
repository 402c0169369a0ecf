/- ReadyTakes: what lies in a row by what was put; two rows apart. -/
import Derived.Test.YtebgojcecgimaaaRdyTa
namespace Go.Proofs.Ytebgojcecgimaaa
set_option linter.unusedVariables false
set_option linter.unusedSimpArgs false
open Go.RowKit Go.Shelf
namespace Rd
def item (z : List Int) (i : Nat) : It := (nm2 i, z.getD i 0 / 4)
def prio (z : List Int) (i : Nat) : Nat := (z.getD i 0 % 4).toNat
theorem prio_lt (z : List Int) (i : Nat) : prio z i < 4 := by unfold prio; omega
theorem prio_eq (z : List Int) (i : Nat) : ((prio z i : Nat) : Int) = z.getD i 0 % 4 := by unfold prio; omega
/-- just those of Ix were put -/
structure Puts (z : List Int) (Ix : List Nat) (S : Nat → List It) : Prop where
  mem : ∀ p, p < 4 → ∀ x, x ∈ S p ↔ ∃ i, i ∈ Ix ∧ x = item z i ∧ prio z i = p
  len : (allS S).length = Ix.length
theorem Puts.nil (z : List Int) : Puts z [] (fun _ => []) := ⟨fun p hp x => by simp, rfl⟩
theorem Puts.no {z : List Int} {Ix : List Nat} {S : Nat → List It} (h : Puts z Ix S) {i : Nat} (hi : i < 100) (hI : ∀ j, j ∈ Ix → j < 100) (hn : i ∉ Ix) {p : Nat} (hp : p < 4) : ∀ x, x ∈ S p → x.1 ≠ nm2 i := fun x hx e => by
  obtain ⟨j, hj, rfl, _⟩ := (h.mem p hp x).1 hx
  have := nm2_inj (hI j hj) hi e
  subst this
  exact hn hj
theorem hasK_none {k : ByteArray} {s : List It} (h : ∀ x, x ∈ s → x.1 ≠ k) : HpE.hasK s k = false := by
  unfold HpE.hasK
  rw [List.any_eq_false]
  intro x hx
  simpa using h x hx
theorem Puts.has {z : List Int} {Ix : List Nat} {S : Nat → List It} (h : Puts z Ix S) {i : Nat} (hi : i < 100) (hI : ∀ j, j ∈ Ix → j < 100) (hn : i ∉ Ix) : hasR S (nm2 i) = false :=
  hasR_no fun p hp => hasK_none (h.no hi hI hn hp)
theorem len_le {S : Nat → List It} {p : Nat} (hp : p < 4) : (S p).length ≤ (allS S).length := by
  rw [allS_eq]
  simp only [List.length_append]
  rcases (by omega : p = 0 ∨ p = 1 ∨ p = 2 ∨ p = 3) with rfl | rfl | rfl | rfl <;> omega
theorem len_upd {S : Nat → List It} {p : Nat} (hp : p < 4) {s : List It} : (allS (upd S p s)).length + (S p).length = (allS S).length + s.length := by
  rcases (by omega : p = 0 ∨ p = 1 ∨ p = 2 ∨ p = 3) with rfl | rfl | rfl | rfl <;> simp [allS_eq, upd] <;> omega
theorem Puts.add {z : List Int} {Ix : List Nat} {S : Nat → List It} (h : Puts z Ix S) {i : Nat} (hi : i < 100) (hI : ∀ j, j ∈ Ix → j < 100) (hn : i ∉ Ix) :
    Puts z (i :: Ix) (upd S (prio z i) (Hp.ins HpE.lt (nm2 i, z.getD i 0 / 4) (Hp.wok (nm2 i) (S (prio z i))))) := by
  have hw : Hp.wok (nm2 i) (S (prio z i)) = S (prio z i) := wok_none (hasK_none (h.no hi hI hn (prio_lt z i)))
  rw [hw]
  refine ⟨fun p hp x => ?_, ?_⟩
  · by_cases e : p = prio z i
    · subst e
      rw [upd_same, Hp.mem_ins, h.mem _ hp]
      constructor
      · rintro (rfl | ⟨j, hj, h1, h2⟩)
        · exact ⟨i, by simp, rfl, rfl⟩
        · exact ⟨j, List.mem_cons_of_mem _ hj, h1, h2⟩
      · rintro ⟨j, hj, h1, h2⟩
        rcases List.mem_cons.1 hj with rfl | hj
        · exact .inl h1
        · exact .inr ⟨j, hj, h1, h2⟩
    · rw [upd_ne e, h.mem _ hp]
      constructor
      · rintro ⟨j, hj, h1, h2⟩
        exact ⟨j, List.mem_cons_of_mem _ hj, h1, h2⟩
      · rintro ⟨j, hj, h1, h2⟩
        rcases List.mem_cons.1 hj with rfl | hj
        · exact absurd h2.symm e
        · exact ⟨j, hj, h1, h2⟩
  · have h1 := len_upd (S := S) (prio_lt z i) (s := Hp.ins HpE.lt (nm2 i, z.getD i 0 / 4) (S (prio z i)))
    rw [Hp.ins_len] at h1
    have h2 := h.len
    simp only [List.length_cons]
    omega
/-- lines in order -/
def SrtR (S : Nat → List It) : Prop := ∀ p, p < 4 → Hp.Srt HpE.lt (S p)
theorem Puts.same {z : List Int} {Ix Jx : List Nat} {S T : Nat → List It} (h : Puts z Ix S) (h' : Puts z Jx T) (hI : ∀ i, i ∈ Ix ↔ i ∈ Jx) (hs : SrtR S) (ht : SrtR T) : ∀ p, p < 4 → S p = T p := fun p hp =>
  Hp.srt_ext HpE.olt (hs p hp) (ht p hp) fun x => by
    rw [h.mem p hp, h'.mem p hp]
    constructor
    · rintro ⟨i, h1, h2⟩; exact ⟨i, (hI i).1 h1, h2⟩
    · rintro ⟨i, h1, h2⟩; exact ⟨i, (hI i).2 h1, h2⟩
theorem same_all {S T : Nat → List It} (h : ∀ p, p < 4 → S p = T p) : allS S = allS T := by
  rw [allS_eq, allS_eq, h 0 (by omega), h 1 (by omega), h 2 (by omega), h 3 (by omega)]
theorem same_taken {S T S' T' : Nat → List It} (h : ∀ p, p < 4 → S p = T p) (hs : Taken S S') (ht : Taken T T') : ∀ p, p < 4 → S' p = T' p := by
  rcases hs with ⟨h1, rfl⟩ | ⟨p, x, t, hp, hSp, hq, rfl⟩
  · rcases ht with ⟨h2, rfl⟩ | ⟨p', x', t', hp', hTp, hq', rfl⟩
    · exact h
    · have := allS_nil h1 p' hp'
      rw [h p' hp', hTp] at this
      cases this
  · rcases ht with ⟨h2, rfl⟩ | ⟨p', x', t', hp', hTp, hq', rfl⟩
    · have := allS_nil h2 p hp
      rw [← h p hp, hSp] at this
      cases this
    · have hpp : p = p' := by
        rcases Nat.lt_trichotomy p p' with h5 | h5 | h5
        · have := hq' p h5
          rw [← h p hp, hSp] at this
          cases this
        · exact h5
        · have := hq p' h5
          rw [h p' hp', hTp] at this
          cases this
      subst hpp
      rw [h p hp, hTp] at hSp
      cases hSp
      intro q hq2
      by_cases e : q = p
      · subst e; rw [upd_same, upd_same]
      · rw [upd_ne e, upd_ne e]
        exact h q hq2
/-- what is still in the row stands behind the last one that came out -/
structure Takes (z : List Int) (n q : Nat) (S : Nat → List It) (lp : Int) (lx : It) : Prop where
  mem : ∀ p, p < 4 → ∀ x, x ∈ S p → ∃ i, i < n ∧ x = item z i ∧ prio z i = p
  len : (allS S).length = n - q
  srt : SrtR S
  last : 0 ≤ lp → ∀ p, p < 4 → ∀ x, x ∈ S p → Ahd lp lx p x
theorem Puts.congr {z : List Int} {Ix Jx : List Nat} {S : Nat → List It} (h : Puts z Ix S) (hI : ∀ i, i ∈ Ix ↔ i ∈ Jx) (hl : Ix.length = Jx.length) : Puts z Jx S :=
  ⟨fun p hp x => by
    rw [h.mem p hp]
    constructor
    · rintro ⟨i, h1, h2⟩; exact ⟨i, (hI i).1 h1, h2⟩
    · rintro ⟨i, h1, h2⟩; exact ⟨i, (hI i).2 h1, h2⟩, by rw [h.len, hl]⟩
theorem Takes.first {z : List Int} {n : Nat} {S : Nat → List It} (h : Puts z (List.range n) S) (hs : SrtR S) : Takes z n 0 S (-1) (ByteArray.empty, 0) :=
  ⟨fun p hp x hx => by obtain ⟨i, h1, h2⟩ := (h.mem p hp x).1 hx; exact ⟨i, List.mem_range.1 h1, h2⟩, by rw [h.len]; simp, hs, fun h0 => by omega⟩
theorem Takes.next {z : List Int} {n q : Nat} {S S' : Nat → List It} {lp : Int} {lx : It} (h : Takes z n q S lp lx) (hq : q < n) (ht : Taken S S') :
    ∃ i, i < n ∧ hdA (allS S) = (nm2 i, true) ∧ Takes z n (q + 1) S' ((prio z i : Nat) : Int) (item z i) ∧ (0 ≤ lp → Ahd lp lx ((prio z i : Nat) : Int) (item z i)) := by
  have hal := ht.all
  rcases ht with ⟨h1, _⟩ | ⟨p, x, t, hp, hSp, hno, rfl⟩
  · have := h.len
    rw [h1] at this
    simp at this
    omega
  · have hx : x ∈ S p := by rw [hSp]; simp
    obtain ⟨i, hi, rfl, hpi⟩ := h.mem p hp x hx
    have hsp := h.srt p hp
    rw [hSp] at hsp
    obtain ⟨s1, s2⟩ := List.pairwise_cons.1 hsp
    have hh : ∃ r, allS S = item z i :: r := by
      rw [allS_eq]
      rcases (by omega : p = 0 ∨ p = 1 ∨ p = 2 ∨ p = 3) with rfl | rfl | rfl | rfl
      · rw [hSp]; exact ⟨_, rfl⟩
      · rw [hno 0 (by omega), hSp]; exact ⟨_, rfl⟩
      · rw [hno 0 (by omega), hno 1 (by omega), hSp]; exact ⟨_, rfl⟩
      · rw [hno 0 (by omega), hno 1 (by omega), hno 2 (by omega), hSp]; exact ⟨_, rfl⟩
    obtain ⟨r, hr⟩ := hh
    refine ⟨i, hi, by rw [hr]; rfl, ⟨fun p' hp' y hy => ?_, ?_, fun p' hp' => ?_, fun _ p' hp' y hy => ?_⟩, fun h0 => ?_⟩
    · by_cases e : p' = p
      · subst e
        rw [upd_same] at hy
        exact h.mem p' hp' y (by rw [hSp]; exact List.mem_cons_of_mem _ hy)
      · rw [upd_ne e] at hy
        exact h.mem p' hp' y hy
    · rw [hal]
      have := h.len
      simp only [List.length_tail]
      omega
    · by_cases e : p' = p
      · subst e
        rw [upd_same]
        exact s2
      · rw [upd_ne e]
        exact h.srt p' hp'
    · rw [hpi]
      by_cases e : p' = p
      · subst e
        rw [upd_same] at hy
        exact .inr ⟨rfl, s1 y hy⟩
      · rw [upd_ne e] at hy
        left
        rcases Nat.lt_trichotomy p' p with h5 | h5 | h5
        · rw [hno p' h5] at hy
          cases hy
        · exact absurd h5 e
        · omega
    · rw [hpi]
      exact h.last h0 p hp _ hx
/-- two rows apart, and apart from some blocks X of the call's own -/
def Two (w0 : World) (ra rb : Nat) (S T : Nat → List It) (X : List Nat) (w : World) : Prop :=
  ∃ ba bb ha hb F G, w0.heap.size ≤ ba ∧ w0.heap.size ≤ bb ∧ Rw w ba ra ha S F ∧ Rw w bb rb hb T G ∧ Dj (footR ra F) (footR rb G) ∧ Step [] w0 w ∧ Dj X (footR ra F) ∧ Dj X (footR rb G) ∧ (∀ k, k ∈ X → w0.heap.size ≤ k ∧ k < w.heap.size)
theorem Rw.liveR {w : World} {base rb : Nat} {hb : Nat → Nat} {S : Nat → List It} {F : Nat → List Nat} (h : Rw w base rb hb S F) : ∀ k, k ∈ footR rb F → k < w.heap.size := fun k hk => by
  rcases mem_footR.1 hk with rfl | ⟨i, hi, hk⟩
  · exact h.blk.lt
  · exact (h.hs i hi).live k hk
section
variable {w0 w w' : World} {ra rb : Nat} {S T : Nat → List It} {X : List Nat}
theorem Two.symm (h : Two w0 ra rb S T X w) : Two w0 rb ra T S X w := by
  obtain ⟨ba, bb, ha, hb, F, G, h1, h2, h3, h4, h5, h6, h7, h8, h9⟩ := h
  exact ⟨bb, ba, hb, ha, G, F, h2, h1, h4, h3, h5.symm, h6, h8, h7, h9⟩
theorem Two.stepX (h : Two w0 ra rb S T X w) (hs : Step X w w') : Two w0 ra rb S T X w' := by
  obtain ⟨ba, bb, ha, hb, F, G, h1, h2, h3, h4, h5, h6, h7, h8, h9⟩ := h
  exact ⟨ba, bb, ha, hb, F, G, h1, h2, h3.step hs (fun k hk hm => h7 k hm hk), h4.step hs (fun k hk hm => h8 k hm hk), h5, h6.then hs (fun k hk => .inr (h9 k hk).1), h7, h8, fun k hk => ⟨(h9 k hk).1, Nat.lt_of_lt_of_le (h9 k hk).2 hs.size⟩⟩
theorem Two.step (h : Two w0 ra rb S T X w) (hs : Step [] w w') : Two w0 ra rb S T X w' := h.stepX (hs.mono (by simp))
theorem Two.st (h : Two w0 ra rb S T X w) : Step [] w0 w := by
  obtain ⟨ba, bb, ha, hb, F, G, h1, h2, h3, h4, h5, h6, _⟩ := h
  exact h6
theorem Two.srt (h : Two w0 ra rb S T X w) : SrtR S ∧ SrtR T := by
  obtain ⟨ba, bb, ha, hb, F, G, h1, h2, h3, h4, h5, h6, _⟩ := h
  exact ⟨fun p hp => (h3.hs p hp).srt, fun p hp => (h4.hs p hp).srt⟩
theorem Two.add (h : Two w0 ra rb S T X w) (hs : Step [] w w') {b : Nat} (h1 : w.heap.size ≤ b) (h2 : b < w'.heap.size) : Two w0 ra rb S T (b :: X) w' := by
  obtain ⟨ba, bb, ha, hb, F, G, k1, k2, k3, k4, k5, k6, k7, k8, k9⟩ := h
  have hsz := k6.size
  refine ⟨ba, bb, ha, hb, F, G, k1, k2, k3.step0 hs, k4.step0 hs, k5, k6.then hs (by simp), fun k hk hm => ?_, fun k hk hm => ?_, fun k hk => ?_⟩
  · rcases List.mem_cons.1 hk with rfl | hk
    · have := k3.liveR _ hm
      omega
    · exact k7 k hk hm
  · rcases List.mem_cons.1 hk with rfl | hk
    · have := k4.liveR _ hm
      omega
    · exact k8 k hk hm
  · rcases List.mem_cons.1 hk with rfl | hk
    · omega
    · exact ⟨(k9 k hk).1, Nat.lt_of_lt_of_le (k9 k hk).2 hs.size⟩
theorem Two.made (h : RwN w0 ra (fun _ => []) w) (h' : RwN w rb (fun _ => []) w') : Two w0 ra rb (fun _ => []) (fun _ => []) [] w' := by
  obtain ⟨ba, ha, F, h1, h2, h3⟩ := h
  obtain ⟨bb, hb, G, k1, k2, k3⟩ := h'
  refine ⟨ba, bb, ha, hb, F, G, h1, Nat.le_trans h3.size k1, h2.step0 k3, k2, fun k hk hm => ?_, h3.then k3 (by simp), fun k hk => absurd hk List.not_mem_nil, fun k hk => absurd hk List.not_mem_nil, fun k hk => absurd hk List.not_mem_nil⟩
  have a1 := h2.liveR k hk
  have a2 := k2.lowR k hm
  omega
theorem Two.put (h : Two w0 ra rb S T X w) (k : ByteArray) (p : Nat) (o : Int) (hp : p < 4) (hg : HpE.good k) (hh : hasR S k = false) (hfew : (S p).length < 1000) :
    Calls Try.prog 9 #[.pointer (some ⟨ra, 0, none⟩), .string k, .int .i64 p, .int .u64 o] w fun e w' => e = .returned (.int .i64 0) ∧ Two w0 ra rb (upd S p (Hp.ins HpE.lt (k, o) (Hp.wok k (S p)))) T X w' ∧ ∀ k, k ∈ X → w'.heap[k]? = w.heap[k]? := by
  obtain ⟨ba, bb, ha, hb, F, G, h1, h2, h3, h4, h5, h6, h7, h8, h9⟩ := h
  refine (put_any h3 k p o hp hg hh hfew).mono ?_
  rintro e w' ⟨rfl, F', k1, k2, k3⟩
  exact ⟨rfl, ⟨ba, bb, ha, hb, F', G, h1, h2, k1, h4.step k2 (fun k hk hm => h5 k hm hk), (h5.symm.fresh h4.liveR k3).symm, h6.then k2 (fun k hk => .inr (Nat.le_trans h1 (h3.lowR k hk))), h7.fresh (fun k hk => (h9 k hk).2) k3, h8, fun k hk => ⟨(h9 k hk).1, Nat.lt_of_lt_of_le (h9 k hk).2 k2.size⟩⟩, fun k hk => k2.block k (h9 k hk).2 (h7 k hk)⟩
theorem Two.take (h : Two w0 ra rb S T X w) :
    Calls Try.prog 10 #[.pointer (some ⟨ra, 0, none⟩)] w fun e w' => e = .returned (.tuple #[.string (hdA (allS S)).1, .bool (hdA (allS S)).2]) ∧ ∃ S', Taken S S' ∧ Two w0 ra rb S' T X w' ∧ ∀ k, k ∈ X → w'.heap[k]? = w.heap[k]? := by
  obtain ⟨ba, bb, ha, hb, F, G, h1, h2, h3, h4, h5, h6, h7, h8, h9⟩ := h
  refine (take_any h3).mono ?_
  rintro e w' ⟨S', F', rfl, k1, k2, k3, k4⟩
  exact ⟨rfl, S', k4, ⟨ba, bb, ha, hb, F', G, h1, h2, k1, h4.step k2 (fun k hk hm => h5 k hm hk), (h5.symm.fresh h4.liveR k3).symm, h6.then k2 (fun k hk => .inr (Nat.le_trans h1 (h3.lowR k hk))), h7.fresh (fun k hk => (h9 k hk).2) k3, h8, fun k hk => ⟨(h9 k hk).1, Nat.lt_of_lt_of_le (h9 k hk).2 k2.size⟩⟩, fun k hk => k2.block k (h9 k hk).2 (h7 k hk)⟩
/-- one is taken of the first row, and what it is -/
theorem Two.takeT {z : List Int} {n q : Nat} {lp : Int} {lx : It} (h : Two w0 ra rb S T X w) (ht : Takes z n q S lp lx) (hq : q < n) :
    Calls Try.prog 10 #[.pointer (some ⟨ra, 0, none⟩)] w fun e w' => ∃ i S', i < n ∧ hdA (allS S) = (nm2 i, true) ∧ e = .returned (.tuple #[.string (nm2 i), .bool true]) ∧ Takes z n (q + 1) S' ((prio z i : Nat) : Int) (item z i) ∧ (0 ≤ lp → Ahd lp lx ((prio z i : Nat) : Int) (item z i)) ∧ Taken S S' ∧ Two w0 ra rb S' T X w' ∧ ∀ k, k ∈ X → w'.heap[k]? = w.heap[k]? := by
  refine h.take.mono ?_
  rintro e w' ⟨rfl, S', k1, k2, k3⟩
  obtain ⟨i, h1, h2, h3, h4⟩ := ht.next hq k1
  exact ⟨i, S', h1, h2, by rw [h2], h3, h4, k1, k2, k3⟩
end
end Rd
end Go.Proofs.Ytebgojcecgimaaa
