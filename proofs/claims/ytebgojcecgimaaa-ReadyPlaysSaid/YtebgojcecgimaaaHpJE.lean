/- heap E (string, uint64): a heap as a row in order. -/
import Derived.Test.YtebgojcecgimaaaHpIE
import Derived.Test.YtebgojcecgimaaaHpS
namespace Go.Proofs.Ytebgojcecgimaaa
set_option linter.unusedVariables false
open Go.RowKit
namespace HpE
abbrev lt : It → It → Bool := Hp.ltI ltStr
theorem olt : Hp.Ord lt := Hp.ordI Hp.ordStr
abbrev good (k : ByteArray) : Prop := ((strKey Try.underlying9) : KeyT Try.prog _ _).good k
/-- a heap in the blocks F, which holds s, in order -/
def Hs (w : World) (base hb : Nat) (s : List It) (F : List Nat) : Prop :=
  ∃ lv mb l f, F = footH hb lv mb ∧ HR w base hb lv mb l f ∧ Hp.OK lt l ∧ l.Perm s ∧ Hp.Srt lt s
variable {w w' : World} {base hb : Nat} {s : List It} {F G : List Nat}
theorem Hs.step (h : Hs w base hb s F) (hs : Step G w w') (hn : ∀ k, k ∈ F → k ∉ G) : Hs w' base hb s F := by
  obtain ⟨lv, mb, l, f, rfl, h1, h2⟩ := h
  exact ⟨lv, mb, l, f, rfl, h1.step hs hn, h2⟩
theorem Hs.live (h : Hs w base hb s F) : ∀ k, k ∈ F → k < w.heap.size := by
  obtain ⟨lv, mb, l, f, rfl, h1, h2⟩ := h
  exact h1.live
theorem Hs.low (h : Hs w base hb s F) : ∀ k, k ∈ F → base ≤ k := by
  obtain ⟨lv, mb, l, f, rfl, h1, h2⟩ := h
  exact h1.base'
theorem Hs.srt (h : Hs w base hb s F) : Hp.Srt lt s := by
  obtain ⟨lv, mb, l, f, rfl, h1, h2, h3, h4⟩ := h
  exact h4
theorem Hs.keys (h : Hs w base hb s F) : (s.map (fun x => x.1)).Nodup := by
  obtain ⟨lv, mb, l, f, rfl, h1, h2, h3, h4⟩ := h
  exact (h3.map _).nodup_iff.1 (keys_ok h1.at').1
theorem Hs.good (h : Hs w base hb s F) : ∀ x ∈ s, HpE.good x.1 := by
  obtain ⟨lv, mb, l, f, rfl, h1, h2, h3, h4⟩ := h
  exact fun x hx => h1.good x (h3.mem_iff.2 hx)
/-- how many are in the heap of block hb -/
def szAt (w : World) (hb : Nat) : Nat := match w.cell? ⟨hb, 0, none⟩ with | some (.slice _ n _) => n | _ => 0
theorem Hs.sz (h : Hs w base hb s F) : szAt w hb = s.length := by
  obtain ⟨lv, mb, l, f, rfl, h1, h2, h3, h4⟩ := h
  obtain ⟨ao, cap, rfl⟩ : ∃ ao cap, lv = .slice ao l.length cap := by
    rcases h1.own.2 with ⟨hv, h0⟩ | ⟨g, cap, cur, hv, _⟩
    · exact ⟨none, 0, by rw [hv, h0]⟩
    · exact ⟨_, cap, hv⟩
  have c0 : w.cell? ⟨hb, 0, none⟩ = some (.slice ao l.length cap) := h1.blk.cell 0
  unfold szAt
  rw [c0]
  exact h3.length_eq
def hasK (s : List It) (k : ByteArray) : Bool := s.any fun x => decide (x.1 = k)
theorem some_has {mb : Nat} {lv : Value} {l : List It} {f : ByteArray → Option Int} (h : HR w base hb lv mb l f) (hp : l.Perm s) (k : ByteArray) : (f k).isSome = hasK s k := by
  have h2 := (keys_ok h.at').2 k
  rw [List.mem_map] at h2
  unfold hasK
  rw [Bool.eq_iff_iff, List.any_eq_true]
  constructor
  · intro h3
    obtain ⟨x, hx, e⟩ := h2.1 (by intro e; rw [e] at h3; cases h3)
    exact ⟨x, hp.mem_iff.1 hx, by simpa using e⟩
  · rintro ⟨x, hx, e⟩
    have h3 := h2.2 ⟨x, hp.mem_iff.2 hx, by simpa using e⟩
    cases e2 : f k with
    | none => exact absurd e2 h3
    | some v => rfl
/-- what it gives first -/
def hdS : List It → It × Bool
  | [] => ((ByteArray.empty, 0), false)
  | x :: _ => (x, true)
theorem hd_s {l : List It} (hok : Hp.OK lt l) (hp : l.Perm s) (hs : Hp.Srt lt s) : hd l = hdS s := by
  cases s with
  | nil => rw [hp.eq_nil]; rfl
  | cons x r =>
    rw [hd_cons (by rw [hp.length_eq]; simp), Hp.head_min olt hok hp hs]
    rfl
theorem new_hs (w : World) : Calls Try.prog 21 #[] w fun e w' => ∃ hb F, e = .returned (.pointer (some ⟨hb, 0, none⟩)) ∧ Hs w' w.heap.size hb [] F ∧ Step [] w w' := by
  refine (new_any w).mono ?_
  rintro e w' ⟨rfl, h, hs⟩
  exact ⟨_, _, rfl, ⟨_, _, _, _, rfl, h, Hp.ok_nil, List.Perm.refl _, List.Pairwise.nil⟩, hs⟩
theorem len_hs (h : Hs w base hb s F) : Calls Try.prog 28 #[.pointer (some ⟨hb, 0, none⟩)] w fun e w' => e = .returned (.int .i64 (s.length : Int)) ∧ w = w' := by
  obtain ⟨lv, mb, l, f, rfl, h1, h2, h3, h4⟩ := h
  rw [← h3.length_eq]
  exact len_any _ _ _ _ _ _ _ h1
theorem put_hs (h : Hs w base hb s F) (k : ByteArray) (r : Int) (hg : HpE.good k) (hfew : s.length < 1000) : Calls Try.prog 22 #[.pointer (some ⟨hb, 0, none⟩), .string (k), .int .u64 (r)] w fun e w' =>
    ∃ F', e = .returned (.bool (hasK s k)) ∧ Hs w' base hb (Hp.ins lt (k, r) (Hp.wok k s)) F' ∧ Step F w w' ∧ Fresh w F F' := by
  obtain ⟨lv, mb, l, f, rfl, h1, h2, h3, h4⟩ := h
  refine (put_any _ _ _ _ _ _ k r _ h1 h2 (by rw [h3.length_eq]; exact hfew) hg).mono ?_
  rintro e w' ⟨rfl, lv', l', f', hR, hO, hp, hs, hf⟩
  refine ⟨_, by rw [some_has h1 h3], ⟨lv', mb, l', f', rfl, hR, hO, (hp.trans ((Hp.wok_perm k h3).cons _)).trans (Hp.ins_perm _ _).symm, Hp.ins_wok olt k r h4⟩, hs, ?_⟩
  intro j hj
  simp only [footH, List.mem_cons] at hj ⊢
  rcases hj with hj | hj | hj
  · exact .inl (.inl hj)
  · exact .inl (.inr (.inl hj))
  · rcases hf j hj with h5 | h5
    · exact .inl (.inr (.inr h5))
    · exact .inr h5
theorem cut_hs (h : Hs w base hb s F) (k : ByteArray) (hg : HpE.good k) : Calls Try.prog 24 #[.pointer (some ⟨hb, 0, none⟩), .string (k)] w fun e w' =>
    ∃ F', e = .returned (.bool (hasK s k)) ∧ Hs w' base hb (Hp.wok k s) F' ∧ Step F w w' ∧ Fresh w F F' := by
  obtain ⟨lv, mb, l, f, rfl, h1, h2, h3, h4⟩ := h
  refine (cut_any _ _ _ _ _ _ k _ h1 h2 hg).mono ?_
  rintro e w' ⟨rfl, lv', l', f', hR, hO, hp, hs, hf⟩
  refine ⟨_, by rw [some_has h1 h3], ⟨lv', mb, l', f', rfl, hR, hO, hp.trans (Hp.wok_perm k h3), Hp.wok_srt k h4⟩, hs, ?_⟩
  intro j hj
  simp only [footH, List.mem_cons] at hj ⊢
  rcases hj with hj | hj | hj
  · exact .inl (.inl hj)
  · exact .inl (.inr (.inl hj))
  · rcases hf j hj with h5 | h5
    · exact .inl (.inr (.inr h5))
    · exact .inr h5
theorem first_hs (h : Hs w base hb s F) : Calls Try.prog 38 #[.pointer (some ⟨hb, 0, none⟩)] w fun e w' =>
    e = .returned (.tuple #[.agg #[.string ((hdS s).1.1), .int .u64 ((hdS s).1.2)], .bool (hdS s).2]) ∧ Step [] w w' := by
  obtain ⟨lv, mb, l, f, rfl, h1, h2, h3, h4⟩ := h
  rw [← hd_s h2 h3 h4]
  exact first_any _ _ _ _ _ _ _ h1
theorem pop_hs (h : Hs w base hb s F) : Calls Try.prog 35 #[.pointer (some ⟨hb, 0, none⟩)] w fun e w' =>
    ∃ F', e = .returned (.tuple #[.agg #[.string ((hdS s).1.1), .int .u64 ((hdS s).1.2)], .bool (hdS s).2]) ∧ Hs w' base hb s.tail F' ∧ Step F w w' ∧ Fresh w F F' := by
  have hk := h.keys
  obtain ⟨lv, mb, l, f, rfl, h1, h2, h3, h4⟩ := h
  refine (pop_any _ _ _ _ _ _ _ h1 h2).mono ?_
  rintro e w' ⟨rfl, lv', l', f', hR, hO, hp, hs, hf⟩
  have hpop : (popL l).Perm s.tail := by
    unfold popL
    rw [hd_s h2 h3 h4]
    cases s with
    | nil => rw [h3.eq_nil]; exact List.Perm.refl _
    | cons x r =>
      have h5 := Hp.wok_perm x.1 h3
      rw [Hp.wok_head hk] at h5
      exact h5
  refine ⟨_, by rw [hd_s h2 h3 h4], ⟨lv', mb, l', f', rfl, hR, hO, hp.trans hpop, List.Pairwise.tail h4⟩, hs, ?_⟩
  intro j hj
  simp only [footH, List.mem_cons] at hj ⊢
  rcases hj with hj | hj | hj
  · exact .inl (.inl hj)
  · exact .inl (.inr (.inl hj))
  · rcases hf j hj with h5 | h5
    · exact .inl (.inr (.inr h5))
    · exact .inr h5
end HpE
end Go.Proofs.Ytebgojcecgimaaa
