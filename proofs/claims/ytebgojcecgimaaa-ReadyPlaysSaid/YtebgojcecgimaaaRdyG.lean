/- Ready: Take; the chapter's example. -/
import Derived.Test.YtebgojcecgimaaaRdyF
import Derived.Test.YtebgojcecgimaaaRdyNone
namespace Go.Proofs.Ytebgojcecgimaaa
set_option linter.unusedVariables false
set_option linter.unusedSimpArgs false
open Go.RowKit Go.Shelf
namespace Rd
theorem allS_eq (S : Nat → List It) : allS S = S 0 ++ (S 1 ++ (S 2 ++ S 3)) := by simp [allS, preS, List.range_succ]
theorem allS_nil {S : Nat → List It} (h : allS S = []) : ∀ i, i < 4 → S i = [] := by
  rw [allS_eq] at h
  simp only [List.append_eq_nil_iff] at h
  intro i hi
  rcases (by omega : i = 0 ∨ i = 1 ∨ i = 2 ∨ i = 3) with rfl | rfl | rfl | rfl
  · exact h.1
  · exact h.2.1
  · exact h.2.2.1
  · exact h.2.2.2
theorem allS_first {S : Nat → List It} {x : It} {r : List It} (h : allS S = x :: r) : ∃ p t, p < 4 ∧ S p = x :: t ∧ (∀ q, q < p → S q = []) ∧ ∀ t', allS (upd S p t') = t' ++ (r.drop t.length) ∧ r = t ++ (r.drop t.length) := by
  rw [allS_eq] at h
  cases h0 : S 0 with
  | cons y t =>
    rw [h0] at h
    cases h
    refine ⟨0, t, by omega, h0, fun q hq => by omega, fun t' => ?_⟩
    simp [allS_eq, upd]
  | nil =>
    rw [h0, List.nil_append] at h
    cases h1 : S 1 with
    | cons y t =>
      rw [h1] at h
      cases h
      refine ⟨1, t, by omega, h1, fun q hq => by (have : q = 0 := by omega); subst this; exact h0, fun t' => ?_⟩
      simp [allS_eq, upd, h0]
    | nil =>
      rw [h1, List.nil_append] at h
      cases h2 : S 2 with
      | cons y t =>
        rw [h2] at h
        cases h
        refine ⟨2, t, by omega, h2, fun q hq => by rcases (by omega : q = 0 ∨ q = 1) with rfl | rfl; exact h0; exact h1, fun t' => ?_⟩
        simp [allS_eq, upd, h0, h1]
      | nil =>
        rw [h2, List.nil_append] at h
        refine ⟨3, r, by omega, h, fun q hq => by rcases (by omega : q = 0 ∨ q = 1 ∨ q = 2) with rfl | rfl | rfl; exact h0; exact h1; exact h2, fun t' => ?_⟩
        simp [allS_eq, upd, h0, h1, h2]
theorem hasK_nil (k : ByteArray) : HpE.hasK [] k = false := rfl
theorem hasK_head (x : It) (t : List It) : HpE.hasK (x :: t) x.1 = true := by simp [HpE.hasK]
def TakePost (base rb : Nat) (hb : Nat → Nat) (S : Nat → List It) (F : Nat → List Nat) (w : World) (e : Ending) (w' : World) : Prop :=
  ∃ S' F', e = .returned (.tuple #[.string (hdA (allS S)).1, .bool (hdA (allS S)).2]) ∧ Rw w' base rb hb S' F' ∧ Step (footR rb F) w w' ∧ Fresh w (footR rb F) (footR rb F') ∧
    ((allS S = [] ∧ S' = S) ∨ ∃ p x t, p < 4 ∧ S p = x :: t ∧ (∀ q, q < p → S q = []) ∧ S' = upd S p t)
theorem take_of_cut {base rb : Nat} {hb : Nat → Nat} {S : Nat → List It} {F : Nat → List Nat} {x : It} {r : List It} {w w1 w' : World} {e : Ending} (h : Rw w base rb hb S F) (hS : allS S = x :: r) (hs : Step [] w w1) (hc : CutPost base rb hb S F x.1 w1 e w') :
    e = .returned (.bool true) ∧ TakePost base rb hb S F w (.returned (.tuple #[.string x.1, .bool true])) w' := by
  obtain ⟨p, t, hp, hSp, hq, hr⟩ := allS_first hS
  obtain ⟨S', F', h1, h2, h3, h4⟩ := hc
  rcases h4 with ⟨hn, _⟩ | ⟨p', hp', hk, hno, he, hS'⟩
  · have := hasR_at (S := S) (k := x.1) hp (by rw [hSp]; exact hasK_head x t)
    rw [hn] at this
    cases this
  · have hpp : p' = p := by
      rcases Nat.lt_trichotomy p' p with h5 | h5 | h5
      · rw [hq p' h5, hasK_nil] at hk
        cases hk
      · exact h5
      · have h6 := hno p h5
        rw [hSp, hasK_head] at h6
        cases h6
    subst hpp
    have hkeys := (h.hs p' hp).keys
    rw [hSp] at hkeys hS'
    rw [Hp.wok_head hkeys] at hS'
    refine ⟨he, S', F', by rw [hS]; rfl, h1, (hs.mono (by simp)).then h2 (fun k hk => .inl hk), fun k hk => (h3 k hk).imp id (Nat.le_trans hs.size), .inr ⟨p', x, t, hp, hSp, hq, hS'⟩⟩
set_option maxRecDepth 20000 in
set_option maxHeartbeats 1000000 in
theorem take_any {w : World} {base rb : Nat} {hb : Nat → Nat} {S : Nat → List It} {F : Nat → List Nat} (h : Rw w base rb hb S F) :
    Calls Try.prog 10 #[.pointer (some ⟨rb, 0, none⟩)] w (TakePost base rb hb S F w) := by
  have HN := Lib.hid (next_any h)
  have HH := Lib.hid h
  obtain ⟨A, hA⟩ : ∃ A, allS S = A := ⟨_, rfl⟩
  have HA := Lib.hid hA
  rw [hA] at HN
  clear h hA
  cases A with
  | nil =>
    simp only [hdA] at HN
    go_enter Try.func10, Try.ntmps10
    go_wp2_with fail
    refine HN.out.mono ?_
    rintro e w1 ⟨rfl, hs⟩
    go_wp2_with fail
    go_ret2
    exact ⟨S, F, by rw [HA.out]; rfl, HH.out.step0 hs, hs.mono (by simp), fun k hk => .inl hk, .inl ⟨HA.out, rfl⟩⟩
  | cons x r =>
    simp only [hdA] at HN
    have hg : HpE.good x.1 := by
      obtain ⟨p, t, hp, hSp, _⟩ := allS_first HA.out
      exact (HH.out.hs p hp).good x (by rw [hSp]; simp)
    have HG := Lib.hid hg
    obtain ⟨k, hk⟩ : ∃ k, x.1 = k := ⟨_, rfl⟩
    have HK := Lib.hid hk
    rw [hk] at HN
    clear hg hk
    go_enter Try.func10, Try.ntmps10
    go_wp2_with fail
    refine HN.out.mono ?_
    rintro e w1 ⟨rfl, hs⟩
    have HC := Lib.hid ((cut_any (HH.out.step0 hs) x.1 HG.out).mono (fun e w' hc => take_of_cut HH.out HA.out hs hc))
    rw [HK.out] at HC
    clear hs
    go_wp2_with fail
    refine HC.out.mono ?_
    rintro e w2 ⟨rfl, hP⟩
    have HP := Lib.hid hP
    clear hP
    go_wp2_with fail
    go_ret2
    exact HP.out
theorem good_little {k : ByteArray} (h : k.size ≤ 40) : HpE.good k := by
  show k.size ≤ _
  unfold maxLen
  omega
theorem Rw.lowR {w : World} {base rb : Nat} {hb : Nat → Nat} {S : Nat → List It} {F : Nat → List Nat} (h : Rw w base rb hb S F) : ∀ k, k ∈ footR rb F → base ≤ k := fun k hk => by
  rcases mem_footR.1 hk with rfl | ⟨i, hi, hk⟩
  · exact h.low
  · exact (h.hs i hi).low k hk
/-- a row of the call's own -/
def RwN (w0 : World) (rb : Nat) (S : Nat → List It) (w : World) : Prop := ∃ base hb F, w0.heap.size ≤ base ∧ Rw w base rb hb S F ∧ Step [] w0 w
theorem RwN.step {w0 w w' : World} {rb : Nat} {S : Nat → List It} (h : RwN w0 rb S w) (hs : Step [] w w') : RwN w0 rb S w' := by
  obtain ⟨base, hb, F, h1, h2, h3⟩ := h
  exact ⟨base, hb, F, h1, h2.step0 hs, h3.then hs (by simp)⟩
theorem RwN.st {w0 w : World} {rb : Nat} {S : Nat → List It} (h : RwN w0 rb S w) : Step [] w0 w := h.elim fun _ ⟨_, _, _, _, h⟩ => h
theorem new_n (w : World) : Calls Try.prog 7 #[] w fun e w' => ∃ rb, e = .returned (.pointer (some ⟨rb, 0, none⟩)) ∧ RwN w rb (fun _ => []) w' := by
  refine (new_any w).mono ?_
  rintro e w' ⟨hb, F, rfl, h, hs⟩
  exact ⟨_, rfl, _, hb, F, Nat.le_refl _, h, hs⟩
theorem put_n {w0 w : World} {rb : Nat} {S : Nat → List It} (h : RwN w0 rb S w) (k : ByteArray) (p : Nat) (o : Int) (hp : p < 4) (hg : HpE.good k) (hh : hasR S k = false) (hfew : (S p).length < 1000) :
    Calls Try.prog 9 #[.pointer (some ⟨rb, 0, none⟩), .string k, .int .i64 p, .int .u64 o] w fun e w' => e = .returned (.int .i64 0) ∧ RwN w0 rb (upd S p (Hp.ins HpE.lt (k, o) (Hp.wok k (S p)))) w' := by
  obtain ⟨base, hb, F, h1, h2, h3⟩ := h
  refine (put_any h2 k p o hp hg hh hfew).mono ?_
  rintro e w' ⟨rfl, F', h4, h5, h6⟩
  exact ⟨rfl, base, hb, F', h1, h4, h3.then h5 (fun k hk => .inr (Nat.le_trans h1 (h2.lowR k hk)))⟩
/-- one is taken -/
def Taken (S S' : Nat → List It) : Prop := (allS S = [] ∧ S' = S) ∨ ∃ p x t, p < 4 ∧ S p = x :: t ∧ (∀ q, q < p → S q = []) ∧ S' = upd S p t
theorem Taken.all {S S' : Nat → List It} (h : Taken S S') : allS S' = (allS S).tail := by
  rcases h with ⟨h1, rfl⟩ | ⟨p, x, t, hp, hSp, hq, rfl⟩
  · rw [h1]
    rfl
  · rcases (by omega : p = 0 ∨ p = 1 ∨ p = 2 ∨ p = 3) with rfl | rfl | rfl | rfl
    · simp [allS_eq, upd, hSp]
    · simp [allS_eq, upd, hSp, hq 0 (by omega)]
    · simp [allS_eq, upd, hSp, hq 0 (by omega), hq 1 (by omega)]
    · simp [allS_eq, upd, hSp, hq 0 (by omega), hq 1 (by omega), hq 2 (by omega)]
theorem take_n {w0 w : World} {rb : Nat} {S : Nat → List It} (h : RwN w0 rb S w) :
    Calls Try.prog 10 #[.pointer (some ⟨rb, 0, none⟩)] w fun e w' => e = .returned (.tuple #[.string (hdA (allS S)).1, .bool (hdA (allS S)).2]) ∧ ∃ S', Taken S S' ∧ RwN w0 rb S' w' := by
  obtain ⟨base, hb, F, h1, h2, h3⟩ := h
  refine (take_any h2).mono ?_
  rintro e w' ⟨S', F', rfl, h4, h5, h6, h7⟩
  exact ⟨rfl, S', h7, base, hb, F', h1, h4, h3.then h5 (fun k hk => .inr (Nat.le_trans h1 (h2.lowR k hk)))⟩
set_option maxRecDepth 20000 in
set_option maxHeartbeats 1000000 in
theorem lives_any (w : World) : Calls Try.prog 6 #[] w fun e w' => e = .returned (.bool true) ∧ Step [] w w' := by
  go_enter Try.func6, Try.ntmps6
  go_wp2_with fail
  refine (new_n w).mono ?_
  rintro e w1 ⟨rb, rfl, h1⟩
  have H1 := Lib.hid h1
  clear h1
  go_wp2_with fail
  refine (put_n H1.out { data := #[98] } 1 1 (by omega) (good_little (by decide)) rfl (by simp)).mono ?_
  rintro e w2 ⟨rfl, h2⟩
  have H2 := Lib.hid h2
  clear h2
  go_wp2_with fail
  refine (put_n H2.out { data := #[97] } 0 2 (by omega) (good_little (by decide)) (by simp [hasR, upd, Hp.wok, Hp.wo, Hp.ins, HpE.hasK]) (by simp [upd])).mono ?_
  rintro e w3 ⟨rfl, h3⟩
  have H3 := Lib.hid h3
  clear h3
  go_wp2_with fail
  refine (take_n H3.out).mono ?_
  rintro e w4 ⟨rfl, S4, t4, h4⟩
  have ha3 : allS (upd (upd (fun _ => []) 1 (Hp.ins HpE.lt (({ data := #[98] } : ByteArray), 1) (Hp.wok { data := #[98] } []))) 0 (Hp.ins HpE.lt (({ data := #[97] } : ByteArray), 2) (Hp.wok { data := #[97] } (upd (fun _ => []) 1 (Hp.ins HpE.lt (({ data := #[98] } : ByteArray), 1) (Hp.wok { data := #[98] } [])) 0)))) = [({ data := #[97] }, 2), ({ data := #[98] }, 1)] := by
    simp [allS_eq, upd, Hp.wok, Hp.wo, Hp.ins]
  have ha4 := t4.all
  rw [ha3] at ha4 ⊢
  simp only [hdA, List.tail_cons] at ha4 ⊢
  have H4 := Lib.hid (And.intro h4 ha4)
  clear h4 t4 ha4 ha3
  go_wp2_with fail
  refine (take_n H4.out.1).mono ?_
  rintro e w5 ⟨rfl, S5, t5, h5⟩
  rw [H4.out.2]
  simp only [hdA]
  have H5 := Lib.hid h5.st
  clear h5 t5
  go_wp2_with fail
  go_ret
  exact ⟨rfl, H5.out⟩
theorem none_all (k : ByteArray) (p : Int) (w : World) : Calls Try.prog 5 #[.string k, .int .i64 p] w fun e w' => e = .returned (.bool true) ∧ Step [] w w' := none_any lives_any k p w
end Rd
end Go.Proofs.Ytebgojcecgimaaa
