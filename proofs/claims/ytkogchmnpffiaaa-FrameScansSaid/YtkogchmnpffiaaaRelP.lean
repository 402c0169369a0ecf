/- A REGION THAT DRAWS ITS ORDER: a head in whatever order, of which some operations (late ones: they take a result apart) need not be waited for by what stands behind the head. No program in sight. -/
import Derived.Test.YtkogchmnpffiaaaRoundAny
namespace Go.Proofs.Ytkogchmnpffiaaa
set_option linter.unusedVariables false
open Go.RowKit
section
variable {P : Program} {ops : Array Oper} {md : Region.Mode} {G : World → World → Prop} {W0 : World} {Sp : FuncId → Array Value → Value → World → Prop}
def isExtract (o : Oper) : Bool := match o.op with | .extract .. => true | _ => false
theorem extract_any (x : Value) (i : Nat) (P : Program) (w w2 : World) : (∃ u, (Instr.extract x i).run P w = .ok u w ∧ (Instr.extract x i).run P w2 = .ok u w2) ∨ (∀ u w', (Instr.extract x i).run P w ≠ .ok u w') := by
  cases x with
  | tuple vs =>
    unfold Instr.extract
    cases h : vs[i]? with
    | some u => exact .inl ⟨u, by simp [h], by simp [h]⟩
    | none => exact .inr (fun u w' hh => by simp [h] at hh)
  | _ => exact .inr (fun u w' hh => by simp [Instr.extract] at hh)
theorem extract_run {o : Oper} (ho : isExtract o = true) {a : Act} {w w' : World} {u : Value} (h : ranV P o a w u w') : w' = w ∧ ∀ w2, (execOp a.eval o).run P w2 = .ok (.value u) w2 := by
  unfold isExtract at ho
  unfold ranV at h
  have key : ∀ (x : Operand) (i : Nat), o.op = .extract x i → w' = w ∧ ∀ w2, (execOp a.eval o).run P w2 = .ok (.value u) w2 := by
    intro x i hx
    have he : ∀ w2, (execOp a.eval o).run P w2 = ((Instr.extract (a.eval x) i).run P w2).andThen fun v w3 => .ok (.value v) w3 := fun w2 => by
      unfold execOp
      simp only [hx, Sem.run_bind, Sem.run_pure]
    rw [he] at h
    rcases extract_any (a.eval x) i P w w with ⟨v, h1, -⟩ | h1
    · rw [h1] at h
      simp only [Result.andThen_ok, oVal, Option.some.injEq, Prod.mk.injEq] at h
      obtain ⟨rfl, rfl⟩ := h
      refine ⟨rfl, fun w2 => ?_⟩
      rw [he]
      rcases extract_any (a.eval x) i P w w2 with ⟨v2, h2, h3⟩ | h2
      · rw [h1] at h2
        cases h2
        rw [h3]
        rfl
      · exact absurd h1 (h2 _ _)
    · generalize hr : (Instr.extract (a.eval x) i).run P w = r at h
      cases r with
      | ok v w1 => exact absurd hr (h1 _ _)
      | halt y w1 => simp [Result.andThen, oVal] at h
  cases hop : o.op with
  | extract x i => exact key x i hop
  | _ => rw [hop] at ho; cases ho

/-- whatever order is picked, as long as the head lasts; what stands behind the head is not looked at -/
def wpAnyQ (P : Program) (md : Region.Mode) (ops : Array Oper) (G : World → World → Prop) (W0 : World) (Sp : FuncId → Array Value → Value → World → Prop) (n : Nat) (L : Array Bool → Act → (World → Prop) → Prop) : Nat → Array Bool → Act → (World → Prop) → Prop
  | 0, listed, a, F => L listed a F
  | f + 1, listed, a, F =>
    (∃ i, i < n ∧ i ∈ Region.ready md ops listed) ∧ ∀ i ∈ Region.ready md ops listed, i < n → rOp P ops G W0 Sp i (wpAnyQ P md ops G W0 Sp n L f (listed.setIfInBounds i true)) a F

theorem wpAnyQ_first (R : RelLaw G Sp) {n i : Nat} {oi : Oper} {D : Value → Prop} {S : Value → World → Prop} {L : Array Bool → Act → (World → Prop) → Prop} (hi : ops[i]? = some oi) (hsel : ∀ (j : Nat) (o : Oper) cs b, ops[j]? = some o → o.op ≠ .select cs b)
    (hin : i < n) (hdone : ∀ listed a F, L listed a F → ∀ j ∈ Region.ready md ops listed, n ≤ j) :
    ∀ (f : Nat) (listed : Array Bool) (a : Act) (F : World → Prop), HeadInv md ops n listed →
      (∀ j oj, ops[j]? = some oj → j ≠ i → listed.getD j true = false → (∀ e ∈ oj.after, Region.binds md e = true → e.on ≠ i) → oi.apart ops oj = true) →
      i ∈ Region.ready md ops listed → YR P ops G W0 Sp oi a D S →
      (∀ v, D v → wpAnyQ P md ops G W0 Sp n L f (listed.setIfInBounds i true) (a.put oi.dst v) (fun w => F w ∧ S v w)) → wpAnyQ P md ops G W0 Sp n L (f + 1) listed a F := by
  intro f
  induction f with
  | zero =>
    intro listed a F inv _ hr hy H
    refine ⟨⟨i, hin, hr⟩, fun j hj hjn => ?_⟩
    by_cases hji : j = i
    · subst hji
      unfold rOp
      simp only [hi]
      exact ⟨D, S, hy, H⟩
    · obtain ⟨v0, hv0⟩ := hy.some R
      have := hdone _ _ _ (H v0 hv0) j (ready_mono hj hji)
      omega
  | succ f ih =>
    intro listed a F inv hfree hr hy H
    have hun := (mem_ready.1 hr).1
    refine ⟨⟨i, hin, hr⟩, fun j hj hjn => ?_⟩
    by_cases hji : j = i
    · subst hji
      unfold rOp
      simp only [hi]
      exact ⟨D, S, hy, H⟩
    · obtain ⟨hjun, oj, hoj, hall⟩ := mem_ready.1 hj
      have hnot : ∀ e ∈ oj.after, Region.binds md e = true → e.on ≠ i := fun e he hb heq => by
        have h1 := hall e he hb
        rw [heq, getD_both hun] at h1
        cases h1
      have h2 := rOp_put R hoj (hfree j oj hoj hji hjun hnot) (fun cs b => hsel i oi cs b hi) (fun cs b => hsel j oj cs b hoj) hy (fun v hv => (H v hv).2 j (ready_mono hj hji) hjn)
      have hfree' : ∀ k ok, ops[k]? = some ok → k ≠ i → (listed.setIfInBounds j true).getD k true = false →
          (∀ e ∈ ok.after, Region.binds md e = true → e.on ≠ i) → oi.apart ops ok = true := fun k ok hk hki hun hno => by
        refine hfree k ok hk hki ?_ hno
        by_cases hjk : j = k
        · subst hjk; exact hjun
        · rw [getD_set_ne true hjk] at hun; exact hun
      refine rOp_mono (fun a' F' h3 => ih (listed.setIfInBounds j true) a' F' (inv.set hj hjn) hfree' (ready_mono hr (Ne.symm hji)) h3.1 ?_) h2
      rw [Array.setIfInBounds_comm _ _ hji]
      exact h3.2

theorem wpAnyQ_lex (R : RelLaw G Sp) {n g : Nat} {Lq : Act → (World → Prop) → Prop} (hsel : Region.noSelect ops = true) :
    ∀ (l : List Oper) (k : Nat) (listed : Array Bool) (a : Act) (F : World → Prop), (∀ j, j < l.length → l[j]? = ops[k + j]?) → k + l.length = n → HeadInv md ops n listed →
    Region.lexHead md ops g l.length k listed = true → wpR P ops G W0 Sp Lq l a F →
    wpAnyQ P md ops G W0 Sp n (fun listed' a' F' => Region.seqB md ops g n listed' = true ∧ Lq a' F') l.length listed a F
  | [], k, listed, a, F, _, hk, _, hB, h => by
    have : k = n := by simpa using hk
    subst this
    exact ⟨by simpa [Region.lexHead] using hB, h⟩
  | o :: l, k, listed, a, F, hl, hk, inv, hB, h => by
    have h0 : ops[k]? = some o := by simpa using (hl 0 (by simp)).symm
    simp only [List.length_cons, Region.lexHead, Bool.and_eq_true] at hB
    obtain ⟨⟨hr, hf⟩, hB'⟩ := hB
    have hkn : k < n := by simp only [List.length_cons] at hk; omega
    have hr' : k ∈ Region.ready md ops listed := by simpa using hr
    obtain ⟨D, S, hy, hK⟩ := h
    exact wpAnyQ_first R h0 (Region.noSelect_spec hsel) hkn (fun listed' a' F' hL => seqB_ready hL.1) l.length listed a F inv (Region.free_spec h0 hf) hr' hy
      (fun v hv => wpAnyQ_lex R hsel l (k + 1) _ _ _ (fun j hj => by have := hl (j + 1) (by simp; omega); simpa [Nat.add_assoc, Nat.add_comm 1 j] using this) (by simp only [List.length_cons] at hk; omega) (inv.set hr' hkn) hB' (hK v hv))

/-- each operation of the head but the late ones is waited for, through others that are not late -/
def sinkL (md : Region.Mode) (ops : Array Oper) (late : List Nat) (n : Nat) : Bool :=
  (List.range n).all fun i => late.contains i || (List.range (n + 1)).any fun j => decide (i < j) && !late.contains j && Region.waitsFor md ops j i
/-- the late ones take results apart, and nothing behind the head, nor another late one, touches what they read or write, but where it waits for them -/
def lateB (md : Region.Mode) (ops : Array Oper) (late : List Nat) (n : Nat) : Bool :=
  late.all fun p => decide (p < n) && match ops[p]? with
    | none => false
    | some op => isExtract op && (List.range ops.size).all fun j => j == p || (decide (j < n) && !late.contains j) || match ops[j]? with
      | some oj => oj.after.any (fun e => Region.binds md e && e.on == p) || op.apart ops oj
      | none => true

theorem tail_waits_late {late : List Nat} {n : Nat} {listed : Array Bool} (hs : sinkL md ops late n = true) (hc : Region.chainB md ops n = true) (hn : n < ops.size) (inv : HeadInv md ops n listed) :
    ∀ (d i : Nat), n - i = d → i ∉ late → i < n → listed.getD i true = false → ∀ t, n ≤ t → t ∉ Region.ready md ops listed := by
  intro d
  induction d using Nat.strongRecOn with
  | _ d ih =>
    intro i hd hil hi hun t ht hr
    obtain ⟨_, ot, hot, hall⟩ := mem_ready.1 hr
    have htlt : t < ops.size := (Array.getElem?_eq_some_iff.1 hot).1
    by_cases htn : t = n
    · subst htn
      have h1 := List.all_eq_true.1 hs i (List.mem_range.2 hi)
      have hnk : late.contains i = false := by simpa using hil
      rw [hnk, Bool.false_or] at h1
      obtain ⟨j, hj, hj2⟩ := List.any_eq_true.1 h1
      simp only [Bool.and_eq_true, decide_eq_true_eq, Bool.not_eq_true'] at hj2
      obtain ⟨⟨hij, hjl⟩, hj2⟩ := hj2
      have hjl' : j ∉ late := by simpa using hjl
      obtain ⟨oj, hoj, e, he, hb, hon⟩ := Region.waitsFor_spec hj2
      have hjle : j ≤ t := by have := List.mem_range.1 hj; omega
      by_cases hjt : j = t
      · subst hjt
        have : oj = ot := Option.some.inj (hoj.symm.trans hot)
        subst this
        have h2 := hall e he hb
        rw [hon, getD_both hun] at h2
        cases h2
      · cases hl : listed.getD j false with
        | true =>
          have h2 := inv.closed j oj hoj hl e he hb
          rw [hon, getD_both hun] at h2
          cases h2
        | false =>
          have hjs : j < listed.size := by rw [inv.size]; omega
          exact ih (t - j) (by omega) j rfl hjl' (by omega) (getD_in hjs hl) t (Nat.le_refl _) hr
    · have h1 := List.all_eq_true.1 hc t (List.mem_range.2 htlt)
      simp only [Bool.or_eq_true, decide_eq_true_eq] at h1
      rcases h1 with h1 | h1
      · omega
      · obtain ⟨o', ho', e, he, hb, hon⟩ := Region.waitsFor_spec h1
        have : o' = ot := Option.some.inj (ho'.symm.trans hot)
        subst this
        have h2 := hall e he hb
        rw [hon, getD_both (inv.tail (t - 1) (by omega) (by omega))] at h2
        cases h2

theorem wpAny_of_Q (R : RelLaw G Sp) {late : List Nat} {n g : Nat} (hsel : Region.noSelect ops = true) (hs : sinkL md ops late n = true) (hlb : lateB md ops late n = true) (hc : Region.chainB md ops n = true) (hn : n < ops.size) {L : Array Bool → Act → (World → Prop) → Prop} {Q' : Exit → Act → World → Prop}
    (hQ : ∀ c a d v w, Q' (.panic c) (Act.put a d v) w → Q' (.panic c) a w) (hL : ∀ listed a F w, G W0 w → F w → L listed a F → wpAny P md ops Q' g listed a w) :
    ∀ (f : Nat) (listed : Array Bool) (a : Act) (F : World → Prop) (w : World), HeadInv md ops n listed → G W0 w → F w → (∀ w w', F w → G w w' → F w') → wpAnyQ P md ops G W0 Sp n L f listed a F → wpAny P md ops Q' (f + g) listed a w
  | 0, listed, a, F, w, inv, hG, hF, hst, h => by rw [Nat.zero_add]; exact hL _ _ _ _ hG hF h
  | f + 1, listed, a, F, w, inv, hG, hF, hst, h => by
    rw [show f + 1 + g = (f + g) + 1 by omega]
    obtain ⟨⟨i0, hi0, hr0⟩, hall⟩ := h
    by_cases hA : ∃ i, i < n ∧ i ∉ late ∧ listed.getD i true = false
    · obtain ⟨i, hin, hil, hun⟩ := hA
      have hw := tail_waits_late hs hc hn inv _ i rfl hil hin hun
      refine ⟨fun h0 => (by rw [h0] at hr0; cases hr0), fun j hj => ?_⟩
      have hjn : j < n := by
        rcases Nat.lt_or_ge j n with h | h
        · exact h
        · exact absurd hj (hw j h)
      exact wpOp_of_rOp R hG hF hst (fun a' F' w' hs' hG' hF' h' => wpAny_of_Q R hsel hs hlb hc hn hQ hL f _ a' F' w' (inv.set hj hjn) hG' hF' hs' h') (hall j hj hjn)
    · have hun0 := (mem_ready.1 hr0).1
      have hl0 : i0 ∈ late := Classical.byContradiction fun hnl => hA ⟨i0, hi0, hnl, hun0⟩
      have h1 := List.all_eq_true.1 hlb i0 hl0
      simp only [Bool.and_eq_true, decide_eq_true_eq] at h1
      obtain ⟨-, h1⟩ := h1
      obtain ⟨_, oi, hoi, _⟩ := mem_ready.1 hr0
      rw [hoi] at h1
      simp only [Bool.and_eq_true] at h1
      obtain ⟨hex, hfr⟩ := h1
      have hrop := hall i0 hr0 hi0
      unfold rOp at hrop
      simp only [hoi] at hrop
      obtain ⟨D, S, hy, hK⟩ := hrop
      have hfree : ∀ j oj, ops[j]? = some oj → j ≠ i0 → listed.getD j true = false → (∀ e ∈ oj.after, Region.binds md e = true → e.on ≠ i0) → oi.apart ops oj = true := fun j oj hj hne hun hno => by
        have h2 := List.all_eq_true.1 hfr j (List.mem_range.2 (Array.getElem?_eq_some_iff.1 hj).1)
        simp only [hj, Bool.or_eq_true, beq_iff_eq, Bool.and_eq_true, decide_eq_true_eq, Bool.not_eq_true'] at h2
        rcases h2 with (h2 | ⟨h2, h3⟩) | (h2 | h2)
        · exact absurd h2 hne
        · exact absurd ⟨j, h2, by simpa using h3, hun⟩ hA
        · obtain ⟨e, he, hb⟩ := Array.any_eq_true'.1 h2
          simp only [Bool.and_eq_true, beq_iff_eq] at hb
          exact absurd hb.2 (hno e he hb.1)
        · exact h2
      have go : ∀ v, D v → Yields P ops oi v a → F w ∧ S v w → wpAny P md ops Q' (f + g + 1) listed a w := fun v hv hyv hFS =>
        wpAny_first hoi (Region.noSelect_spec hsel) (fun c a' w' => hQ c a' oi.dst v w') _ listed a w hfree hr0 hyv
          (wpAny_of_Q R hsel hs hlb hc hn hQ hL f _ _ (fun w => F w ∧ S v w) w (inv.set hr0 hi0) hG hFS (fun w w' h1 h2 => ⟨hst _ _ h1.1 h2, hy.stable R v w w' h1.2 h2⟩) (hK v hv))
      rcases hy with ⟨hw, hv, rfl, rfl⟩ | ⟨hw, ff, args, hcl, rfl, rfl⟩ | ⟨hw, rfl, rfl⟩
      · obtain ⟨u, w', h2, h3⟩ := hv w hG
        obtain ⟨rfl, h4⟩ := extract_run hex h2
        exact go u ⟨_, _, hG, h2⟩ (.inl ⟨hw, h4⟩) ⟨hF, _, _, hG, h2, R.refl _⟩
      · exfalso
        have h2 := (hcl w hG).1
        unfold ranC at h2
        have : noEnter oi = true := by
          unfold isExtract at hex
          unfold noEnter
          cases hop : oi.op with
          | extract x i => rfl
          | _ => simp [hop] at hex
        exact noEnter_run this a P w ff args w h2
      · exact go undef rfl (.inr ⟨hw, rfl⟩) ⟨hF, trivial⟩

/-- the law's head: what is to be shown -/
def lexLate (md : Region.Mode) (ops : Array Oper) (late : List Nat) (n : Nat) : Bool :=
  Region.noSelect ops && decide (n < ops.size) && sinkL md ops late n && lateB md ops late n && Region.chainB md ops n && Region.lexHead md ops (ops.size - n) n 0 (Array.replicate ops.size false)
theorem any_late {Q : Exit → Act → World → Prop} {a : Act} {w : World} {l : List Oper} (R : RelLaw G Sp) (late : List Nat) (n : Nat) (hB : lexLate .any l.toArray late n = true) (hQ : ∀ c a d v w, Q (.panic c) (Act.put a d v) w → Q (.panic c) a w)
    (h : wpR P l.toArray G w Sp (fun a' F => ∀ w', G w w' → F w' → wpList P l.toArray Q (l.drop n) a' w') (l.take n) a (fun _ => True)) : wpAny P .any l.toArray Q l.toArray.size (Array.replicate l.toArray.size false) a w := by
  simp only [lexLate, Bool.and_eq_true, decide_eq_true_eq] at hB
  obtain ⟨⟨⟨⟨⟨hsel, hn⟩, hs⟩, hlb⟩, hc⟩, hlex⟩ := hB
  have hn' : n < l.length := by simpa using hn
  have htl : (l.take n).length = n := by simp; omega
  have hdl : (l.drop n).length = l.toArray.size - n := by simp
  have inv0 : HeadInv .any l.toArray n (Array.replicate l.toArray.size false) :=
    ⟨by simp, fun j oj _ hl => (by rw [getD_replicate_false] at hl; cases hl), fun t _ ht => getD_in (by simpa using ht) (getD_replicate_false _ _)⟩
  have H := wpAnyQ_lex (md := .any) R (g := l.toArray.size - n) hsel (l.take n) 0 _ a _ (fun j hj => by
    have hj' : j < n := by rw [htl] at hj; exact hj
    simp [hj']) (by simpa using htl) inv0 (by rw [htl]; exact hlex) h
  have := wpAny_of_Q (Q' := Q) R (g := l.toArray.size - n) hsel hs hlb hc hn hQ (fun listed a' F w' hG hF hL => by
    have := wpAny_of_seq (md := .any) (Q' := Q) (l.drop n) n listed a' w' (fun j => by simp [List.getElem?_drop]) (by rw [hdl]; exact hL.1) (hL.2 w' hG hF)
    rwa [hdl] at this) _ _ _ _ w inv0 (R.refl _) trivial (fun _ _ _ _ => trivial) H
  rw [htl, show n + (l.toArray.size - n) = l.toArray.size by omega] at this
  exact this
theorem wp_region_late {id : Nat} {Q : Exit → Act → World → Prop} {a : Act} {w : World} {l : List Oper} (R : RelLaw G Sp) (late : List Nat) (n : Nat) (hm : P.follows .mixedOrders = true) (hB : lexLate .any l.toArray late n = true) (hQ : ∀ c a d v w, Q (.panic c) (Act.put a d v) w → Q (.panic c) a w)
    (h : wpR P l.toArray G w.drew Sp (fun a' F => ∀ w', G w.drew w' → F w' → wpList P l.toArray Q (l.drop n) a' w') (l.take n) a (fun _ => True)) : (Code.region id l.toArray true).wp P Q a w :=
  wp_region_any hm (any_late R late n hB hQ h)
theorem round_late {m r : Nat} {id : Nat} {Q : Exit → Act → World → Prop} {a : Act} {w : World} {l : List Oper} (R : RelLaw G Sp) (late : List Nat) (n : Nat) (hd : noDefer l = true) (hLO : ¬ LetsOut Q) (hm : P.follows .mixedOrders = true) (hB : lexLate .any l.toArray late n = true) (hQ : ∀ c a d v w, Q (.panic c) (Act.put a d v) w → Q (.panic c) a w)
    (h : wpR P l.toArray G w.drew Sp (fun a' F => ∀ w', G w.drew w' → F w' → wpList P l.toArray Q (l.drop n) a' w') (l.take n) a (fun _ => True)) : (Code.region id l.toArray true).wpIn (Fence.wide.inRound r) m P Q a w :=
  round_any (by simpa using hd) hm hLO (any_late R late n hB hQ h)
end
end Go.Proofs.Ytkogchmnpffiaaa
