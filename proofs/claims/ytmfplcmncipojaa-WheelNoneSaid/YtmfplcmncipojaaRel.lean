/- A REGION THAT DRAWS ITS ORDER, WHOSE CALLS MAKE MEMORY AND HAND BACK WHAT HANGS ON THE ORDER: one walk of the text's order serves every order, as long as each operation moves the world along one relation G, and what is known of each value stays behind G. Behind such a head operations may stand that come one by one (stores, an append). No program in sight. -/
import Derived.Test.YtmfplcmncipojaaBlocks
import Derived.StillTail
import Derived.Deep.Quiet
namespace Go.Proofs.Ytmfplcmncipojaa
set_option linter.unusedVariables false
open Go.RowKit

section
variable {P : Program} {ops : Array Oper} {md : Region.Mode} {G : World → World → Prop} {W0 : World} {Sp : FuncId → Array Value → Value → World → Prop}

/-- an operation's value and the world behind it, if it is no call -/
def oVal : Result Next → Option (Value × World)
  | .ok (.value u) w' => some (u, w')
  | .ok .skip w' => some (undef, w')
  | _ => none
def ranV (P : Program) (o : Oper) (a : Act) (w : World) (u : Value) (w' : World) : Prop := oVal ((execOp a.eval o).run P w) = some (u, w')
def ranC (P : Program) (o : Oper) (a : Act) (w : World) (f : FuncId) (args : Array Value) : Prop := (execOp a.eval o).run P w = .ok (.enter f args) w
/-- no call: it yields a value in every world of the class, and moves it along -/
def valK (P : Program) (G : World → World → Prop) (W0 : World) (o : Oper) (a : Act) : Prop := ∀ w, G W0 w → ∃ u w', ranV P o a w u w' ∧ G w w'
def callK (P : Program) (G : World → World → Prop) (W0 : World) (Sp : FuncId → Array Value → Value → World → Prop) (o : Oper) (a : Act) (f : FuncId) (args : Array Value) : Prop :=
  ∀ w, G W0 w → ranC P o a w f args ∧ Calls P f args w (fun e w'' => ∃ v, e = .returned v ∧ Sp f args v w'' ∧ G w w'')
/-- what an operation may yield, and what is known of it -/
def YR (P : Program) (ops : Array Oper) (G : World → World → Prop) (W0 : World) (Sp : FuncId → Array Value → Value → World → Prop) (o : Oper) (a : Act) (D : Value → Prop) (S : Value → World → Prop) : Prop :=
  (Region.wanted o (yielded ops a.tmps) = true ∧ valK P G W0 o a ∧ D = (fun u => ∃ w w', G W0 w ∧ ranV P o a w u w') ∧ S = (fun u w'' => ∃ w w', G W0 w ∧ ranV P o a w u w' ∧ G w' w'')) ∨
  (Region.wanted o (yielded ops a.tmps) = true ∧ ∃ f args, callK P G W0 Sp o a f args ∧ D = (fun u => ∃ w, G W0 w ∧ Sp f args u w) ∧ S = Sp f args) ∨
  (Region.wanted o (yielded ops a.tmps) = false ∧ D = (fun u => u = undef) ∧ S = fun _ _ => True)

structure RelLaw (G : World → World → Prop) (Sp : FuncId → Array Value → Value → World → Prop) : Prop where
  refl : ∀ w, G w w
  trans : ∀ w w' w'', G w w' → G w' w'' → G w w''
  stable : ∀ f args v w w', Sp f args v w → G w w' → Sp f args v w'

theorem YR.some (R : RelLaw G Sp) {o : Oper} {a : Act} {D : Value → Prop} {S : Value → World → Prop} (h : YR P ops G W0 Sp o a D S) : ∃ v, D v := by
  rcases h with ⟨_, hv, rfl, _⟩ | ⟨_, f, args, hc, rfl, _⟩ | ⟨_, rfl, _⟩
  · obtain ⟨u, w', h1, h2⟩ := hv W0 (R.refl _)
    exact ⟨u, W0, w', R.refl _, h1⟩
  · obtain ⟨e, w', fr, ⟨v, _, h1, h2⟩, _⟩ := (hc W0 (R.refl _)).2 []
    exact ⟨v, w', h2, h1⟩
  · exact ⟨_, rfl⟩
theorem YR.unique (R : RelLaw G Sp) {o : Oper} {a : Act} {D D' : Value → Prop} {S S' : Value → World → Prop} (h : YR P ops G W0 Sp o a D S) (h' : YR P ops G W0 Sp o a D' S') : D = D' ∧ S = S' := by
  rcases h with ⟨h0, hv, rfl, rfl⟩ | ⟨h0, f, args, hc, rfl, rfl⟩ | ⟨h0, rfl, rfl⟩ <;> rcases h' with ⟨k0, kv, rfl, rfl⟩ | ⟨k0, f', args', kc, rfl, rfl⟩ | ⟨k0, rfl, rfl⟩
  · exact ⟨rfl, rfl⟩
  · obtain ⟨u, w', h1, h2⟩ := hv W0 (R.refl _)
    have h3 := (kc W0 (R.refl _)).1
    unfold ranV at h1
    unfold ranC at h3
    rw [h3] at h1
    cases h1
  · rw [h0] at k0; cases k0
  · obtain ⟨u, w', h1, h2⟩ := kv W0 (R.refl _)
    have h3 := (hc W0 (R.refl _)).1
    unfold ranV at h1
    unfold ranC at h3
    rw [h3] at h1
    cases h1
  · have h1 := (hc W0 (R.refl _)).1
    have h2 := (kc W0 (R.refl _)).1
    unfold ranC at h1 h2
    rw [h1] at h2
    cases h2
    exact ⟨rfl, rfl⟩
  · rw [h0] at k0; cases k0
  · rw [h0] at k0; cases k0
  · rw [h0] at k0; cases k0
  · exact ⟨rfl, rfl⟩
theorem YR.of_same {o : Oper} {a a' : Act} {D : Value → Prop} {S : Value → World → Prop} (h : YR P ops G W0 Sp o a D S) (he : execOp a'.eval o = execOp a.eval o)
    (hw : Region.wanted o (yielded ops a'.tmps) = Region.wanted o (yielded ops a.tmps)) : YR P ops G W0 Sp o a' D S := by
  unfold YR valK callK ranV ranC at *
  rw [he, hw]
  exact h
theorem YR.stable (R : RelLaw G Sp) {o : Oper} {a : Act} {D : Value → Prop} {S : Value → World → Prop} (h : YR P ops G W0 Sp o a D S) : ∀ v w w', S v w → G w w' → S v w' := by
  intro v w w' hs hg
  rcases h with ⟨_, _, _, rfl⟩ | ⟨_, f, args, _, _, rfl⟩ | ⟨_, _, rfl⟩
  · obtain ⟨w1, w2, h1, h2, h3⟩ := hs
    exact ⟨w1, w2, h1, h2, R.trans _ _ _ h3 hg⟩
  · exact R.stable _ _ _ _ _ hs hg
  · trivial

def rOp (P : Program) (ops : Array Oper) (G : World → World → Prop) (W0 : World) (Sp : FuncId → Array Value → Value → World → Prop) (i : Nat) (K : Act → (World → Prop) → Prop) (a : Act) (F : World → Prop) : Prop :=
  match ops[i]? with
  | none => K a F
  | some o => ∃ D S, YR P ops G W0 Sp o a D S ∧ ∀ v, D v → K (a.put o.dst v) (fun w => F w ∧ S v w)

theorem rOp_mono {i : Nat} {a : Act} {F : World → Prop} {K K' : Act → (World → Prop) → Prop} (h : ∀ a F, K a F → K' a F) (hh : rOp P ops G W0 Sp i K a F) : rOp P ops G W0 Sp i K' a F := by
  unfold rOp at *
  split
  · exact h _ _ (by simpa [*] using hh)
  · rename_i o ho
    simp only [ho] at hh
    obtain ⟨D, S, h1, h2⟩ := hh
    exact ⟨D, S, h1, fun v hv => h _ _ (h2 v hv)⟩

theorem rOp_put (R : RelLaw G Sp) {j : Nat} {oi oj : Oper} {Di : Value → Prop} {Si : Value → World → Prop} (hj : ops[j]? = some oj) (hap : oi.apart ops oj = true)
    (hsi : ∀ cs b, oi.op ≠ .select cs b) (hsj : ∀ cs b, oj.op ≠ .select cs b) {K : Act → (World → Prop) → Prop} {a : Act} {F : World → Prop}
    (hy : YR P ops G W0 Sp oi a Di Si) (h : ∀ v, Di v → rOp P ops G W0 Sp j K (a.put oi.dst v) (fun w => F w ∧ Si v w)) :
    rOp P ops G W0 Sp j (fun a' F' => YR P ops G W0 Sp oi a' Di Si ∧ ∀ v, Di v → K (a'.put oi.dst v) (fun w => F' w ∧ Si v w)) a F := by
  obtain ⟨h1, h2, h3⟩ := Oper.apart_spec hap
  have keep : ∀ u, YR P ops G W0 Sp oi (a.put oj.dst u) Di Si := fun u => hy.of_same (execOp_put oi hsi a oj.dst u h3) (wanted_put oi a oj.dst u h3)
  have back : ∀ v D S, YR P ops G W0 Sp oj (a.put oi.dst v) D S → YR P ops G W0 Sp oj a D S := fun v D S hh => hh.of_same (execOp_put oj hsj a oi.dst v h1).symm (wanted_put oj a oi.dst v h1).symm
  obtain ⟨v0, hv0⟩ := hy.some R
  have h0 := h v0 hv0
  unfold rOp at h0 h ⊢
  simp only [hj] at h0 h ⊢
  obtain ⟨Dj, Sj, hyj, _⟩ := h0
  refine ⟨Dj, Sj, back v0 _ _ hyj, fun u hu => ⟨keep u, fun v hv => ?_⟩⟩
  obtain ⟨Dj', Sj', hyj', hK⟩ := h v hv
  obtain ⟨e1, e2⟩ := YR.unique R (back v0 _ _ hyj) (back v _ _ hyj')
  subst e1
  subst e2
  have := hK u hu
  rw [Act.put_comm a v u h2] at this
  have e : (fun w => (F w ∧ Si v w) ∧ Sj u w) = (fun w => (F w ∧ Sj u w) ∧ Si v w) := by
    funext w
    exact propext and_right_comm
  rw [e] at this
  exact this

theorem wpOp_of_rOp (R : RelLaw G Sp) {i : Nat} {a : Act} {F : World → Prop} {K : Act → (World → Prop) → Prop} {K' : Act → World → Prop} {Q' : Exit → Act → World → Prop} {w : World} (hC : G W0 w) (hF : F w) (hst : ∀ w w', F w → G w w' → F w')
    (h : ∀ a F' w', (∀ w w', F' w → G w w' → F' w') → G W0 w' → F' w' → K a F' → K' a w') (hh : rOp P ops G W0 Sp i K a F) : wpOp P ops Q' i K' a w := by
  unfold rOp at hh
  unfold wpOp
  split
  · rename_i ho; simp only [ho] at hh; exact h _ _ _ hst hC hF hh
  · rename_i o ho
    simp only [ho] at hh
    obtain ⟨D, S, hy, hK⟩ := hh
    have hst2 : ∀ v, ∀ w w', (F w ∧ S v w) → G w w' → (F w' ∧ S v w') := fun v w w' hs hg => ⟨hst _ _ hs.1 hg, hy.stable R v w w' hs.2 hg⟩
    rcases hy with ⟨h0, hv, rfl, rfl⟩ | ⟨h0, f, args, hc, rfl, rfl⟩ | ⟨h0, rfl, rfl⟩
    · rw [if_pos h0]
      left
      obtain ⟨u, w', h1, h2⟩ := hv w hC
      have hn := h _ _ w' (hst2 u) (R.trans _ _ _ hC h2) ⟨hst _ _ hF h2, w, w', hC, h1, R.refl _⟩ (hK u ⟨w, w', hC, h1⟩)
      unfold ranV at h1
      unfold Oper.wp
      generalize (execOp a.eval o).run P w = r at *
      cases r with
      | ok n w1 =>
        cases n <;> simp [oVal] at h1
        case value u1 =>
          obtain ⟨rfl, rfl⟩ := h1
          exact hn
        case skip =>
          obtain ⟨rfl, rfl⟩ := h1
          exact hn
      | halt x w1 => simp [oVal] at h1
    · rw [if_pos h0]
      left
      obtain ⟨h1, h2⟩ := hc w hC
      unfold ranC at h1
      unfold Oper.wp
      rw [h1]
      exact h2.mono fun e w'' ⟨v, he, hs, hg⟩ => by
        subst he
        exact h _ _ w'' (hst2 v) (R.trans _ _ _ hC hg) ⟨hst _ _ hF hg, hs⟩ (hK v ⟨w'', R.trans _ _ _ hC hg, hs⟩)
    · rw [if_neg (by rw [h0]; exact Bool.false_ne_true)]
      exact h _ _ _ (hst2 undef) hC ⟨hF, trivial⟩ (hK undef rfl)

/-- whatever order is picked, as long as the head lasts -/
def wpAnyR (P : Program) (md : Region.Mode) (ops : Array Oper) (G : World → World → Prop) (W0 : World) (Sp : FuncId → Array Value → Value → World → Prop) (n : Nat) (L : Array Bool → Act → (World → Prop) → Prop) : Nat → Array Bool → Act → (World → Prop) → Prop
  | 0, listed, a, F => L listed a F
  | f + 1, listed, a, F =>
    Region.ready md ops listed ≠ [] ∧ ∀ i ∈ Region.ready md ops listed, i < n ∧ rOp P ops G W0 Sp i (wpAnyR P md ops G W0 Sp n L f (listed.setIfInBounds i true)) a F

theorem wpAny_of_relhead (R : RelLaw G Sp) {n g : Nat} {L : Array Bool → Act → (World → Prop) → Prop} {Q' : Exit → Act → World → Prop} (hL : ∀ listed a F w, G W0 w → F w → L listed a F → wpAny P md ops Q' g listed a w) :
    ∀ (f : Nat) (listed : Array Bool) (a : Act) (F : World → Prop) (w : World), G W0 w → F w → (∀ w w', F w → G w w' → F w') → wpAnyR P md ops G W0 Sp n L f listed a F → wpAny P md ops Q' (f + g) listed a w
  | 0, listed, a, F, w, hG, hF, hs, h => by rw [Nat.zero_add]; exact hL _ _ _ _ hG hF h
  | f + 1, listed, a, F, w, hG, hF, hs, h => by
    rw [show f + 1 + g = (f + g) + 1 by omega]
    exact ⟨fun h0 => absurd h0 h.1, fun i hi => wpOp_of_rOp R hG hF hs (fun a' F' w' hs' hG' hF' h' => wpAny_of_relhead R hL f _ a' F' w' hG' hF' hs' h') (h.2 i hi).2⟩

theorem wpAnyR_first (R : RelLaw G Sp) {n i : Nat} {oi : Oper} {D : Value → Prop} {S : Value → World → Prop} {L : Array Bool → Act → (World → Prop) → Prop} (hi : ops[i]? = some oi) (hsel : ∀ (j : Nat) (o : Oper) cs b, ops[j]? = some o → o.op ≠ .select cs b)
    {k0 : Nat} (hwait : ∀ listed, HeadInv md ops n listed → ∀ i, k0 ≤ i → i < n → listed.getD i true = false → ∀ t, n ≤ t → t ∉ Region.ready md ops listed) (hki : k0 ≤ i) (hin : i < n)
    (hdone : ∀ listed a F, L listed a F → ∀ j ∈ Region.ready md ops listed, n ≤ j) :
    ∀ (f : Nat) (listed : Array Bool) (a : Act) (F : World → Prop), HeadInv md ops n listed →
      (∀ j oj, ops[j]? = some oj → j ≠ i → listed.getD j true = false → (∀ e ∈ oj.after, Region.binds md e = true → e.on ≠ i) → oi.apart ops oj = true) →
      i ∈ Region.ready md ops listed → YR P ops G W0 Sp oi a D S →
      (∀ v, D v → wpAnyR P md ops G W0 Sp n L f (listed.setIfInBounds i true) (a.put oi.dst v) (fun w => F w ∧ S v w)) → wpAnyR P md ops G W0 Sp n L (f + 1) listed a F := by
  intro f
  induction f with
  | zero =>
    intro listed a F inv _ hr hy H
    have hun := (mem_ready.1 hr).1
    refine ⟨fun h => (by rw [h] at hr; cases hr), fun j hj => ?_⟩
    have hjn : j < n := by
      rcases Nat.lt_or_ge j n with h | h
      · exact h
      · exact absurd hj (hwait listed inv i hki hin hun j h)
    refine ⟨hjn, ?_⟩
    by_cases hji : j = i
    · subst hji
      unfold rOp
      simp only [hi]
      exact ⟨D, S, hy, H⟩
    · obtain ⟨v0, hv0⟩ := hy.some R
      have := hdone _ _ _ (H v0 hv0) j (ready_mono hj hji)
      omega
  | succ f ih =>
    intro listed a F inv hfree hr hy H
    have hun := (mem_ready.1 hr).1
    refine ⟨fun h => (by rw [h] at hr; cases hr), fun j hj => ?_⟩
    have hjn : j < n := by
      rcases Nat.lt_or_ge j n with h | h
      · exact h
      · exact absurd hj (hwait listed inv i hki hin hun j h)
    refine ⟨hjn, ?_⟩
    by_cases hji : j = i
    · subst hji
      unfold rOp
      simp only [hi]
      exact ⟨D, S, hy, H⟩
    · obtain ⟨hjun, oj, hoj, hall⟩ := mem_ready.1 hj
      have hnot : ∀ e ∈ oj.after, Region.binds md e = true → e.on ≠ i := fun e he hb heq => by
        have h1 := hall e he hb
        rw [heq, getD_both hun] at h1
        cases h1
      have h2 := rOp_put R hoj (hfree j oj hoj hji hjun hnot) (fun cs b => hsel i oi cs b hi) (fun cs b => hsel j oj cs b hoj) hy (fun v hv => ((H v hv).2 j (ready_mono hj hji)).2)
      have hfree' : ∀ k ok, ops[k]? = some ok → k ≠ i → (listed.setIfInBounds j true).getD k true = false →
          (∀ e ∈ ok.after, Region.binds md e = true → e.on ≠ i) → oi.apart ops ok = true := fun k ok hk hki hun hno => by
        refine hfree k ok hk hki ?_ hno
        by_cases hjk : j = k
        · subst hjk; exact hjun
        · rw [getD_set_ne true hjk] at hun; exact hun
      refine rOp_mono (fun a' F' h3 => ih (listed.setIfInBounds j true) a' F' (inv.set hj hjn) hfree' (ready_mono hr (Ne.symm hji)) h3.1 ?_) h2
      rw [Array.setIfInBounds_comm _ _ hji]
      exact h3.2

/-- the walk of the text's order -/
def wpR (P : Program) (ops : Array Oper) (G : World → World → Prop) (W0 : World) (Sp : FuncId → Array Value → Value → World → Prop) (Q : Act → (World → Prop) → Prop) : List Oper → Act → (World → Prop) → Prop
  | [], a, F => Q a F
  | o :: rest, a, F => ∃ D S, YR P ops G W0 Sp o a D S ∧ ∀ v, D v → wpR P ops G W0 Sp Q rest (a.put o.dst v) (fun w => F w ∧ S v w)

theorem wpR_anti {Q : Act → (World → Prop) → Prop} (hQ : ∀ a (F F' : World → Prop), (∀ w, F' w → F w) → Q a F → Q a F') : ∀ (l : List Oper) (a : Act) (F F' : World → Prop), (∀ w, F' w → F w) → wpR P ops G W0 Sp Q l a F → wpR P ops G W0 Sp Q l a F'
  | [], a, F, F', hf, h => hQ a F F' hf h
  | o :: l, a, F, F', hf, h => by
    obtain ⟨D, S, h1, h2⟩ := h
    exact ⟨D, S, h1, fun v hv => wpR_anti hQ l _ _ _ (fun w hw => ⟨hf w hw.1, hw.2⟩) (h2 v hv)⟩

theorem wpAnyR_lex (R : RelLaw G Sp) {n g : Nat} {Lq : Act → (World → Prop) → Prop} (hsel : Region.noSelect ops = true) {k0 : Nat} (hwait : ∀ listed, HeadInv md ops n listed → ∀ i, k0 ≤ i → i < n → listed.getD i true = false → ∀ t, n ≤ t → t ∉ Region.ready md ops listed) :
    ∀ (l : List Oper) (k : Nat) (listed : Array Bool) (a : Act) (F : World → Prop), k0 ≤ k → (∀ j, j < l.length → l[j]? = ops[k + j]?) → k + l.length = n → HeadInv md ops n listed →
    Region.lexHead md ops g l.length k listed = true → wpR P ops G W0 Sp Lq l a F →
    wpAnyR P md ops G W0 Sp n (fun listed' a' F' => Region.seqB md ops g n listed' = true ∧ Lq a' F') l.length listed a F
  | [], k, listed, a, F, _, _, hk, _, hB, h => by
    have : k = n := by simpa using hk
    subst this
    exact ⟨by simpa [Region.lexHead] using hB, h⟩
  | o :: l, k, listed, a, F, hk0, hl, hk, inv, hB, h => by
    have h0 : ops[k]? = some o := by simpa using (hl 0 (by simp)).symm
    simp only [List.length_cons, Region.lexHead, Bool.and_eq_true] at hB
    obtain ⟨⟨hr, hf⟩, hB'⟩ := hB
    have hkn : k < n := by simp only [List.length_cons] at hk; omega
    have hr' : k ∈ Region.ready md ops listed := by simpa using hr
    obtain ⟨D, S, hy, hK⟩ := h
    exact wpAnyR_first R h0 (Region.noSelect_spec hsel) hwait hk0 hkn (fun listed' a' F' hL => seqB_ready hL.1) l.length listed a F inv (Region.free_spec h0 hf) hr' hy
      (fun v hv => wpAnyR_lex R hsel hwait l (k + 1) _ _ _ (by omega) (fun j hj => by have := hl (j + 1) (by simp; omega); simpa [Nat.add_assoc, Nat.add_comm 1 j] using this) (by simp only [List.length_cons] at hk; omega) (inv.set hr' hkn) hB' (hK v hv))

/-- a head of n operations in whatever order, then one by one -/
theorem wp_region_rel_tail {id : Nat} {Q : Exit → Act → World → Prop} {a : Act} {w : World} {l : List Oper} (R : RelLaw G Sp) (n : Nat) (hm : P.follows .mixedOrders = true) (hB : Region.lexTailB .any l.toArray n = true)
    (h : wpR P l.toArray G w.drew Sp (fun a' F => ∀ w', G w.drew w' → F w' → wpList P l.toArray Q (l.drop n) a' w') (l.take n) a (fun _ => True)) : (Code.region id l.toArray true).wp P Q a w := by
  simp only [Region.lexTailB, Bool.and_eq_true, decide_eq_true_eq] at hB
  obtain ⟨⟨⟨⟨hsel, hn⟩, hs⟩, hc⟩, hlex⟩ := hB
  have hn' : n < l.length := by simpa using hn
  have htl : (l.take n).length = n := by simp; omega
  have hdl : (l.drop n).length = l.toArray.size - n := by simp
  have inv0 : HeadInv .any l.toArray n (Array.replicate l.toArray.size false) :=
    ⟨by simp, fun j oj _ hl => (by rw [getD_replicate_false] at hl; cases hl), fun t _ ht => getD_in (by simpa using ht) (getD_replicate_false _ _)⟩
  have H := wpAnyR_lex (md := .any) R (g := l.toArray.size - n) hsel (k0 := 0) (fun listed inv i _ hi hun => tail_waits hs hc hn inv _ i rfl hi hun) (l.take n) 0 _ a _ (Nat.le_refl _) (fun j hj => by
    have hj' : j < n := by rw [htl] at hj; exact hj
    simp [hj']) (by simpa using htl) inv0 (by rw [htl]; exact hlex) h
  refine wp_region_any hm ?_
  have := wpAny_of_relhead (Q' := Q) R (g := l.toArray.size - n) (fun listed a' F w' hG hF hL => by
    have := wpAny_of_seq (md := .any) (Q' := Q) (l.drop n) n listed a' w' (fun j => by simp [List.getElem?_drop]) (by rw [hdl]; exact hL.1) (hL.2 w' hG hF)
    rwa [hdl] at this) _ _ _ _ w.drew (R.refl _) trivial (fun _ _ _ _ => trivial) H
  rw [htl, show n + (l.toArray.size - n) = l.toArray.size by omega] at this
  exact this

/-- all in whatever order -/
theorem wp_region_rel {id : Nat} {Q : Exit → Act → World → Prop} {a : Act} {w : World} {l : List Oper} (R : RelLaw G Sp) (hm : P.follows .mixedOrders = true) (hB : (Region.noSelect l.toArray && Region.lexHead .any l.toArray 0 l.length 0 (Array.replicate l.length false)) = true)
    (h : wpR P l.toArray G w.drew Sp (fun a' F => ∀ w', G w.drew w' → F w' → Q .normal a' w') l a (fun _ => True)) : (Code.region id l.toArray true).wp P Q a w := by
  simp only [Bool.and_eq_true] at hB
  obtain ⟨hsel, hlex⟩ := hB
  have hls : l.toArray.size = l.length := by simp
  have inv0 : HeadInv .any l.toArray l.length (Array.replicate l.length false) :=
    ⟨by simp, fun j oj _ hl => (by rw [getD_replicate_false] at hl; cases hl), fun t h1 ht => by rw [hls] at ht; omega⟩
  have H := wpAnyR_lex (md := .any) R (g := 0) (n := l.length) hsel (k0 := 0) (fun listed inv i _ hi hun t ht hr => by
    obtain ⟨_, ot, hot, _⟩ := mem_ready.1 hr
    have := (Array.getElem?_eq_some_iff.1 hot).1
    rw [hls] at this
    omega) l 0 _ a _ (Nat.le_refl _) (fun j hj => by simp) (by simp) inv0 hlex h
  refine wp_region_any hm ?_
  have := wpAny_of_relhead (Q' := Q) R (g := 0) (fun listed a' F w' hG hF hL => by
    refine ⟨?_, hL.2 w' hG hF⟩
    have := hL.1
    simpa [Region.seqB] using this) _ _ _ _ w.drew (R.refl _) trivial (fun _ _ _ _ => trivial) H
  rw [hls]
  simpa using this

/-- more facts ask less -/
theorem anti_norm {K : Act → World → Prop} {G : World → World → Prop} {W0 : World} (a : Act) (F F' : World → Prop) (h : ∀ w, F' w → F w)
    (hQ : ∀ w', G W0 w' → F w' → K a w') : ∀ w', G W0 w' → F' w' → K a w' := fun w' hg hf => hQ w' hg (h w' hf)
/-! the steps of the walk -/
/-- an operation that enters no function -/
def noEnter (o : Oper) : Bool := match o.op with
  | .move _ | .assign _ | .pick .. | .alloc _ | .box .. | .build .. | .buildSlice .. | .load .. | .store .. | .nilCheck _ | .binOp .. | .unOp .. | .convert .. | .makeInterface .. | .makeFunc .. | .makeMap .. | .makeSlice .. | .slice .. | .fieldAddr .. | .field .. | .indexAddr .. | .index .. | .lookup .. | .mapUpdate .. | .extract .. => true
  | .call c => (match c.callee with | .builtin .len => true | .builtin .min => true | .builtin .max => true | .builtin .cap => true | _ => false)
  | _ => false
theorem v_noenter (s : Sem Value) (P : Program) (w : World) (f : FuncId) (args : Array Value) (w' : World) : ((do pure (Next.value (← s))) : Sem Next).run P w ≠ .ok (.enter f args) w' := by
  intro h
  rw [Sem.run_bind] at h
  generalize s.run P w = r at h
  cases r with
  | ok v w1 => simp at h
  | halt x w1 => simp at h
theorem u_noenter (s : Sem Unit) (P : Program) (w : World) (f : FuncId) (args : Array Value) (w' : World) : ((do s; pure Next.skip) : Sem Next).run P w ≠ .ok (.enter f args) w' := by
  intro h
  rw [Sem.run_bind] at h
  generalize s.run P w = r at h
  cases r with
  | ok v w1 => simp at h
  | halt x w1 => simp at h
theorem noEnter_run {o : Oper} (ho : noEnter o = true) (a : Act) (P : Program) (w : World) (f : FuncId) (args : Array Value) (w' : World) : (execOp a.eval o).run P w ≠ .ok (.enter f args) w' := by
  obtain ⟨dst, op, ty, pos, after, guard⟩ := o
  unfold noEnter at ho
  cases op <;> simp only [Bool.false_eq_true] at ho <;> unfold execOp <;> simp only
  case move x => simp
  case assign x => simp
  case pick c x y => 
    intro h
    rw [Sem.run_bind] at h
    generalize (asBool (a.eval c)).run P w = r at h
    cases r with
    | ok v w1 => simp at h
    | halt x w1 => simp at h
  case nilCheck x =>
    intro h
    split at h
    · simp [runtimePanic] at h
    · simp [runtimePanic] at h
    · simp [runtimePanic] at h
    · split at h
      · simp [runtimePanic] at h
      · simp only [Sem.run_bind] at h
        generalize Sem.run P program w = r at h
        cases r with
        | halt x w1 => simp at h
        | ok v w1 =>
          simp only [Result.andThen_ok] at h
          generalize Sem.run P (nilAhead _ _ _ _) w1 = r at h
          cases r with
          | halt x w2 => simp at h
          | ok v2 w2 =>
            simp only [Result.andThen_ok] at h
            split at h
            · simp [unsupported] at h
            · simp at h
      · simp at h
    · simp at h
  case call c =>
    obtain ⟨callee, cargs, cts⟩ := c
    cases callee with
    | builtin b =>
      cases b <;> simp only [Bool.false_eq_true] at ho
      all_goals
        simp only [resolve, Sem.run_bind, Sem.run_pure, Result.andThen_ok, invoke, builtin]
        first | exact v_noenter _ _ _ _ _ _ | (intro h; exact v_noenter _ _ _ _ _ _ (by rw [Sem.run_bind]; exact h))
    | _ => simp at ho
  all_goals first | exact v_noenter _ _ _ _ _ _ | exact u_noenter _ _ _ _ _ _
/-- quiet operations at the beginning -/
theorem wpR_pre (R : RelLaw G Sp) {Q : Act → (World → Prop) → Prop} (hQ : ∀ a (F F' : World → Prop), (∀ w, F' w → F w) → Q a F → Q a F') : ∀ (k : Nat) (l : List Oper) (a : Act) (F : World → Prop),
    wpQuiet P ops (fun w' => ∃ x : ClsW (G W0), w' = x.val) (fun a' => wpR P ops G W0 Sp Q (l.drop k) a' F) (l.take k) a → (l.take k).all noEnter = true → wpR P ops G W0 Sp Q l a F
  | 0, l, a, F, h, hc => by simpa [wpQuiet] using h
  | k + 1, [], a, F, h, hc => by simpa [wpQuiet] using h
  | k + 1, o :: l, a, F, h, hc => by
    simp only [List.take_succ_cons, List.drop_succ_cons, wpQuiet] at h
    simp only [List.take_succ_cons, List.all_cons, Bool.and_eq_true] at hc
    have hco := noEnter_run hc.1
    have hrec := fun a' F' hh => wpR_pre R hQ k l a' F' hh hc.2
    split at h
    · rename_i hw
      obtain ⟨v, h1, h2⟩ := h
      have hrun : ∀ w, G W0 w → ranV P o a w v w := fun w hG => by
        have h3 := h1 w ⟨⟨w, hG⟩, rfl⟩
        unfold Oper.quietAt at h3
        unfold ranV
        generalize hr : (execOp a.eval o).run P w = r at *
        cases r with
        | ok n w1 =>
          cases n <;> simp only [Oper.quietUpon] at h3
          case value u => obtain ⟨rfl, rfl⟩ := h3; rfl
          case skip => obtain ⟨rfl, rfl⟩ := h3; rfl
          case enter f args => exact absurd hr (hco _ _ _ _ _ _)
        | halt x w1 => simp only [Oper.quietUpon] at h3
      refine ⟨_, _, .inl ⟨hw, fun w hG => ⟨v, w, hrun w hG, R.refl _⟩, rfl, rfl⟩, fun u hu => ?_⟩
      obtain ⟨w1, w2, hG, h4⟩ := hu
      have h5 := hrun w1 hG
      unfold ranV at h4 h5
      rw [h5] at h4
      cases h4
      exact wpR_anti hQ _ _ _ _ (fun w hw => hw.1) (hrec _ _ h2)
    · rename_i hw
      refine ⟨_, _, .inr (.inr ⟨by simpa using hw, rfl, rfl⟩), fun u hu => ?_⟩
      subst hu
      exact wpR_anti hQ _ _ _ _ (fun w hw => hw.1) (hrec _ _ h)
/-- a call -/
theorem wpR_call {Q : Act → (World → Prop) → Prop} {o : Oper} {rest : List Oper} {a : Act} {F : World → Prop} (f : FuncId) (args : Array Value) (hw : Region.wanted o (yielded ops a.tmps) = true)
    (hr : ∀ w, (execOp a.eval o).run P w = .ok (.enter f args) w) (hc : ∀ w, G W0 w → Calls P f args w (fun e w'' => ∃ v, e = .returned v ∧ Sp f args v w'' ∧ G w w''))
    (h : ∀ v, (∃ w, G W0 w ∧ Sp f args v w) → wpR P ops G W0 Sp Q rest (a.put o.dst v) (fun w => F w ∧ Sp f args v w)) : wpR P ops G W0 Sp Q (o :: rest) a F :=
  ⟨_, _, .inr (.inl ⟨hw, f, args, fun w hG => ⟨hr w, hc w hG⟩, rfl, rfl⟩), fun v hv => h v hv⟩
theorem run_enter {P : Program} {f : FuncId} {fn : Func} (hf : P.funcs[f]? = some fn) (hname : (fn.name == "runtime.NumGoroutine") = false) (hb : fn.body.isSome = true) (args : Array Value) (w : World) :
    (callFunc f args).run P w = .ok (.enter f args) w := by
  have h1 : fn.name ≠ "runtime.NumGoroutine" := by simpa using hname
  obtain ⟨c, hc⟩ := Option.isSome_iff_exists.1 hb
  simp [callFunc, hf, h1, hc]
/-- a call of a function by its name -/
theorem wpR_callF {Q : Act → (World → Prop) → Prop} {o : Oper} {rest : List Oper} {a : Act} {F : World → Prop} (f : FuncId) (xs : Array Operand) (ts : Array TypeId) (ho : o.op = .call { callee := .value (.func f), args := xs, argTypes := ts }) (hw : Region.wanted o (yielded ops a.tmps) = true)
    {fn : Func} (hf : P.funcs[f]? = some fn) (hname : (fn.name == "runtime.NumGoroutine") = false) (hb : fn.body.isSome = true) (args : Array Value) (hargs : xs.map a.eval = args)
    (hc : ∀ w, G W0 w → Calls P f args w (fun e w'' => ∃ v, e = .returned v ∧ Sp f args v w'' ∧ G w w''))
    (h : ∀ v, (∃ w, G W0 w ∧ Sp f args v w) → wpR P ops G W0 Sp Q rest (a.put o.dst v) (fun w => F w ∧ Sp f args v w)) : wpR P ops G W0 Sp Q (o :: rest) a F := by
  refine wpR_call f args hw (fun w => ?_) hc h
  unfold execOp
  simp only [ho, resolve, Act.eval, Deferred.ofValue, Sem.run_bind, Sem.run_pure, Result.andThen_ok, invoke, Array.append_empty]
  have he : (#[] ++ Array.map (fun x => a.eval x) xs) = args := by simpa using hargs
  have he2 : (#[] : Array Value) ++ Array.map a.eval xs ++ #[] = args := by simpa using hargs
  first
    | (rw [he]; exact run_enter hf hname hb args w)
    | (rw [he2]; exact run_enter hf hname hb args w)
    | (simp [hargs]; exact run_enter hf hname hb args w)
/-- an operation that makes memory -/
theorem wpR_make (R : RelLaw G Sp) {Q : Act → (World → Prop) → Prop} (hQ : ∀ a (F F' : World → Prop), (∀ w, F' w → F w) → Q a F → Q a F') {o : Oper} {rest : List Oper} {a : Act} {F : World → Prop} (S : Value → World → Prop) (hw : Region.wanted o (yielded ops a.tmps) = true)
    (hr : ∀ w, G W0 w → ∃ u w', oVal ((execOp a.eval o).run P w) = some (u, w') ∧ G w w' ∧ S u w') (hs : ∀ v w w', S v w → G w w' → S v w')
    (h : ∀ v, (∃ w, G W0 w ∧ S v w) → wpR P ops G W0 Sp Q rest (a.put o.dst v) (fun w => F w ∧ S v w)) : wpR P ops G W0 Sp Q (o :: rest) a F := by
  refine ⟨_, _, .inl ⟨hw, fun w hG => ?_, rfl, rfl⟩, fun u hu => ?_⟩
  · obtain ⟨u, w', h1, h2, _⟩ := hr w hG
    exact ⟨u, w', h1, h2⟩
  · have key : ∀ w w', G W0 w → ranV P o a w u w' → S u w' ∧ G w w' := fun w w' hG hv => by
      obtain ⟨u', w2, h1, h2, h3⟩ := hr w hG
      unfold ranV at hv
      rw [h1] at hv
      cases hv
      exact ⟨h3, h2⟩
    obtain ⟨w1, w2, hG, h4⟩ := hu
    refine wpR_anti hQ _ _ _ _ (fun w hw => ⟨hw.1, ?_⟩) (h u ⟨w2, R.trans _ _ _ hG (key _ _ hG h4).2, (key _ _ hG h4).1⟩)
    obtain ⟨w3, w4, h5, h6, h7⟩ := hw.2
    exact hs _ _ _ (key _ _ h5 h6).1 h7
/-- one that is not wanted -/
theorem wpR_skip {Q : Act → (World → Prop) → Prop} (hQ : ∀ a (F F' : World → Prop), (∀ w, F' w → F w) → Q a F → Q a F') {o : Oper} {rest : List Oper} {a : Act} {F : World → Prop} (hw : Region.wanted o (yielded ops a.tmps) = false)
    (h : wpR P ops G W0 Sp Q rest (a.put o.dst undef) F) : wpR P ops G W0 Sp Q (o :: rest) a F :=
  ⟨_, _, .inr (.inr ⟨hw, rfl, rfl⟩), fun u hu => by subst hu; exact wpR_anti hQ _ _ _ _ (fun w hw => hw.1) h⟩
/-! PURE OPERATIONS FIRST: those that yield one value in whatever world are taken first, though the tail need not wait for them. -/
/-- an operation that yields a value -/
def isVal (o : Oper) : Bool := match o.op with
  | .move _ | .assign _ | .fieldAddr .. | .nilCheck _ | .extract .. | .unOp .. => true
  | _ => false
theorem v_noskip (s : Sem Value) (P : Program) (w w' : World) : ((do pure (Next.value (← s))) : Sem Next).run P w ≠ .ok .skip w' := by
  intro h
  rw [Sem.run_bind] at h
  generalize s.run P w = r at h
  cases r with
  | ok v w1 => simp at h
  | halt x w1 => simp at h
theorem isVal_noskip {o : Oper} (ho : isVal o = true) (a : Act) (P : Program) (w w' : World) : (execOp a.eval o).run P w ≠ .ok .skip w' := by
  obtain ⟨dst, op, ty, pos, after, guard⟩ := o
  unfold isVal at ho
  cases op <;> simp only [Bool.false_eq_true] at ho <;> unfold execOp <;> simp only
  case move x => simp
  case assign x => simp
  case nilCheck x =>
    intro h
    split at h
    · simp [runtimePanic] at h
    · simp [runtimePanic] at h
    · simp [runtimePanic] at h
    · split at h
      · simp [runtimePanic] at h
      · simp only [Sem.run_bind] at h
        generalize Sem.run P program w = r at h
        cases r with
        | halt x w1 => simp at h
        | ok v w1 =>
          simp only [Result.andThen_ok] at h
          generalize Sem.run P (nilAhead _ _ _ _) w1 = r at h
          cases r with
          | halt x w2 => simp at h
          | ok v2 w2 =>
            simp only [Result.andThen_ok] at h
            split at h
            · simp [unsupported] at h
            · simp at h
      · simp at h
    · simp at h
  all_goals exact v_noskip _ _ _ _
theorem isVal_noEnter {o : Oper} (ho : isVal o = true) : noEnter o = true := by
  obtain ⟨dst, op, ty, pos, after, guard⟩ := o
  unfold isVal at ho
  unfold noEnter
  cases op <;> simp_all
theorem yields_of_quiet {o : Oper} {a : Act} {v : Value} (ho : isVal o = true) (h : ∀ w, (∃ x : ClsW (fun _ => True), w = x.val) → o.quietAt P a (fun w => ∃ x : ClsW (fun _ => True), w = x.val) w v) : ∀ w, (execOp a.eval o).run P w = .ok (.value v) w := by
  intro w
  have h1 := h w ⟨⟨w, trivial⟩, rfl⟩
  have h2 := isVal_noskip ho a P w
  have h3 := noEnter_run (isVal_noEnter ho) a P w
  unfold Oper.quietAt at h1
  generalize hr : (execOp a.eval o).run P w = r at *
  cases r with
  | ok n w1 =>
    cases n <;> simp only [Oper.quietUpon] at h1
    case value u => obtain ⟨rfl, rfl⟩ := h1; rfl
    case skip => exact absurd rfl (h2 w1)
    case enter f args => exact absurd rfl (h3 f args w1)
  | halt x w1 => simp only [Oper.quietUpon] at h1

/-- k operations first, then the head, then the tail -/
def lexPure (md : Region.Mode) (ops : Array Oper) (g n : Nat) : Nat → Nat → Array Bool → Bool
  | 0, k, listed => Region.lexHead md ops g (n - k) k listed
  | f + 1, k, listed => (Region.ready md ops listed).contains k && Region.free md ops listed k && ((ops[k]?).map isVal).getD false && lexPure md ops g n f (k + 1) (listed.setIfInBounds k true)
def sinkFrom (md : Region.Mode) (ops : Array Oper) (k n : Nat) : Bool :=
  (List.range n).all fun i => decide (i < k) || (List.range (n + 1)).any fun j => decide (i < j) && Region.waitsFor md ops j i
def lexPRT (md : Region.Mode) (ops : Array Oper) (k n : Nat) : Bool :=
  Region.noSelect ops && decide (n < ops.size) && decide (k ≤ n) && sinkFrom md ops k n && Region.chainB md ops n && lexPure md ops (ops.size - n) n k 0 (Array.replicate ops.size false)

theorem tail_waits_from {k n : Nat} {listed : Array Bool} (hs : sinkFrom md ops k n = true) (hc : Region.chainB md ops n = true) (hn : n < ops.size) (inv : HeadInv md ops n listed) :
    ∀ (d i : Nat), n - i = d → k ≤ i → i < n → listed.getD i true = false → ∀ t, n ≤ t → t ∉ Region.ready md ops listed := by
  intro d
  induction d using Nat.strongRecOn with
  | _ d ih =>
    intro i hd hki hi hun t ht hr
    obtain ⟨_, ot, hot, hall⟩ := mem_ready.1 hr
    have htlt : t < ops.size := (Array.getElem?_eq_some_iff.1 hot).1
    by_cases htn : t = n
    · subst htn
      have h1 := List.all_eq_true.1 hs i (List.mem_range.2 hi)
      have hnk : decide (i < k) = false := by simp; omega
      rw [hnk, Bool.false_or] at h1
      obtain ⟨j, hj, hj2⟩ := List.any_eq_true.1 h1
      simp only [Bool.and_eq_true, decide_eq_true_eq] at hj2
      obtain ⟨oj, hoj, e, he, hb, hon⟩ := Region.waitsFor_spec hj2.2
      have hjle : j ≤ t := by have := List.mem_range.1 hj; omega
      by_cases hjt : j = t
      · subst hjt
        have : oj = ot := Option.some.inj (hoj.symm.trans hot)
        subst this
        have h2 := hall e he hb
        rw [hon, getD_both hun] at h2
        cases h2
      · cases hl : listed.getD j false with
        | true =>
          have h2 := inv.closed j oj hoj hl e he hb
          rw [hon, getD_both hun] at h2
          cases h2
        | false =>
          have hjs : j < listed.size := by rw [inv.size]; omega
          exact ih (t - j) (by omega) j rfl (by omega) (by omega) (getD_in hjs hl) t (Nat.le_refl _) hr
    · have h1 := List.all_eq_true.1 hc t (List.mem_range.2 htlt)
      simp only [Bool.or_eq_true, decide_eq_true_eq] at h1
      rcases h1 with h1 | h1
      · omega
      · obtain ⟨o', ho', e, he, hb, hon⟩ := Region.waitsFor_spec h1
        have : o' = ot := Option.some.inj (ho'.symm.trans hot)
        subst this
        have h2 := hall e he hb
        rw [hon, getD_both (inv.tail (t - 1) (by omega) (by omega))] at h2
        cases h2

theorem wpAny_pure {n g K : Nat} {Q : Exit → Act → World → Prop} {Lq : Act → Prop} {w : World} (hK : K ≤ n) (hsel : Region.noSelect ops = true) (hQ : ∀ c a d v w, Q (.panic c) (Act.put a d v) w → Q (.panic c) a w)
    (hrest : ∀ (listed : Array Bool) (a : Act), HeadInv md ops n listed → Region.lexHead md ops g (n - K) K listed = true → Lq a → wpAny P md ops Q (n - K + g) listed a w) :
    ∀ (l : List Oper) (k : Nat) (listed : Array Bool) (a : Act), (∀ j, j < l.length → l[j]? = ops[k + j]?) → k + l.length = K → HeadInv md ops n listed → lexPure md ops g n l.length k listed = true →
      wpQuiet P ops (fun w => ∃ x : ClsW (fun _ => True), w = x.val) Lq l a → wpAny P md ops Q (n - k + g) listed a w
  | [], k, listed, a, _, hk, inv, hB, h => by
    have hk' : k = K := by simpa using hk
    subst hk'
    exact hrest listed a inv (by simpa [lexPure] using hB) h
  | o :: l, k, listed, a, hl, hk, inv, hB, h => by
    have h0 : ops[k]? = some o := by simpa using (hl 0 (by simp)).symm
    simp only [List.length_cons, lexPure, Bool.and_eq_true, h0, Option.map_some, Option.getD_some] at hB
    obtain ⟨⟨⟨hr, hf⟩, hv⟩, hB'⟩ := hB
    simp only [List.length_cons] at hk
    have hkn : k < n := by omega
    have hr' : k ∈ Region.ready md ops listed := by simpa using hr
    have hfu : n - k + g = (n - (k + 1) + g) + 1 := by omega
    rw [hfu]
    have hnext : ∀ v, wpQuiet P ops (fun w => ∃ x : ClsW (fun _ => True), w = x.val) Lq l (a.put o.dst v) → wpAny P md ops Q (n - (k + 1) + g) (listed.setIfInBounds k true) (a.put o.dst v) w := fun v hq =>
      wpAny_pure hK hsel hQ hrest l (k + 1) _ _ (fun j hj => by have := hl (j + 1) (by simp; omega); simpa [Nat.add_assoc, Nat.add_comm 1 j] using this) (by omega) (inv.set hr' hkn) hB' hq
    unfold wpQuiet at h
    split at h
    · rename_i hw
      obtain ⟨v, h1, h2⟩ := h
      exact wpAny_first h0 (Region.noSelect_spec hsel) (fun c a' w' => hQ c a' o.dst v w') _ listed a w (Region.free_spec h0 hf) hr' (.inl ⟨hw, yields_of_quiet hv h1⟩) (hnext v h2)
    · rename_i hw
      exact wpAny_first h0 (Region.noSelect_spec hsel) (fun c a' w' => hQ c a' o.dst undef w') _ listed a w (Region.free_spec h0 hf) hr' (.inr ⟨by simpa using hw, rfl⟩) (hnext undef h)

/-- k pure operations first, a head up to n in whatever order, then one by one -/
theorem wp_region_prt {id : Nat} {Q : Exit → Act → World → Prop} {a : Act} {w : World} {l : List Oper} (R : RelLaw G Sp) (k n : Nat) (hm : P.follows .mixedOrders = true) (hB : lexPRT .any l.toArray k n = true) (hQ : ∀ c a d v w, Q (.panic c) (Act.put a d v) w → Q (.panic c) a w)
    (h : wpQuiet P l.toArray (fun w => ∃ x : ClsW (fun _ => True), w = x.val) (fun a0 => wpR P l.toArray G w.drew Sp (fun a' F => ∀ w', G w.drew w' → F w' → wpList P l.toArray Q (l.drop n) a' w') ((l.take n).drop k) a0 (fun _ => True)) (l.take k) a) : (Code.region id l.toArray true).wp P Q a w := by
  simp only [lexPRT, Bool.and_eq_true, decide_eq_true_eq] at hB
  obtain ⟨⟨⟨⟨⟨hsel, hn⟩, hkn⟩, hs⟩, hc⟩, hlex⟩ := hB
  have hn' : n < l.length := by simpa using hn
  have htl : (l.take n).length = n := by simp; omega
  have hdl : (l.drop n).length = l.toArray.size - n := by simp
  have inv0 : HeadInv .any l.toArray n (Array.replicate l.toArray.size false) :=
    ⟨by simp, fun j oj _ hl => (by rw [getD_replicate_false] at hl; cases hl), fun t _ ht => getD_in (by simpa using ht) (getD_replicate_false _ _)⟩
  have hkl : (l.take k).length = k := by simp; omega
  refine wp_region_any hm ?_
  have H := wpAny_pure (md := .any) (n := n) (g := l.toArray.size - n) (K := k) (Q := Q) (w := w.drew) (Lq := fun a0 => wpR P l.toArray G w.drew Sp (fun a' F => ∀ w', G w.drew w' → F w' → wpList P l.toArray Q (l.drop n) a' w') ((l.take n).drop k) a0 (fun _ => True)) hkn hsel hQ ?_ (l.take k) 0 (Array.replicate l.toArray.size false) a (fun j hj => by
      have hj' : j < k := by rw [hkl] at hj; exact hj
      simp [hj']) (by rw [hkl]; omega) inv0 (by rw [hkl]; exact hlex) h
  · rw [show n - 0 + (l.toArray.size - n) = l.toArray.size by omega] at H
    exact H
  · intro listed a0 inv hlx hw
    have hml : ((l.take n).drop k).length = n - k := by rw [List.length_drop, htl]
    have H2 := wpAnyR_lex (md := .any) R (g := l.toArray.size - n) hsel (k0 := k) (fun listed inv i hki hi hun => tail_waits_from hs hc hn inv _ i rfl hki hi hun) ((l.take n).drop k) k listed a0 _ (Nat.le_refl _) (fun j hj => by
      rw [hml] at hj
      rw [List.getElem?_drop, List.getElem?_take, if_pos (by omega)]
      simp) (by rw [hml]; omega) inv (by rw [hml]; exact hlx) hw
    have := wpAny_of_relhead (Q' := Q) R (g := l.toArray.size - n) (fun listed a' F w' hG hF hL => by
      have := wpAny_of_seq (md := .any) (Q' := Q) (l.drop n) n listed a' w' (fun j => by simp [List.getElem?_drop]) (by rw [hdl]; exact hL.1) (hL.2 w' hG hF)
      rwa [hdl] at this) _ _ _ _ w.drew (R.refl _) trivial (fun _ _ _ _ => trivial) H2
    rw [hml] at this
    exact this
end
end Go.Proofs.Ytmfplcmncipojaa
