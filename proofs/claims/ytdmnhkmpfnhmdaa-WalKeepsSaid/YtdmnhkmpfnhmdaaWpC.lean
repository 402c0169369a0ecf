/- Several texts in one: RoundQuiet, Rel, RoundAny, RelP, RelV, RelW, RelB, Dj, RangeSep, RangeSepV, RangeSepD, SeqG, SeqNone, Marks, LoopM, Ph. -/
import Derived.Test.YtdmnhkmpfnhmdaaBlocks
import Derived.Sort.QuietThIn
import Derived.TacticsIn
import Derived.RangeFuncCalls
import Derived.StillTail
import Derived.Deep.Quiet
import Derived.Test.YtdmnhkmpfnhmdaaSep
import Derived.RangeFuncNested
import Derived.RangeFuncLeaves
import Derived.RangeFuncFrom
section
namespace Go.Proofs.Ytdmnhkmpfnhmdaa
set_option linter.unusedVariables false
open Go.RowKit
section
variable {n : Nat} {P : Program} {ops : Array Oper} {Q : Exit → Act → World → Prop}
def noDefer (l : List Oper) : Bool := l.all fun o => match o.op with | .defer _ => false | _ => true
theorem noDefer_at {l : List Oper} (h : noDefer l = true) {o : Oper} (ho : o ∈ l) (c : Go.Call) : o.op ≠ .defer c := by
  unfold noDefer at h
  rw [List.all_eq_true] at h
  have h1 := h o ho
  intro e
  rw [e] at h1
  cases h1
theorem wpOpsIn_round (r : Nat) (hd : noDefer ops.toList = true) : ∀ (l : List Nat) (a : Act) (w : World), wpOpsIn Fence.wide n P ops Q l a w → wpOpsIn (Fence.wide.inRound r) n P ops Q l a w
  | [], _, _, h => h
  | i :: rest, a, w, h => by
    simp only [wpOpsIn] at h ⊢
    split
    · rename_i hn
      rw [hn] at h
      exact wpOpsIn_round r hd rest a w h
    · rename_i o ho
      rw [ho] at h
      simp only at h
      have hmem : o ∈ ops.toList := by
        have := List.mem_of_getElem? (l := ops.toList) (i := i) (by simpa using ho)
        exact this
      split at h
      · rename_i hw
        rw [if_pos hw]
        have h2 := Oper.wpIn_mono (fun a' w' => wpOpsIn_round r hd rest a' w') h
        unfold Oper.wpIn at h2 ⊢
        refine ⟨h2.1, ?_⟩
        have h3 := h2.2
        rw [show (Fence.wide.round) = none from rfl, Oper.semAt_none] at h3
        rw [Fence.inRound_round, Oper.semAt_some r a.eval o (noDefer_at hd hmem)]
        exact h3
      · rename_i hw
        rw [if_neg hw]
        exact ⟨h.1, wpOpsIn_round r hd rest _ w h.2⟩
theorem wpQuiet_in {C : World → Prop} {R : Act → Prop} : ∀ (l : List Oper) (a : Act), wpQuiet P ops C R l a → wpQuietIn Fence.wide n P ops C R l a
  | [], _, h => h
  | o :: rest, a, h => by
    refine ⟨fun _ _ _ _ => trivial, ?_⟩
    simp only [wpQuiet] at h
    split at h
    · rename_i hw
      rw [if_pos hw]
      obtain ⟨v, h1, h2⟩ := h
      refine ⟨v, fun w hw => ?_, wpQuiet_in rest _ h2⟩
      have h3 := h1 w hw
      unfold Oper.quietAt at h3
      unfold Oper.quietAtIn
      generalize (execOp a.eval o).run P w = x at h3 ⊢
      match x, h3 with
      | .ok (.value u) w', h3 => exact h3
      | .ok .skip w', h3 => exact h3
      | .ok (.enter f args) w', h3 => exact ⟨h3.1, fun h => (nomatch h), callsIn_wide.2 h3.2⟩
    · rename_i hw
      rw [if_neg hw]
      exact wpQuiet_in rest _ h
theorem region_round {G : World → Prop} {id r : Nat} {a : Act} {w : World} {l : List Oper} (hd : noDefer l = true) (hm : P.follows .mixedOrders = true) (hB : Region.lexB .any l.toArray = true) (hG : G w.drew)
    (h : wpQuiet P l.toArray (fun w' => ∃ x : ClsW G, w' = x.val) (fun a' => ∀ w', (∃ x : ClsW G, w' = x.val) → Q .normal a' w') l a) : (Code.region id l.toArray true).wpIn (Fence.wide.inRound r) n P Q a w := by
  have hB2 := hB
  simp only [Region.lexB, Bool.and_eq_true] at hB2
  refine wpIn_region_draw fun t => ?_
  refine wpOpsIn_round r (by simpa using hd) _ _ _ ?_
  simp only [Region.schedule, hm, Bool.true_or, if_true]
  refine wpAnyIn_sound l.toArray.size t _ a _ ?_
  refine wpAnyIn_of_quiet (C := fun w' => ∃ x : ClsW G, w' = x.val) (Q := fun a' => ∀ w', (∃ x : ClsW G, w' = x.val) → Q .normal a' w') rfl (fun _ w' hw' h => h w' hw') _ _ _ _ ⟨⟨_, hG⟩, rfl⟩ ?_
  have := wpAnyQIn_lex (F := Fence.wide) (n := n) (C := fun w' => ∃ x : ClsW G, w' = x.val) (md := .any) hB2.1 l 0 (Array.replicate l.toArray.size false) a (by simp) (by simpa using hB2.2) (wpQuiet_in l a h)
  simpa using this
end
end Go.Proofs.Ytdmnhkmpfnhmdaa
end

section
namespace Go.Proofs.Ytdmnhkmpfnhmdaa
set_option linter.unusedVariables false
open Go.RowKit

section
variable {P : Program} {ops : Array Oper} {md : Region.Mode} {G : World → World → Prop} {W0 : World} {Sp : FuncId → Array Value → Value → World → Prop}

/-- an operation's value and the world behind it, if it is no call -/
def oVal : Result Next → Option (Value × World)
  | .ok (.value u) w' => some (u, w')
  | .ok .skip w' => some (undef, w')
  | _ => none
def ranV (P : Program) (o : Oper) (a : Act) (w : World) (u : Value) (w' : World) : Prop := oVal ((execOp a.eval o).run P w) = some (u, w')
def ranC (P : Program) (o : Oper) (a : Act) (w : World) (f : FuncId) (args : Array Value) : Prop := (execOp a.eval o).run P w = .ok (.enter f args) w
/-- no call: it yields a value in every world of the class, and moves it along -/
def valK (P : Program) (G : World → World → Prop) (W0 : World) (o : Oper) (a : Act) : Prop := ∀ w, G W0 w → ∃ u w', ranV P o a w u w' ∧ G w w'
def callK (P : Program) (G : World → World → Prop) (W0 : World) (Sp : FuncId → Array Value → Value → World → Prop) (o : Oper) (a : Act) (f : FuncId) (args : Array Value) : Prop :=
  ∀ w, G W0 w → ranC P o a w f args ∧ Calls P f args w (fun e w'' => ∃ v, e = .returned v ∧ Sp f args v w'' ∧ G w w'')
/-- what an operation may yield, and what is known of it -/
def YR (P : Program) (ops : Array Oper) (G : World → World → Prop) (W0 : World) (Sp : FuncId → Array Value → Value → World → Prop) (o : Oper) (a : Act) (D : Value → Prop) (S : Value → World → Prop) : Prop :=
  (Region.wanted o (yielded ops a.tmps) = true ∧ valK P G W0 o a ∧ D = (fun u => ∃ w w', G W0 w ∧ ranV P o a w u w') ∧ S = (fun u w'' => ∃ w w', G W0 w ∧ ranV P o a w u w' ∧ G w' w'')) ∨
  (Region.wanted o (yielded ops a.tmps) = true ∧ ∃ f args, callK P G W0 Sp o a f args ∧ D = (fun u => ∃ w, G W0 w ∧ Sp f args u w) ∧ S = Sp f args) ∨
  (Region.wanted o (yielded ops a.tmps) = false ∧ D = (fun u => u = undef) ∧ S = fun _ _ => True)

structure RelLaw (G : World → World → Prop) (Sp : FuncId → Array Value → Value → World → Prop) : Prop where
  refl : ∀ w, G w w
  trans : ∀ w w' w'', G w w' → G w' w'' → G w w''
  stable : ∀ f args v w w', Sp f args v w → G w w' → Sp f args v w'

theorem YR.some (R : RelLaw G Sp) {o : Oper} {a : Act} {D : Value → Prop} {S : Value → World → Prop} (h : YR P ops G W0 Sp o a D S) : ∃ v, D v := by
  rcases h with ⟨_, hv, rfl, _⟩ | ⟨_, f, args, hc, rfl, _⟩ | ⟨_, rfl, _⟩
  · obtain ⟨u, w', h1, h2⟩ := hv W0 (R.refl _)
    exact ⟨u, W0, w', R.refl _, h1⟩
  · obtain ⟨e, w', fr, ⟨v, _, h1, h2⟩, _⟩ := (hc W0 (R.refl _)).2 []
    exact ⟨v, w', h2, h1⟩
  · exact ⟨_, rfl⟩
theorem YR.unique (R : RelLaw G Sp) {o : Oper} {a : Act} {D D' : Value → Prop} {S S' : Value → World → Prop} (h : YR P ops G W0 Sp o a D S) (h' : YR P ops G W0 Sp o a D' S') : D = D' ∧ S = S' := by
  rcases h with ⟨h0, hv, rfl, rfl⟩ | ⟨h0, f, args, hc, rfl, rfl⟩ | ⟨h0, rfl, rfl⟩ <;> rcases h' with ⟨k0, kv, rfl, rfl⟩ | ⟨k0, f', args', kc, rfl, rfl⟩ | ⟨k0, rfl, rfl⟩
  · exact ⟨rfl, rfl⟩
  · obtain ⟨u, w', h1, h2⟩ := hv W0 (R.refl _)
    have h3 := (kc W0 (R.refl _)).1
    unfold ranV at h1
    unfold ranC at h3
    rw [h3] at h1
    cases h1
  · rw [h0] at k0; cases k0
  · obtain ⟨u, w', h1, h2⟩ := kv W0 (R.refl _)
    have h3 := (hc W0 (R.refl _)).1
    unfold ranV at h1
    unfold ranC at h3
    rw [h3] at h1
    cases h1
  · have h1 := (hc W0 (R.refl _)).1
    have h2 := (kc W0 (R.refl _)).1
    unfold ranC at h1 h2
    rw [h1] at h2
    cases h2
    exact ⟨rfl, rfl⟩
  · rw [h0] at k0; cases k0
  · rw [h0] at k0; cases k0
  · rw [h0] at k0; cases k0
  · exact ⟨rfl, rfl⟩
theorem YR.of_same {o : Oper} {a a' : Act} {D : Value → Prop} {S : Value → World → Prop} (h : YR P ops G W0 Sp o a D S) (he : execOp a'.eval o = execOp a.eval o)
    (hw : Region.wanted o (yielded ops a'.tmps) = Region.wanted o (yielded ops a.tmps)) : YR P ops G W0 Sp o a' D S := by
  unfold YR valK callK ranV ranC at *
  rw [he, hw]
  exact h
theorem YR.stable (R : RelLaw G Sp) {o : Oper} {a : Act} {D : Value → Prop} {S : Value → World → Prop} (h : YR P ops G W0 Sp o a D S) : ∀ v w w', S v w → G w w' → S v w' := by
  intro v w w' hs hg
  rcases h with ⟨_, _, _, rfl⟩ | ⟨_, f, args, _, _, rfl⟩ | ⟨_, _, rfl⟩
  · obtain ⟨w1, w2, h1, h2, h3⟩ := hs
    exact ⟨w1, w2, h1, h2, R.trans _ _ _ h3 hg⟩
  · exact R.stable _ _ _ _ _ hs hg
  · trivial

def rOp (P : Program) (ops : Array Oper) (G : World → World → Prop) (W0 : World) (Sp : FuncId → Array Value → Value → World → Prop) (i : Nat) (K : Act → (World → Prop) → Prop) (a : Act) (F : World → Prop) : Prop :=
  match ops[i]? with
  | none => K a F
  | some o => ∃ D S, YR P ops G W0 Sp o a D S ∧ ∀ v, D v → K (a.put o.dst v) (fun w => F w ∧ S v w)

theorem rOp_mono {i : Nat} {a : Act} {F : World → Prop} {K K' : Act → (World → Prop) → Prop} (h : ∀ a F, K a F → K' a F) (hh : rOp P ops G W0 Sp i K a F) : rOp P ops G W0 Sp i K' a F := by
  unfold rOp at *
  split
  · exact h _ _ (by simpa [*] using hh)
  · rename_i o ho
    simp only [ho] at hh
    obtain ⟨D, S, h1, h2⟩ := hh
    exact ⟨D, S, h1, fun v hv => h _ _ (h2 v hv)⟩

theorem rOp_put (R : RelLaw G Sp) {j : Nat} {oi oj : Oper} {Di : Value → Prop} {Si : Value → World → Prop} (hj : ops[j]? = some oj) (hap : oi.apart ops oj = true)
    (hsi : ∀ cs b, oi.op ≠ .select cs b) (hsj : ∀ cs b, oj.op ≠ .select cs b) {K : Act → (World → Prop) → Prop} {a : Act} {F : World → Prop}
    (hy : YR P ops G W0 Sp oi a Di Si) (h : ∀ v, Di v → rOp P ops G W0 Sp j K (a.put oi.dst v) (fun w => F w ∧ Si v w)) :
    rOp P ops G W0 Sp j (fun a' F' => YR P ops G W0 Sp oi a' Di Si ∧ ∀ v, Di v → K (a'.put oi.dst v) (fun w => F' w ∧ Si v w)) a F := by
  obtain ⟨h1, h2, h3⟩ := Oper.apart_spec hap
  have keep : ∀ u, YR P ops G W0 Sp oi (a.put oj.dst u) Di Si := fun u => hy.of_same (execOp_put oi hsi a oj.dst u h3) (wanted_put oi a oj.dst u h3)
  have back : ∀ v D S, YR P ops G W0 Sp oj (a.put oi.dst v) D S → YR P ops G W0 Sp oj a D S := fun v D S hh => hh.of_same (execOp_put oj hsj a oi.dst v h1).symm (wanted_put oj a oi.dst v h1).symm
  obtain ⟨v0, hv0⟩ := hy.some R
  have h0 := h v0 hv0
  unfold rOp at h0 h ⊢
  simp only [hj] at h0 h ⊢
  obtain ⟨Dj, Sj, hyj, _⟩ := h0
  refine ⟨Dj, Sj, back v0 _ _ hyj, fun u hu => ⟨keep u, fun v hv => ?_⟩⟩
  obtain ⟨Dj', Sj', hyj', hK⟩ := h v hv
  obtain ⟨e1, e2⟩ := YR.unique R (back v0 _ _ hyj) (back v _ _ hyj')
  subst e1
  subst e2
  have := hK u hu
  rw [Act.put_comm a v u h2] at this
  have e : (fun w => (F w ∧ Si v w) ∧ Sj u w) = (fun w => (F w ∧ Sj u w) ∧ Si v w) := by
    funext w
    exact propext and_right_comm
  rw [e] at this
  exact this

theorem wpOp_of_rOp (R : RelLaw G Sp) {i : Nat} {a : Act} {F : World → Prop} {K : Act → (World → Prop) → Prop} {K' : Act → World → Prop} {Q' : Exit → Act → World → Prop} {w : World} (hC : G W0 w) (hF : F w) (hst : ∀ w w', F w → G w w' → F w')
    (h : ∀ a F' w', (∀ w w', F' w → G w w' → F' w') → G W0 w' → F' w' → K a F' → K' a w') (hh : rOp P ops G W0 Sp i K a F) : wpOp P ops Q' i K' a w := by
  unfold rOp at hh
  unfold wpOp
  split
  · rename_i ho; simp only [ho] at hh; exact h _ _ _ hst hC hF hh
  · rename_i o ho
    simp only [ho] at hh
    obtain ⟨D, S, hy, hK⟩ := hh
    have hst2 : ∀ v, ∀ w w', (F w ∧ S v w) → G w w' → (F w' ∧ S v w') := fun v w w' hs hg => ⟨hst _ _ hs.1 hg, hy.stable R v w w' hs.2 hg⟩
    rcases hy with ⟨h0, hv, rfl, rfl⟩ | ⟨h0, f, args, hc, rfl, rfl⟩ | ⟨h0, rfl, rfl⟩
    · rw [if_pos h0]
      left
      obtain ⟨u, w', h1, h2⟩ := hv w hC
      have hn := h _ _ w' (hst2 u) (R.trans _ _ _ hC h2) ⟨hst _ _ hF h2, w, w', hC, h1, R.refl _⟩ (hK u ⟨w, w', hC, h1⟩)
      unfold ranV at h1
      unfold Oper.wp
      generalize (execOp a.eval o).run P w = r at *
      cases r with
      | ok n w1 =>
        cases n <;> simp [oVal] at h1
        case value u1 =>
          obtain ⟨rfl, rfl⟩ := h1
          exact hn
        case skip =>
          obtain ⟨rfl, rfl⟩ := h1
          exact hn
      | halt x w1 => simp [oVal] at h1
    · rw [if_pos h0]
      left
      obtain ⟨h1, h2⟩ := hc w hC
      unfold ranC at h1
      unfold Oper.wp
      rw [h1]
      exact h2.mono fun e w'' ⟨v, he, hs, hg⟩ => by
        subst he
        exact h _ _ w'' (hst2 v) (R.trans _ _ _ hC hg) ⟨hst _ _ hF hg, hs⟩ (hK v ⟨w'', R.trans _ _ _ hC hg, hs⟩)
    · rw [if_neg (by rw [h0]; exact Bool.false_ne_true)]
      exact h _ _ _ (hst2 undef) hC ⟨hF, trivial⟩ (hK undef rfl)

/-- whatever order is picked, as long as the head lasts -/
def wpAnyR (P : Program) (md : Region.Mode) (ops : Array Oper) (G : World → World → Prop) (W0 : World) (Sp : FuncId → Array Value → Value → World → Prop) (n : Nat) (L : Array Bool → Act → (World → Prop) → Prop) : Nat → Array Bool → Act → (World → Prop) → Prop
  | 0, listed, a, F => L listed a F
  | f + 1, listed, a, F =>
    Region.ready md ops listed ≠ [] ∧ ∀ i ∈ Region.ready md ops listed, i < n ∧ rOp P ops G W0 Sp i (wpAnyR P md ops G W0 Sp n L f (listed.setIfInBounds i true)) a F

theorem wpAny_of_relhead (R : RelLaw G Sp) {n g : Nat} {L : Array Bool → Act → (World → Prop) → Prop} {Q' : Exit → Act → World → Prop} (hL : ∀ listed a F w, G W0 w → F w → L listed a F → wpAny P md ops Q' g listed a w) :
    ∀ (f : Nat) (listed : Array Bool) (a : Act) (F : World → Prop) (w : World), G W0 w → F w → (∀ w w', F w → G w w' → F w') → wpAnyR P md ops G W0 Sp n L f listed a F → wpAny P md ops Q' (f + g) listed a w
  | 0, listed, a, F, w, hG, hF, hs, h => by rw [Nat.zero_add]; exact hL _ _ _ _ hG hF h
  | f + 1, listed, a, F, w, hG, hF, hs, h => by
    rw [show f + 1 + g = (f + g) + 1 by omega]
    exact ⟨fun h0 => absurd h0 h.1, fun i hi => wpOp_of_rOp R hG hF hs (fun a' F' w' hs' hG' hF' h' => wpAny_of_relhead R hL f _ a' F' w' hG' hF' hs' h') (h.2 i hi).2⟩

theorem wpAnyR_first (R : RelLaw G Sp) {n i : Nat} {oi : Oper} {D : Value → Prop} {S : Value → World → Prop} {L : Array Bool → Act → (World → Prop) → Prop} (hi : ops[i]? = some oi) (hsel : ∀ (j : Nat) (o : Oper) cs b, ops[j]? = some o → o.op ≠ .select cs b)
    {k0 : Nat} (hwait : ∀ listed, HeadInv md ops n listed → ∀ i, k0 ≤ i → i < n → listed.getD i true = false → ∀ t, n ≤ t → t ∉ Region.ready md ops listed) (hki : k0 ≤ i) (hin : i < n)
    (hdone : ∀ listed a F, L listed a F → ∀ j ∈ Region.ready md ops listed, n ≤ j) :
    ∀ (f : Nat) (listed : Array Bool) (a : Act) (F : World → Prop), HeadInv md ops n listed →
      (∀ j oj, ops[j]? = some oj → j ≠ i → listed.getD j true = false → (∀ e ∈ oj.after, Region.binds md e = true → e.on ≠ i) → oi.apart ops oj = true) →
      i ∈ Region.ready md ops listed → YR P ops G W0 Sp oi a D S →
      (∀ v, D v → wpAnyR P md ops G W0 Sp n L f (listed.setIfInBounds i true) (a.put oi.dst v) (fun w => F w ∧ S v w)) → wpAnyR P md ops G W0 Sp n L (f + 1) listed a F := by
  intro f
  induction f with
  | zero =>
    intro listed a F inv _ hr hy H
    have hun := (mem_ready.1 hr).1
    refine ⟨fun h => (by rw [h] at hr; cases hr), fun j hj => ?_⟩
    have hjn : j < n := by
      rcases Nat.lt_or_ge j n with h | h
      · exact h
      · exact absurd hj (hwait listed inv i hki hin hun j h)
    refine ⟨hjn, ?_⟩
    by_cases hji : j = i
    · subst hji
      unfold rOp
      simp only [hi]
      exact ⟨D, S, hy, H⟩
    · obtain ⟨v0, hv0⟩ := hy.some R
      have := hdone _ _ _ (H v0 hv0) j (ready_mono hj hji)
      omega
  | succ f ih =>
    intro listed a F inv hfree hr hy H
    have hun := (mem_ready.1 hr).1
    refine ⟨fun h => (by rw [h] at hr; cases hr), fun j hj => ?_⟩
    have hjn : j < n := by
      rcases Nat.lt_or_ge j n with h | h
      · exact h
      · exact absurd hj (hwait listed inv i hki hin hun j h)
    refine ⟨hjn, ?_⟩
    by_cases hji : j = i
    · subst hji
      unfold rOp
      simp only [hi]
      exact ⟨D, S, hy, H⟩
    · obtain ⟨hjun, oj, hoj, hall⟩ := mem_ready.1 hj
      have hnot : ∀ e ∈ oj.after, Region.binds md e = true → e.on ≠ i := fun e he hb heq => by
        have h1 := hall e he hb
        rw [heq, getD_both hun] at h1
        cases h1
      have h2 := rOp_put R hoj (hfree j oj hoj hji hjun hnot) (fun cs b => hsel i oi cs b hi) (fun cs b => hsel j oj cs b hoj) hy (fun v hv => ((H v hv).2 j (ready_mono hj hji)).2)
      have hfree' : ∀ k ok, ops[k]? = some ok → k ≠ i → (listed.setIfInBounds j true).getD k true = false →
          (∀ e ∈ ok.after, Region.binds md e = true → e.on ≠ i) → oi.apart ops ok = true := fun k ok hk hki hun hno => by
        refine hfree k ok hk hki ?_ hno
        by_cases hjk : j = k
        · subst hjk; exact hjun
        · rw [getD_set_ne true hjk] at hun; exact hun
      refine rOp_mono (fun a' F' h3 => ih (listed.setIfInBounds j true) a' F' (inv.set hj hjn) hfree' (ready_mono hr (Ne.symm hji)) h3.1 ?_) h2
      rw [Array.setIfInBounds_comm _ _ hji]
      exact h3.2

/-- the walk of the text's order -/
def wpR (P : Program) (ops : Array Oper) (G : World → World → Prop) (W0 : World) (Sp : FuncId → Array Value → Value → World → Prop) (Q : Act → (World → Prop) → Prop) : List Oper → Act → (World → Prop) → Prop
  | [], a, F => Q a F
  | o :: rest, a, F => ∃ D S, YR P ops G W0 Sp o a D S ∧ ∀ v, D v → wpR P ops G W0 Sp Q rest (a.put o.dst v) (fun w => F w ∧ S v w)

theorem wpR_anti {Q : Act → (World → Prop) → Prop} (hQ : ∀ a (F F' : World → Prop), (∀ w, F' w → F w) → Q a F → Q a F') : ∀ (l : List Oper) (a : Act) (F F' : World → Prop), (∀ w, F' w → F w) → wpR P ops G W0 Sp Q l a F → wpR P ops G W0 Sp Q l a F'
  | [], a, F, F', hf, h => hQ a F F' hf h
  | o :: l, a, F, F', hf, h => by
    obtain ⟨D, S, h1, h2⟩ := h
    exact ⟨D, S, h1, fun v hv => wpR_anti hQ l _ _ _ (fun w hw => ⟨hf w hw.1, hw.2⟩) (h2 v hv)⟩

theorem wpAnyR_lex (R : RelLaw G Sp) {n g : Nat} {Lq : Act → (World → Prop) → Prop} (hsel : Region.noSelect ops = true) {k0 : Nat} (hwait : ∀ listed, HeadInv md ops n listed → ∀ i, k0 ≤ i → i < n → listed.getD i true = false → ∀ t, n ≤ t → t ∉ Region.ready md ops listed) :
    ∀ (l : List Oper) (k : Nat) (listed : Array Bool) (a : Act) (F : World → Prop), k0 ≤ k → (∀ j, j < l.length → l[j]? = ops[k + j]?) → k + l.length = n → HeadInv md ops n listed →
    Region.lexHead md ops g l.length k listed = true → wpR P ops G W0 Sp Lq l a F →
    wpAnyR P md ops G W0 Sp n (fun listed' a' F' => Region.seqB md ops g n listed' = true ∧ Lq a' F') l.length listed a F
  | [], k, listed, a, F, _, _, hk, _, hB, h => by
    have : k = n := by simpa using hk
    subst this
    exact ⟨by simpa [Region.lexHead] using hB, h⟩
  | o :: l, k, listed, a, F, hk0, hl, hk, inv, hB, h => by
    have h0 : ops[k]? = some o := by simpa using (hl 0 (by simp)).symm
    simp only [List.length_cons, Region.lexHead, Bool.and_eq_true] at hB
    obtain ⟨⟨hr, hf⟩, hB'⟩ := hB
    have hkn : k < n := by simp only [List.length_cons] at hk; omega
    have hr' : k ∈ Region.ready md ops listed := by simpa using hr
    obtain ⟨D, S, hy, hK⟩ := h
    exact wpAnyR_first R h0 (Region.noSelect_spec hsel) hwait hk0 hkn (fun listed' a' F' hL => seqB_ready hL.1) l.length listed a F inv (Region.free_spec h0 hf) hr' hy
      (fun v hv => wpAnyR_lex R hsel hwait l (k + 1) _ _ _ (by omega) (fun j hj => by have := hl (j + 1) (by simp; omega); simpa [Nat.add_assoc, Nat.add_comm 1 j] using this) (by simp only [List.length_cons] at hk; omega) (inv.set hr' hkn) hB' (hK v hv))

/-- a head of n operations in whatever order, then one by one -/
theorem wp_region_rel_tail {id : Nat} {Q : Exit → Act → World → Prop} {a : Act} {w : World} {l : List Oper} (R : RelLaw G Sp) (n : Nat) (hm : P.follows .mixedOrders = true) (hB : Region.lexTailB .any l.toArray n = true)
    (h : wpR P l.toArray G w.drew Sp (fun a' F => ∀ w', G w.drew w' → F w' → wpList P l.toArray Q (l.drop n) a' w') (l.take n) a (fun _ => True)) : (Code.region id l.toArray true).wp P Q a w := by
  simp only [Region.lexTailB, Bool.and_eq_true, decide_eq_true_eq] at hB
  obtain ⟨⟨⟨⟨hsel, hn⟩, hs⟩, hc⟩, hlex⟩ := hB
  have hn' : n < l.length := by simpa using hn
  have htl : (l.take n).length = n := by simp; omega
  have hdl : (l.drop n).length = l.toArray.size - n := by simp
  have inv0 : HeadInv .any l.toArray n (Array.replicate l.toArray.size false) :=
    ⟨by simp, fun j oj _ hl => (by rw [getD_replicate_false] at hl; cases hl), fun t _ ht => getD_in (by simpa using ht) (getD_replicate_false _ _)⟩
  have H := wpAnyR_lex (md := .any) R (g := l.toArray.size - n) hsel (k0 := 0) (fun listed inv i _ hi hun => tail_waits hs hc hn inv _ i rfl hi hun) (l.take n) 0 _ a _ (Nat.le_refl _) (fun j hj => by
    have hj' : j < n := by rw [htl] at hj; exact hj
    simp [hj']) (by simpa using htl) inv0 (by rw [htl]; exact hlex) h
  refine wp_region_any hm ?_
  have := wpAny_of_relhead (Q' := Q) R (g := l.toArray.size - n) (fun listed a' F w' hG hF hL => by
    have := wpAny_of_seq (md := .any) (Q' := Q) (l.drop n) n listed a' w' (fun j => by simp [List.getElem?_drop]) (by rw [hdl]; exact hL.1) (hL.2 w' hG hF)
    rwa [hdl] at this) _ _ _ _ w.drew (R.refl _) trivial (fun _ _ _ _ => trivial) H
  rw [htl, show n + (l.toArray.size - n) = l.toArray.size by omega] at this
  exact this

/-- all in whatever order -/
theorem wp_region_rel {id : Nat} {Q : Exit → Act → World → Prop} {a : Act} {w : World} {l : List Oper} (R : RelLaw G Sp) (hm : P.follows .mixedOrders = true) (hB : (Region.noSelect l.toArray && Region.lexHead .any l.toArray 0 l.length 0 (Array.replicate l.length false)) = true)
    (h : wpR P l.toArray G w.drew Sp (fun a' F => ∀ w', G w.drew w' → F w' → Q .normal a' w') l a (fun _ => True)) : (Code.region id l.toArray true).wp P Q a w := by
  simp only [Bool.and_eq_true] at hB
  obtain ⟨hsel, hlex⟩ := hB
  have hls : l.toArray.size = l.length := by simp
  have inv0 : HeadInv .any l.toArray l.length (Array.replicate l.length false) :=
    ⟨by simp, fun j oj _ hl => (by rw [getD_replicate_false] at hl; cases hl), fun t h1 ht => by rw [hls] at ht; omega⟩
  have H := wpAnyR_lex (md := .any) R (g := 0) (n := l.length) hsel (k0 := 0) (fun listed inv i _ hi hun t ht hr => by
    obtain ⟨_, ot, hot, _⟩ := mem_ready.1 hr
    have := (Array.getElem?_eq_some_iff.1 hot).1
    rw [hls] at this
    omega) l 0 _ a _ (Nat.le_refl _) (fun j hj => by simp) (by simp) inv0 hlex h
  refine wp_region_any hm ?_
  have := wpAny_of_relhead (Q' := Q) R (g := 0) (fun listed a' F w' hG hF hL => by
    refine ⟨?_, hL.2 w' hG hF⟩
    have := hL.1
    simpa [Region.seqB] using this) _ _ _ _ w.drew (R.refl _) trivial (fun _ _ _ _ => trivial) H
  rw [hls]
  simpa using this

/-- more facts ask less -/
theorem anti_norm {K : Act → World → Prop} {G : World → World → Prop} {W0 : World} (a : Act) (F F' : World → Prop) (h : ∀ w, F' w → F w)
    (hQ : ∀ w', G W0 w' → F w' → K a w') : ∀ w', G W0 w' → F' w' → K a w' := fun w' hg hf => hQ w' hg (h w' hf)
/-! the steps of the walk -/
/-- an operation that enters no function -/
def noEnter (o : Oper) : Bool := match o.op with
  | .move _ | .assign _ | .pick .. | .alloc _ | .box .. | .build .. | .buildSlice .. | .load .. | .store .. | .nilCheck _ | .binOp .. | .unOp .. | .convert .. | .makeInterface .. | .makeFunc .. | .makeMap .. | .makeSlice .. | .slice .. | .fieldAddr .. | .field .. | .indexAddr .. | .index .. | .lookup .. | .mapUpdate .. | .extract .. => true
  | .call c => (match c.callee with | .builtin .len => true | .builtin .min => true | .builtin .max => true | .builtin .cap => true | _ => false)
  | _ => false
theorem v_noenter (s : Sem Value) (P : Program) (w : World) (f : FuncId) (args : Array Value) (w' : World) : ((do pure (Next.value (← s))) : Sem Next).run P w ≠ .ok (.enter f args) w' := by
  intro h
  rw [Sem.run_bind] at h
  generalize s.run P w = r at h
  cases r with
  | ok v w1 => simp at h
  | halt x w1 => simp at h
theorem u_noenter (s : Sem Unit) (P : Program) (w : World) (f : FuncId) (args : Array Value) (w' : World) : ((do s; pure Next.skip) : Sem Next).run P w ≠ .ok (.enter f args) w' := by
  intro h
  rw [Sem.run_bind] at h
  generalize s.run P w = r at h
  cases r with
  | ok v w1 => simp at h
  | halt x w1 => simp at h
theorem noEnter_run {o : Oper} (ho : noEnter o = true) (a : Act) (P : Program) (w : World) (f : FuncId) (args : Array Value) (w' : World) : (execOp a.eval o).run P w ≠ .ok (.enter f args) w' := by
  obtain ⟨dst, op, ty, pos, after, guard⟩ := o
  unfold noEnter at ho
  cases op <;> simp only [Bool.false_eq_true] at ho <;> unfold execOp <;> simp only
  case move x => simp
  case assign x => simp
  case pick c x y => 
    intro h
    rw [Sem.run_bind] at h
    generalize (asBool (a.eval c)).run P w = r at h
    cases r with
    | ok v w1 => simp at h
    | halt x w1 => simp at h
  case nilCheck x =>
    intro h
    split at h
    · simp [runtimePanic] at h
    · simp [runtimePanic] at h
    · simp [runtimePanic] at h
    · split at h
      · simp [runtimePanic] at h
      · simp only [Sem.run_bind] at h
        generalize Sem.run P program w = r at h
        cases r with
        | halt x w1 => simp at h
        | ok v w1 =>
          simp only [Result.andThen_ok] at h
          generalize Sem.run P (nilAhead _ _ _ _) w1 = r at h
          cases r with
          | halt x w2 => simp at h
          | ok v2 w2 =>
            simp only [Result.andThen_ok] at h
            split at h
            · simp [unsupported] at h
            · simp at h
      · simp at h
    · simp at h
  case call c =>
    obtain ⟨callee, cargs, cts⟩ := c
    cases callee with
    | builtin b =>
      cases b <;> simp only [Bool.false_eq_true] at ho
      all_goals
        simp only [resolve, Sem.run_bind, Sem.run_pure, Result.andThen_ok, invoke, builtin]
        first | exact v_noenter _ _ _ _ _ _ | (intro h; exact v_noenter _ _ _ _ _ _ (by rw [Sem.run_bind]; exact h))
    | _ => simp at ho
  all_goals first | exact v_noenter _ _ _ _ _ _ | exact u_noenter _ _ _ _ _ _
/-- quiet operations at the beginning -/
theorem wpR_pre (R : RelLaw G Sp) {Q : Act → (World → Prop) → Prop} (hQ : ∀ a (F F' : World → Prop), (∀ w, F' w → F w) → Q a F → Q a F') : ∀ (k : Nat) (l : List Oper) (a : Act) (F : World → Prop),
    wpQuiet P ops (fun w' => ∃ x : ClsW (G W0), w' = x.val) (fun a' => wpR P ops G W0 Sp Q (l.drop k) a' F) (l.take k) a → (l.take k).all noEnter = true → wpR P ops G W0 Sp Q l a F
  | 0, l, a, F, h, hc => by simpa [wpQuiet] using h
  | k + 1, [], a, F, h, hc => by simpa [wpQuiet] using h
  | k + 1, o :: l, a, F, h, hc => by
    simp only [List.take_succ_cons, List.drop_succ_cons, wpQuiet] at h
    simp only [List.take_succ_cons, List.all_cons, Bool.and_eq_true] at hc
    have hco := noEnter_run hc.1
    have hrec := fun a' F' hh => wpR_pre R hQ k l a' F' hh hc.2
    split at h
    · rename_i hw
      obtain ⟨v, h1, h2⟩ := h
      have hrun : ∀ w, G W0 w → ranV P o a w v w := fun w hG => by
        have h3 := h1 w ⟨⟨w, hG⟩, rfl⟩
        unfold Oper.quietAt at h3
        unfold ranV
        generalize hr : (execOp a.eval o).run P w = r at *
        cases r with
        | ok n w1 =>
          cases n <;> simp only [Oper.quietUpon] at h3
          case value u => obtain ⟨rfl, rfl⟩ := h3; rfl
          case skip => obtain ⟨rfl, rfl⟩ := h3; rfl
          case enter f args => exact absurd hr (hco _ _ _ _ _ _)
        | halt x w1 => simp only [Oper.quietUpon] at h3
      refine ⟨_, _, .inl ⟨hw, fun w hG => ⟨v, w, hrun w hG, R.refl _⟩, rfl, rfl⟩, fun u hu => ?_⟩
      obtain ⟨w1, w2, hG, h4⟩ := hu
      have h5 := hrun w1 hG
      unfold ranV at h4 h5
      rw [h5] at h4
      cases h4
      exact wpR_anti hQ _ _ _ _ (fun w hw => hw.1) (hrec _ _ h2)
    · rename_i hw
      refine ⟨_, _, .inr (.inr ⟨by simpa using hw, rfl, rfl⟩), fun u hu => ?_⟩
      subst hu
      exact wpR_anti hQ _ _ _ _ (fun w hw => hw.1) (hrec _ _ h)
/-- a call -/
theorem wpR_call {Q : Act → (World → Prop) → Prop} {o : Oper} {rest : List Oper} {a : Act} {F : World → Prop} (f : FuncId) (args : Array Value) (hw : Region.wanted o (yielded ops a.tmps) = true)
    (hr : ∀ w, (execOp a.eval o).run P w = .ok (.enter f args) w) (hc : ∀ w, G W0 w → Calls P f args w (fun e w'' => ∃ v, e = .returned v ∧ Sp f args v w'' ∧ G w w''))
    (h : ∀ v, (∃ w, G W0 w ∧ Sp f args v w) → wpR P ops G W0 Sp Q rest (a.put o.dst v) (fun w => F w ∧ Sp f args v w)) : wpR P ops G W0 Sp Q (o :: rest) a F :=
  ⟨_, _, .inr (.inl ⟨hw, f, args, fun w hG => ⟨hr w, hc w hG⟩, rfl, rfl⟩), fun v hv => h v hv⟩
theorem run_enter {P : Program} {f : FuncId} {fn : Func} (hf : P.funcs[f]? = some fn) (hname : (fn.name == "runtime.NumGoroutine") = false) (hb : fn.body.isSome = true) (args : Array Value) (w : World) :
    (callFunc f args).run P w = .ok (.enter f args) w := by
  have h1 : fn.name ≠ "runtime.NumGoroutine" := by simpa using hname
  obtain ⟨c, hc⟩ := Option.isSome_iff_exists.1 hb
  simp [callFunc, hf, h1, hc]
/-- a call of a function by its name -/
theorem wpR_callF {Q : Act → (World → Prop) → Prop} {o : Oper} {rest : List Oper} {a : Act} {F : World → Prop} (f : FuncId) (xs : Array Operand) (ts : Array TypeId) (ho : o.op = .call { callee := .value (.func f), args := xs, argTypes := ts }) (hw : Region.wanted o (yielded ops a.tmps) = true)
    {fn : Func} (hf : P.funcs[f]? = some fn) (hname : (fn.name == "runtime.NumGoroutine") = false) (hb : fn.body.isSome = true) (args : Array Value) (hargs : xs.map a.eval = args)
    (hc : ∀ w, G W0 w → Calls P f args w (fun e w'' => ∃ v, e = .returned v ∧ Sp f args v w'' ∧ G w w''))
    (h : ∀ v, (∃ w, G W0 w ∧ Sp f args v w) → wpR P ops G W0 Sp Q rest (a.put o.dst v) (fun w => F w ∧ Sp f args v w)) : wpR P ops G W0 Sp Q (o :: rest) a F := by
  refine wpR_call f args hw (fun w => ?_) hc h
  unfold execOp
  simp only [ho, resolve, Act.eval, Deferred.ofValue, Sem.run_bind, Sem.run_pure, Result.andThen_ok, invoke, Array.append_empty]
  have he : (#[] ++ Array.map (fun x => a.eval x) xs) = args := by simpa using hargs
  have he2 : (#[] : Array Value) ++ Array.map a.eval xs ++ #[] = args := by simpa using hargs
  first
    | (rw [he]; exact run_enter hf hname hb args w)
    | (rw [he2]; exact run_enter hf hname hb args w)
    | (simp [hargs]; exact run_enter hf hname hb args w)
/-- an operation that makes memory -/
theorem wpR_make (R : RelLaw G Sp) {Q : Act → (World → Prop) → Prop} (hQ : ∀ a (F F' : World → Prop), (∀ w, F' w → F w) → Q a F → Q a F') {o : Oper} {rest : List Oper} {a : Act} {F : World → Prop} (S : Value → World → Prop) (hw : Region.wanted o (yielded ops a.tmps) = true)
    (hr : ∀ w, G W0 w → ∃ u w', oVal ((execOp a.eval o).run P w) = some (u, w') ∧ G w w' ∧ S u w') (hs : ∀ v w w', S v w → G w w' → S v w')
    (h : ∀ v, (∃ w, G W0 w ∧ S v w) → wpR P ops G W0 Sp Q rest (a.put o.dst v) (fun w => F w ∧ S v w)) : wpR P ops G W0 Sp Q (o :: rest) a F := by
  refine ⟨_, _, .inl ⟨hw, fun w hG => ?_, rfl, rfl⟩, fun u hu => ?_⟩
  · obtain ⟨u, w', h1, h2, _⟩ := hr w hG
    exact ⟨u, w', h1, h2⟩
  · have key : ∀ w w', G W0 w → ranV P o a w u w' → S u w' ∧ G w w' := fun w w' hG hv => by
      obtain ⟨u', w2, h1, h2, h3⟩ := hr w hG
      unfold ranV at hv
      rw [h1] at hv
      cases hv
      exact ⟨h3, h2⟩
    obtain ⟨w1, w2, hG, h4⟩ := hu
    refine wpR_anti hQ _ _ _ _ (fun w hw => ⟨hw.1, ?_⟩) (h u ⟨w2, R.trans _ _ _ hG (key _ _ hG h4).2, (key _ _ hG h4).1⟩)
    obtain ⟨w3, w4, h5, h6, h7⟩ := hw.2
    exact hs _ _ _ (key _ _ h5 h6).1 h7
/-- one that is not wanted -/
theorem wpR_skip {Q : Act → (World → Prop) → Prop} (hQ : ∀ a (F F' : World → Prop), (∀ w, F' w → F w) → Q a F → Q a F') {o : Oper} {rest : List Oper} {a : Act} {F : World → Prop} (hw : Region.wanted o (yielded ops a.tmps) = false)
    (h : wpR P ops G W0 Sp Q rest (a.put o.dst undef) F) : wpR P ops G W0 Sp Q (o :: rest) a F :=
  ⟨_, _, .inr (.inr ⟨hw, rfl, rfl⟩), fun u hu => by subst hu; exact wpR_anti hQ _ _ _ _ (fun w hw => hw.1) h⟩
/-! PURE OPERATIONS FIRST: those that yield one value in whatever world are taken first, though the tail need not wait for them. -/
/-- an operation that yields a value -/
def isVal (o : Oper) : Bool := match o.op with
  | .move _ | .assign _ | .fieldAddr .. | .nilCheck _ | .extract .. | .unOp .. => true
  | _ => false
theorem v_noskip (s : Sem Value) (P : Program) (w w' : World) : ((do pure (Next.value (← s))) : Sem Next).run P w ≠ .ok .skip w' := by
  intro h
  rw [Sem.run_bind] at h
  generalize s.run P w = r at h
  cases r with
  | ok v w1 => simp at h
  | halt x w1 => simp at h
theorem isVal_noskip {o : Oper} (ho : isVal o = true) (a : Act) (P : Program) (w w' : World) : (execOp a.eval o).run P w ≠ .ok .skip w' := by
  obtain ⟨dst, op, ty, pos, after, guard⟩ := o
  unfold isVal at ho
  cases op <;> simp only [Bool.false_eq_true] at ho <;> unfold execOp <;> simp only
  case move x => simp
  case assign x => simp
  case nilCheck x =>
    intro h
    split at h
    · simp [runtimePanic] at h
    · simp [runtimePanic] at h
    · simp [runtimePanic] at h
    · split at h
      · simp [runtimePanic] at h
      · simp only [Sem.run_bind] at h
        generalize Sem.run P program w = r at h
        cases r with
        | halt x w1 => simp at h
        | ok v w1 =>
          simp only [Result.andThen_ok] at h
          generalize Sem.run P (nilAhead _ _ _ _) w1 = r at h
          cases r with
          | halt x w2 => simp at h
          | ok v2 w2 =>
            simp only [Result.andThen_ok] at h
            split at h
            · simp [unsupported] at h
            · simp at h
      · simp at h
    · simp at h
  all_goals exact v_noskip _ _ _ _
theorem isVal_noEnter {o : Oper} (ho : isVal o = true) : noEnter o = true := by
  obtain ⟨dst, op, ty, pos, after, guard⟩ := o
  unfold isVal at ho
  unfold noEnter
  cases op <;> simp_all
theorem yields_of_quiet {o : Oper} {a : Act} {v : Value} (ho : isVal o = true) (h : ∀ w, (∃ x : ClsW (fun _ => True), w = x.val) → o.quietAt P a (fun w => ∃ x : ClsW (fun _ => True), w = x.val) w v) : ∀ w, (execOp a.eval o).run P w = .ok (.value v) w := by
  intro w
  have h1 := h w ⟨⟨w, trivial⟩, rfl⟩
  have h2 := isVal_noskip ho a P w
  have h3 := noEnter_run (isVal_noEnter ho) a P w
  unfold Oper.quietAt at h1
  generalize hr : (execOp a.eval o).run P w = r at *
  cases r with
  | ok n w1 =>
    cases n <;> simp only [Oper.quietUpon] at h1
    case value u => obtain ⟨rfl, rfl⟩ := h1; rfl
    case skip => exact absurd rfl (h2 w1)
    case enter f args => exact absurd rfl (h3 f args w1)
  | halt x w1 => simp only [Oper.quietUpon] at h1

/-- k operations first, then the head, then the tail -/
def lexPure (md : Region.Mode) (ops : Array Oper) (g n : Nat) : Nat → Nat → Array Bool → Bool
  | 0, k, listed => Region.lexHead md ops g (n - k) k listed
  | f + 1, k, listed => (Region.ready md ops listed).contains k && Region.free md ops listed k && ((ops[k]?).map isVal).getD false && lexPure md ops g n f (k + 1) (listed.setIfInBounds k true)
def sinkFrom (md : Region.Mode) (ops : Array Oper) (k n : Nat) : Bool :=
  (List.range n).all fun i => decide (i < k) || (List.range (n + 1)).any fun j => decide (i < j) && Region.waitsFor md ops j i
def lexPRT (md : Region.Mode) (ops : Array Oper) (k n : Nat) : Bool :=
  Region.noSelect ops && decide (n < ops.size) && decide (k ≤ n) && sinkFrom md ops k n && Region.chainB md ops n && lexPure md ops (ops.size - n) n k 0 (Array.replicate ops.size false)

theorem tail_waits_from {k n : Nat} {listed : Array Bool} (hs : sinkFrom md ops k n = true) (hc : Region.chainB md ops n = true) (hn : n < ops.size) (inv : HeadInv md ops n listed) :
    ∀ (d i : Nat), n - i = d → k ≤ i → i < n → listed.getD i true = false → ∀ t, n ≤ t → t ∉ Region.ready md ops listed := by
  intro d
  induction d using Nat.strongRecOn with
  | _ d ih =>
    intro i hd hki hi hun t ht hr
    obtain ⟨_, ot, hot, hall⟩ := mem_ready.1 hr
    have htlt : t < ops.size := (Array.getElem?_eq_some_iff.1 hot).1
    by_cases htn : t = n
    · subst htn
      have h1 := List.all_eq_true.1 hs i (List.mem_range.2 hi)
      have hnk : decide (i < k) = false := by simp; omega
      rw [hnk, Bool.false_or] at h1
      obtain ⟨j, hj, hj2⟩ := List.any_eq_true.1 h1
      simp only [Bool.and_eq_true, decide_eq_true_eq] at hj2
      obtain ⟨oj, hoj, e, he, hb, hon⟩ := Region.waitsFor_spec hj2.2
      have hjle : j ≤ t := by have := List.mem_range.1 hj; omega
      by_cases hjt : j = t
      · subst hjt
        have : oj = ot := Option.some.inj (hoj.symm.trans hot)
        subst this
        have h2 := hall e he hb
        rw [hon, getD_both hun] at h2
        cases h2
      · cases hl : listed.getD j false with
        | true =>
          have h2 := inv.closed j oj hoj hl e he hb
          rw [hon, getD_both hun] at h2
          cases h2
        | false =>
          have hjs : j < listed.size := by rw [inv.size]; omega
          exact ih (t - j) (by omega) j rfl (by omega) (by omega) (getD_in hjs hl) t (Nat.le_refl _) hr
    · have h1 := List.all_eq_true.1 hc t (List.mem_range.2 htlt)
      simp only [Bool.or_eq_true, decide_eq_true_eq] at h1
      rcases h1 with h1 | h1
      · omega
      · obtain ⟨o', ho', e, he, hb, hon⟩ := Region.waitsFor_spec h1
        have : o' = ot := Option.some.inj (ho'.symm.trans hot)
        subst this
        have h2 := hall e he hb
        rw [hon, getD_both (inv.tail (t - 1) (by omega) (by omega))] at h2
        cases h2

theorem wpAny_pure {n g K : Nat} {Q : Exit → Act → World → Prop} {Lq : Act → Prop} {w : World} (hK : K ≤ n) (hsel : Region.noSelect ops = true) (hQ : ∀ c a d v w, Q (.panic c) (Act.put a d v) w → Q (.panic c) a w)
    (hrest : ∀ (listed : Array Bool) (a : Act), HeadInv md ops n listed → Region.lexHead md ops g (n - K) K listed = true → Lq a → wpAny P md ops Q (n - K + g) listed a w) :
    ∀ (l : List Oper) (k : Nat) (listed : Array Bool) (a : Act), (∀ j, j < l.length → l[j]? = ops[k + j]?) → k + l.length = K → HeadInv md ops n listed → lexPure md ops g n l.length k listed = true →
      wpQuiet P ops (fun w => ∃ x : ClsW (fun _ => True), w = x.val) Lq l a → wpAny P md ops Q (n - k + g) listed a w
  | [], k, listed, a, _, hk, inv, hB, h => by
    have hk' : k = K := by simpa using hk
    subst hk'
    exact hrest listed a inv (by simpa [lexPure] using hB) h
  | o :: l, k, listed, a, hl, hk, inv, hB, h => by
    have h0 : ops[k]? = some o := by simpa using (hl 0 (by simp)).symm
    simp only [List.length_cons, lexPure, Bool.and_eq_true, h0, Option.map_some, Option.getD_some] at hB
    obtain ⟨⟨⟨hr, hf⟩, hv⟩, hB'⟩ := hB
    simp only [List.length_cons] at hk
    have hkn : k < n := by omega
    have hr' : k ∈ Region.ready md ops listed := by simpa using hr
    have hfu : n - k + g = (n - (k + 1) + g) + 1 := by omega
    rw [hfu]
    have hnext : ∀ v, wpQuiet P ops (fun w => ∃ x : ClsW (fun _ => True), w = x.val) Lq l (a.put o.dst v) → wpAny P md ops Q (n - (k + 1) + g) (listed.setIfInBounds k true) (a.put o.dst v) w := fun v hq =>
      wpAny_pure hK hsel hQ hrest l (k + 1) _ _ (fun j hj => by have := hl (j + 1) (by simp; omega); simpa [Nat.add_assoc, Nat.add_comm 1 j] using this) (by omega) (inv.set hr' hkn) hB' hq
    unfold wpQuiet at h
    split at h
    · rename_i hw
      obtain ⟨v, h1, h2⟩ := h
      exact wpAny_first h0 (Region.noSelect_spec hsel) (fun c a' w' => hQ c a' o.dst v w') _ listed a w (Region.free_spec h0 hf) hr' (.inl ⟨hw, yields_of_quiet hv h1⟩) (hnext v h2)
    · rename_i hw
      exact wpAny_first h0 (Region.noSelect_spec hsel) (fun c a' w' => hQ c a' o.dst undef w') _ listed a w (Region.free_spec h0 hf) hr' (.inr ⟨by simpa using hw, rfl⟩) (hnext undef h)

/-- k pure operations first, a head up to n in whatever order, then one by one -/
theorem wp_region_prt {id : Nat} {Q : Exit → Act → World → Prop} {a : Act} {w : World} {l : List Oper} (R : RelLaw G Sp) (k n : Nat) (hm : P.follows .mixedOrders = true) (hB : lexPRT .any l.toArray k n = true) (hQ : ∀ c a d v w, Q (.panic c) (Act.put a d v) w → Q (.panic c) a w)
    (h : wpQuiet P l.toArray (fun w => ∃ x : ClsW (fun _ => True), w = x.val) (fun a0 => wpR P l.toArray G w.drew Sp (fun a' F => ∀ w', G w.drew w' → F w' → wpList P l.toArray Q (l.drop n) a' w') ((l.take n).drop k) a0 (fun _ => True)) (l.take k) a) : (Code.region id l.toArray true).wp P Q a w := by
  simp only [lexPRT, Bool.and_eq_true, decide_eq_true_eq] at hB
  obtain ⟨⟨⟨⟨⟨hsel, hn⟩, hkn⟩, hs⟩, hc⟩, hlex⟩ := hB
  have hn' : n < l.length := by simpa using hn
  have htl : (l.take n).length = n := by simp; omega
  have hdl : (l.drop n).length = l.toArray.size - n := by simp
  have inv0 : HeadInv .any l.toArray n (Array.replicate l.toArray.size false) :=
    ⟨by simp, fun j oj _ hl => (by rw [getD_replicate_false] at hl; cases hl), fun t _ ht => getD_in (by simpa using ht) (getD_replicate_false _ _)⟩
  have hkl : (l.take k).length = k := by simp; omega
  refine wp_region_any hm ?_
  have H := wpAny_pure (md := .any) (n := n) (g := l.toArray.size - n) (K := k) (Q := Q) (w := w.drew) (Lq := fun a0 => wpR P l.toArray G w.drew Sp (fun a' F => ∀ w', G w.drew w' → F w' → wpList P l.toArray Q (l.drop n) a' w') ((l.take n).drop k) a0 (fun _ => True)) hkn hsel hQ ?_ (l.take k) 0 (Array.replicate l.toArray.size false) a (fun j hj => by
      have hj' : j < k := by rw [hkl] at hj; exact hj
      simp [hj']) (by rw [hkl]; omega) inv0 (by rw [hkl]; exact hlex) h
  · rw [show n - 0 + (l.toArray.size - n) = l.toArray.size by omega] at H
    exact H
  · intro listed a0 inv hlx hw
    have hml : ((l.take n).drop k).length = n - k := by rw [List.length_drop, htl]
    have H2 := wpAnyR_lex (md := .any) R (g := l.toArray.size - n) hsel (k0 := k) (fun listed inv i hki hi hun => tail_waits_from hs hc hn inv _ i rfl hki hi hun) ((l.take n).drop k) k listed a0 _ (Nat.le_refl _) (fun j hj => by
      rw [hml] at hj
      rw [List.getElem?_drop, List.getElem?_take, if_pos (by omega)]
      simp) (by rw [hml]; omega) inv (by rw [hml]; exact hlx) hw
    have := wpAny_of_relhead (Q' := Q) R (g := l.toArray.size - n) (fun listed a' F w' hG hF hL => by
      have := wpAny_of_seq (md := .any) (Q' := Q) (l.drop n) n listed a' w' (fun j => by simp [List.getElem?_drop]) (by rw [hdl]; exact hL.1) (hL.2 w' hG hF)
      rwa [hdl] at this) _ _ _ _ w.drew (R.refl _) trivial (fun _ _ _ _ => trivial) H2
    rw [hml] at this
    exact this
end
end Go.Proofs.Ytdmnhkmpfnhmdaa
end

section
namespace Go.Proofs.Ytdmnhkmpfnhmdaa
set_option linter.unusedVariables false
open Go.RowKit
section
variable {n : Nat} {P : Program} {ops : Array Oper} {Q : Exit → Act → World → Prop}
theorem rowsIn_of_rows {row : String} {args : Array Value} {w : World} {R : Value → World → Prop} (h : Rows P row args w R) : RowsIn Fence.wide n P row args w R :=
  fun c cs _ => let ⟨v, w', r, s⟩ := h c cs; ⟨v, w', r, stepsIn_wide.2 s⟩
theorem wpOpsIn_of_wpOps (hL : ¬ LetsOut Q) : ∀ (l : List Nat) (a : Act) (w : World), wpOps P ops Q l a w → wpOpsIn Fence.wide n P ops Q l a w
  | [], _, _, h => h
  | i :: rest, a, w, h => by
    simp only [wpOps] at h
    simp only [wpOpsIn]
    split
    · rename_i hn
      rw [hn] at h
      exact wpOpsIn_of_wpOps hL rest a w h
    · rename_i o ho
      rw [ho] at h
      simp only at h
      split at h
      · rename_i hw
        rw [if_pos hw]
        rcases h with h | ⟨_, h⟩
        · refine ⟨fun _ _ => trivial, ?_⟩
          rw [show (Fence.wide.round) = none from rfl, Oper.semAt_none]
          unfold Oper.wp at h
          generalize (execOp a.eval o).run P w = x at h ⊢
          have ih := wpOpsIn_of_wpOps hL rest
          match x, h with
          | .ok (.value u) w', h => exact ih _ _ h
          | .ok .skip w', h => exact ih _ _ h
          | .ok (.defer d) w', h => exact ih _ _ h
          | .ok (.enter f args) w', h =>
            refine ⟨fun h => (nomatch h), (callsIn_wide.2 h).mono fun e w'' hh => ?_⟩
            cases e with
            | returned v => exact ih _ _ hh
            | panicked chain => exact hh
            | outgrown => exact hh
          | .ok (.row row args) w', h => exact ⟨fun h => (nomatch h), RowsIn.mono (rowsIn_of_rows h) fun v w'' hh => ih _ _ hh⟩
          | .halt (.panic v) w', h => exact h
        · exact absurd h hL
      · rename_i hw
        rw [if_neg hw]
        exact ⟨fun _ _ => trivial, wpOpsIn_of_wpOps hL rest _ w h⟩
theorem round_any {id r : Nat} {a : Act} {w : World} (hd : noDefer ops.toList = true) (hm : P.follows .mixedOrders = true) (hL : ¬ LetsOut Q)
    (h : wpAny P .any ops Q ops.size (Array.replicate ops.size false) a { w with drawn := w.drawn + 1 }) : (Code.region id ops true).wpIn (Fence.wide.inRound r) n P Q a w := by
  refine wpIn_region_draw fun t => ?_
  refine wpOpsIn_round r hd _ _ _ (wpOpsIn_of_wpOps hL _ _ _ ?_)
  simp only [Region.schedule, hm, Bool.true_or, if_true]
  exact wpAny_sound ops.size t _ a _ h
end
section
variable {P : Program} {G : World → World → Prop} {Sp : FuncId → Array Value → Value → World → Prop}
/-- k pure operations first, a head up to n in whatever order, then one by one -/
theorem round_prt {m r : Nat} {id : Nat} {Q : Exit → Act → World → Prop} {a : Act} {w : World} {l : List Oper} (R : RelLaw G Sp) (k n : Nat) (hd : noDefer l = true) (hLO : ¬ LetsOut Q) (hm : P.follows .mixedOrders = true) (hB : lexPRT .any l.toArray k n = true) (hQ : ∀ c a d v w, Q (.panic c) (Act.put a d v) w → Q (.panic c) a w)
    (h : wpQuiet P l.toArray (fun w => ∃ x : ClsW (fun _ => True), w = x.val) (fun a0 => wpR P l.toArray G w.drew Sp (fun a' F => ∀ w', G w.drew w' → F w' → wpList P l.toArray Q (l.drop n) a' w') ((l.take n).drop k) a0 (fun _ => True)) (l.take k) a) : (Code.region id l.toArray true).wpIn (Fence.wide.inRound r) m P Q a w := by
  simp only [lexPRT, Bool.and_eq_true, decide_eq_true_eq] at hB
  obtain ⟨⟨⟨⟨⟨hsel, hn⟩, hkn⟩, hs⟩, hc⟩, hlex⟩ := hB
  have hn' : n < l.length := by simpa using hn
  have htl : (l.take n).length = n := by simp; omega
  have hdl : (l.drop n).length = l.toArray.size - n := by simp
  have inv0 : HeadInv .any l.toArray n (Array.replicate l.toArray.size false) :=
    ⟨by simp, fun j oj _ hl => (by rw [getD_replicate_false] at hl; cases hl), fun t _ ht => getD_in (by simpa using ht) (getD_replicate_false _ _)⟩
  have hkl : (l.take k).length = k := by simp; omega
  refine round_any (by simpa using hd) hm hLO ?_
  have H := wpAny_pure (md := .any) (n := n) (g := l.toArray.size - n) (K := k) (Q := Q) (w := w.drew) (Lq := fun a0 => wpR P l.toArray G w.drew Sp (fun a' F => ∀ w', G w.drew w' → F w' → wpList P l.toArray Q (l.drop n) a' w') ((l.take n).drop k) a0 (fun _ => True)) hkn hsel hQ ?_ (l.take k) 0 (Array.replicate l.toArray.size false) a (fun j hj => by
      have hj' : j < k := by rw [hkl] at hj; exact hj
      simp [hj']) (by rw [hkl]; omega) inv0 (by rw [hkl]; exact hlex) h
  · rw [show n - 0 + (l.toArray.size - n) = l.toArray.size by omega] at H
    exact H
  · intro listed a0 inv hlx hw
    have hml : ((l.take n).drop k).length = n - k := by rw [List.length_drop, htl]
    have H2 := wpAnyR_lex (md := .any) R (g := l.toArray.size - n) hsel (k0 := k) (fun listed inv i hki hi hun => tail_waits_from hs hc hn inv _ i rfl hki hi hun) ((l.take n).drop k) k listed a0 _ (Nat.le_refl _) (fun j hj => by
      rw [hml] at hj
      rw [List.getElem?_drop, List.getElem?_take, if_pos (by omega)]
      simp) (by rw [hml]; omega) inv (by rw [hml]; exact hlx) hw
    have := wpAny_of_relhead (Q' := Q) R (g := l.toArray.size - n) (fun listed a' F w' hG hF hL => by
      have := wpAny_of_seq (md := .any) (Q' := Q) (l.drop n) n listed a' w' (fun j => by simp [List.getElem?_drop]) (by rw [hdl]; exact hL.1) (hL.2 w' hG hF)
      rwa [hdl] at this) _ _ _ _ w.drew (R.refl _) trivial (fun _ _ _ _ => trivial) H2
    rw [hml] at this
    exact this
end
end Go.Proofs.Ytdmnhkmpfnhmdaa
end

section
namespace Go.Proofs.Ytdmnhkmpfnhmdaa
set_option linter.unusedVariables false
open Go.RowKit
section
variable {P : Program} {ops : Array Oper} {md : Region.Mode} {G : World → World → Prop} {W0 : World} {Sp : FuncId → Array Value → Value → World → Prop}
def isExtract (o : Oper) : Bool := match o.op with | .extract .. => true | _ => false
theorem extract_any (x : Value) (i : Nat) (P : Program) (w w2 : World) : (∃ u, (Instr.extract x i).run P w = .ok u w ∧ (Instr.extract x i).run P w2 = .ok u w2) ∨ (∀ u w', (Instr.extract x i).run P w ≠ .ok u w') := by
  cases x with
  | tuple vs =>
    unfold Instr.extract
    cases h : vs[i]? with
    | some u => exact .inl ⟨u, by simp [h], by simp [h]⟩
    | none => exact .inr (fun u w' hh => by simp [h] at hh)
  | _ => exact .inr (fun u w' hh => by simp [Instr.extract] at hh)
theorem extract_run {o : Oper} (ho : isExtract o = true) {a : Act} {w w' : World} {u : Value} (h : ranV P o a w u w') : w' = w ∧ ∀ w2, (execOp a.eval o).run P w2 = .ok (.value u) w2 := by
  unfold isExtract at ho
  unfold ranV at h
  have key : ∀ (x : Operand) (i : Nat), o.op = .extract x i → w' = w ∧ ∀ w2, (execOp a.eval o).run P w2 = .ok (.value u) w2 := by
    intro x i hx
    have he : ∀ w2, (execOp a.eval o).run P w2 = ((Instr.extract (a.eval x) i).run P w2).andThen fun v w3 => .ok (.value v) w3 := fun w2 => by
      unfold execOp
      simp only [hx, Sem.run_bind, Sem.run_pure]
    rw [he] at h
    rcases extract_any (a.eval x) i P w w with ⟨v, h1, -⟩ | h1
    · rw [h1] at h
      simp only [Result.andThen_ok, oVal, Option.some.injEq, Prod.mk.injEq] at h
      obtain ⟨rfl, rfl⟩ := h
      refine ⟨rfl, fun w2 => ?_⟩
      rw [he]
      rcases extract_any (a.eval x) i P w w2 with ⟨v2, h2, h3⟩ | h2
      · rw [h1] at h2
        cases h2
        rw [h3]
        rfl
      · exact absurd h1 (h2 _ _)
    · generalize hr : (Instr.extract (a.eval x) i).run P w = r at h
      cases r with
      | ok v w1 => exact absurd hr (h1 _ _)
      | halt y w1 => simp [Result.andThen, oVal] at h
  cases hop : o.op with
  | extract x i => exact key x i hop
  | _ => rw [hop] at ho; cases ho

/-- whatever order is picked, as long as the head lasts; what stands behind the head is not looked at -/
def wpAnyQ (P : Program) (md : Region.Mode) (ops : Array Oper) (G : World → World → Prop) (W0 : World) (Sp : FuncId → Array Value → Value → World → Prop) (n : Nat) (L : Array Bool → Act → (World → Prop) → Prop) : Nat → Array Bool → Act → (World → Prop) → Prop
  | 0, listed, a, F => L listed a F
  | f + 1, listed, a, F =>
    (∃ i, i < n ∧ i ∈ Region.ready md ops listed) ∧ ∀ i ∈ Region.ready md ops listed, i < n → rOp P ops G W0 Sp i (wpAnyQ P md ops G W0 Sp n L f (listed.setIfInBounds i true)) a F

theorem wpAnyQ_first (R : RelLaw G Sp) {n i : Nat} {oi : Oper} {D : Value → Prop} {S : Value → World → Prop} {L : Array Bool → Act → (World → Prop) → Prop} (hi : ops[i]? = some oi) (hsel : ∀ (j : Nat) (o : Oper) cs b, ops[j]? = some o → o.op ≠ .select cs b)
    (hin : i < n) (hdone : ∀ listed a F, L listed a F → ∀ j ∈ Region.ready md ops listed, n ≤ j) :
    ∀ (f : Nat) (listed : Array Bool) (a : Act) (F : World → Prop), HeadInv md ops n listed →
      (∀ j oj, ops[j]? = some oj → j ≠ i → listed.getD j true = false → (∀ e ∈ oj.after, Region.binds md e = true → e.on ≠ i) → oi.apart ops oj = true) →
      i ∈ Region.ready md ops listed → YR P ops G W0 Sp oi a D S →
      (∀ v, D v → wpAnyQ P md ops G W0 Sp n L f (listed.setIfInBounds i true) (a.put oi.dst v) (fun w => F w ∧ S v w)) → wpAnyQ P md ops G W0 Sp n L (f + 1) listed a F := by
  intro f
  induction f with
  | zero =>
    intro listed a F inv _ hr hy H
    refine ⟨⟨i, hin, hr⟩, fun j hj hjn => ?_⟩
    by_cases hji : j = i
    · subst hji
      unfold rOp
      simp only [hi]
      exact ⟨D, S, hy, H⟩
    · obtain ⟨v0, hv0⟩ := hy.some R
      have := hdone _ _ _ (H v0 hv0) j (ready_mono hj hji)
      omega
  | succ f ih =>
    intro listed a F inv hfree hr hy H
    have hun := (mem_ready.1 hr).1
    refine ⟨⟨i, hin, hr⟩, fun j hj hjn => ?_⟩
    by_cases hji : j = i
    · subst hji
      unfold rOp
      simp only [hi]
      exact ⟨D, S, hy, H⟩
    · obtain ⟨hjun, oj, hoj, hall⟩ := mem_ready.1 hj
      have hnot : ∀ e ∈ oj.after, Region.binds md e = true → e.on ≠ i := fun e he hb heq => by
        have h1 := hall e he hb
        rw [heq, getD_both hun] at h1
        cases h1
      have h2 := rOp_put R hoj (hfree j oj hoj hji hjun hnot) (fun cs b => hsel i oi cs b hi) (fun cs b => hsel j oj cs b hoj) hy (fun v hv => (H v hv).2 j (ready_mono hj hji) hjn)
      have hfree' : ∀ k ok, ops[k]? = some ok → k ≠ i → (listed.setIfInBounds j true).getD k true = false →
          (∀ e ∈ ok.after, Region.binds md e = true → e.on ≠ i) → oi.apart ops ok = true := fun k ok hk hki hun hno => by
        refine hfree k ok hk hki ?_ hno
        by_cases hjk : j = k
        · subst hjk; exact hjun
        · rw [getD_set_ne true hjk] at hun; exact hun
      refine rOp_mono (fun a' F' h3 => ih (listed.setIfInBounds j true) a' F' (inv.set hj hjn) hfree' (ready_mono hr (Ne.symm hji)) h3.1 ?_) h2
      rw [Array.setIfInBounds_comm _ _ hji]
      exact h3.2

theorem wpAnyQ_lex (R : RelLaw G Sp) {n g : Nat} {Lq : Act → (World → Prop) → Prop} (hsel : Region.noSelect ops = true) :
    ∀ (l : List Oper) (k : Nat) (listed : Array Bool) (a : Act) (F : World → Prop), (∀ j, j < l.length → l[j]? = ops[k + j]?) → k + l.length = n → HeadInv md ops n listed →
    Region.lexHead md ops g l.length k listed = true → wpR P ops G W0 Sp Lq l a F →
    wpAnyQ P md ops G W0 Sp n (fun listed' a' F' => Region.seqB md ops g n listed' = true ∧ Lq a' F') l.length listed a F
  | [], k, listed, a, F, _, hk, _, hB, h => by
    have : k = n := by simpa using hk
    subst this
    exact ⟨by simpa [Region.lexHead] using hB, h⟩
  | o :: l, k, listed, a, F, hl, hk, inv, hB, h => by
    have h0 : ops[k]? = some o := by simpa using (hl 0 (by simp)).symm
    simp only [List.length_cons, Region.lexHead, Bool.and_eq_true] at hB
    obtain ⟨⟨hr, hf⟩, hB'⟩ := hB
    have hkn : k < n := by simp only [List.length_cons] at hk; omega
    have hr' : k ∈ Region.ready md ops listed := by simpa using hr
    obtain ⟨D, S, hy, hK⟩ := h
    exact wpAnyQ_first R h0 (Region.noSelect_spec hsel) hkn (fun listed' a' F' hL => seqB_ready hL.1) l.length listed a F inv (Region.free_spec h0 hf) hr' hy
      (fun v hv => wpAnyQ_lex R hsel l (k + 1) _ _ _ (fun j hj => by have := hl (j + 1) (by simp; omega); simpa [Nat.add_assoc, Nat.add_comm 1 j] using this) (by simp only [List.length_cons] at hk; omega) (inv.set hr' hkn) hB' (hK v hv))

/-- each operation of the head but the late ones is waited for, through others that are not late -/
def sinkL (md : Region.Mode) (ops : Array Oper) (late : List Nat) (n : Nat) : Bool :=
  (List.range n).all fun i => late.contains i || (List.range (n + 1)).any fun j => decide (i < j) && !late.contains j && Region.waitsFor md ops j i
/-- the late ones take results apart, and nothing behind the head, nor another late one, touches what they read or write, but where it waits for them -/
def lateB (md : Region.Mode) (ops : Array Oper) (late : List Nat) (n : Nat) : Bool :=
  late.all fun p => decide (p < n) && match ops[p]? with
    | none => false
    | some op => isExtract op && (List.range ops.size).all fun j => j == p || (decide (j < n) && !late.contains j) || match ops[j]? with
      | some oj => oj.after.any (fun e => Region.binds md e && e.on == p) || op.apart ops oj
      | none => true

theorem tail_waits_late {late : List Nat} {n : Nat} {listed : Array Bool} (hs : sinkL md ops late n = true) (hc : Region.chainB md ops n = true) (hn : n < ops.size) (inv : HeadInv md ops n listed) :
    ∀ (d i : Nat), n - i = d → i ∉ late → i < n → listed.getD i true = false → ∀ t, n ≤ t → t ∉ Region.ready md ops listed := by
  intro d
  induction d using Nat.strongRecOn with
  | _ d ih =>
    intro i hd hil hi hun t ht hr
    obtain ⟨_, ot, hot, hall⟩ := mem_ready.1 hr
    have htlt : t < ops.size := (Array.getElem?_eq_some_iff.1 hot).1
    by_cases htn : t = n
    · subst htn
      have h1 := List.all_eq_true.1 hs i (List.mem_range.2 hi)
      have hnk : late.contains i = false := by simpa using hil
      rw [hnk, Bool.false_or] at h1
      obtain ⟨j, hj, hj2⟩ := List.any_eq_true.1 h1
      simp only [Bool.and_eq_true, decide_eq_true_eq, Bool.not_eq_true'] at hj2
      obtain ⟨⟨hij, hjl⟩, hj2⟩ := hj2
      have hjl' : j ∉ late := by simpa using hjl
      obtain ⟨oj, hoj, e, he, hb, hon⟩ := Region.waitsFor_spec hj2
      have hjle : j ≤ t := by have := List.mem_range.1 hj; omega
      by_cases hjt : j = t
      · subst hjt
        have : oj = ot := Option.some.inj (hoj.symm.trans hot)
        subst this
        have h2 := hall e he hb
        rw [hon, getD_both hun] at h2
        cases h2
      · cases hl : listed.getD j false with
        | true =>
          have h2 := inv.closed j oj hoj hl e he hb
          rw [hon, getD_both hun] at h2
          cases h2
        | false =>
          have hjs : j < listed.size := by rw [inv.size]; omega
          exact ih (t - j) (by omega) j rfl hjl' (by omega) (getD_in hjs hl) t (Nat.le_refl _) hr
    · have h1 := List.all_eq_true.1 hc t (List.mem_range.2 htlt)
      simp only [Bool.or_eq_true, decide_eq_true_eq] at h1
      rcases h1 with h1 | h1
      · omega
      · obtain ⟨o', ho', e, he, hb, hon⟩ := Region.waitsFor_spec h1
        have : o' = ot := Option.some.inj (ho'.symm.trans hot)
        subst this
        have h2 := hall e he hb
        rw [hon, getD_both (inv.tail (t - 1) (by omega) (by omega))] at h2
        cases h2

theorem wpAny_of_Q (R : RelLaw G Sp) {late : List Nat} {n g : Nat} (hsel : Region.noSelect ops = true) (hs : sinkL md ops late n = true) (hlb : lateB md ops late n = true) (hc : Region.chainB md ops n = true) (hn : n < ops.size) {L : Array Bool → Act → (World → Prop) → Prop} {Q' : Exit → Act → World → Prop}
    (hQ : ∀ c a d v w, Q' (.panic c) (Act.put a d v) w → Q' (.panic c) a w) (hL : ∀ listed a F w, G W0 w → F w → L listed a F → wpAny P md ops Q' g listed a w) :
    ∀ (f : Nat) (listed : Array Bool) (a : Act) (F : World → Prop) (w : World), HeadInv md ops n listed → G W0 w → F w → (∀ w w', F w → G w w' → F w') → wpAnyQ P md ops G W0 Sp n L f listed a F → wpAny P md ops Q' (f + g) listed a w
  | 0, listed, a, F, w, inv, hG, hF, hst, h => by rw [Nat.zero_add]; exact hL _ _ _ _ hG hF h
  | f + 1, listed, a, F, w, inv, hG, hF, hst, h => by
    rw [show f + 1 + g = (f + g) + 1 by omega]
    obtain ⟨⟨i0, hi0, hr0⟩, hall⟩ := h
    by_cases hA : ∃ i, i < n ∧ i ∉ late ∧ listed.getD i true = false
    · obtain ⟨i, hin, hil, hun⟩ := hA
      have hw := tail_waits_late hs hc hn inv _ i rfl hil hin hun
      refine ⟨fun h0 => (by rw [h0] at hr0; cases hr0), fun j hj => ?_⟩
      have hjn : j < n := by
        rcases Nat.lt_or_ge j n with h | h
        · exact h
        · exact absurd hj (hw j h)
      exact wpOp_of_rOp R hG hF hst (fun a' F' w' hs' hG' hF' h' => wpAny_of_Q R hsel hs hlb hc hn hQ hL f _ a' F' w' (inv.set hj hjn) hG' hF' hs' h') (hall j hj hjn)
    · have hun0 := (mem_ready.1 hr0).1
      have hl0 : i0 ∈ late := Classical.byContradiction fun hnl => hA ⟨i0, hi0, hnl, hun0⟩
      have h1 := List.all_eq_true.1 hlb i0 hl0
      simp only [Bool.and_eq_true, decide_eq_true_eq] at h1
      obtain ⟨-, h1⟩ := h1
      obtain ⟨_, oi, hoi, _⟩ := mem_ready.1 hr0
      rw [hoi] at h1
      simp only [Bool.and_eq_true] at h1
      obtain ⟨hex, hfr⟩ := h1
      have hrop := hall i0 hr0 hi0
      unfold rOp at hrop
      simp only [hoi] at hrop
      obtain ⟨D, S, hy, hK⟩ := hrop
      have hfree : ∀ j oj, ops[j]? = some oj → j ≠ i0 → listed.getD j true = false → (∀ e ∈ oj.after, Region.binds md e = true → e.on ≠ i0) → oi.apart ops oj = true := fun j oj hj hne hun hno => by
        have h2 := List.all_eq_true.1 hfr j (List.mem_range.2 (Array.getElem?_eq_some_iff.1 hj).1)
        simp only [hj, Bool.or_eq_true, beq_iff_eq, Bool.and_eq_true, decide_eq_true_eq, Bool.not_eq_true'] at h2
        rcases h2 with (h2 | ⟨h2, h3⟩) | (h2 | h2)
        · exact absurd h2 hne
        · exact absurd ⟨j, h2, by simpa using h3, hun⟩ hA
        · obtain ⟨e, he, hb⟩ := Array.any_eq_true'.1 h2
          simp only [Bool.and_eq_true, beq_iff_eq] at hb
          exact absurd hb.2 (hno e he hb.1)
        · exact h2
      have go : ∀ v, D v → Yields P ops oi v a → F w ∧ S v w → wpAny P md ops Q' (f + g + 1) listed a w := fun v hv hyv hFS =>
        wpAny_first hoi (Region.noSelect_spec hsel) (fun c a' w' => hQ c a' oi.dst v w') _ listed a w hfree hr0 hyv
          (wpAny_of_Q R hsel hs hlb hc hn hQ hL f _ _ (fun w => F w ∧ S v w) w (inv.set hr0 hi0) hG hFS (fun w w' h1 h2 => ⟨hst _ _ h1.1 h2, hy.stable R v w w' h1.2 h2⟩) (hK v hv))
      rcases hy with ⟨hw, hv, rfl, rfl⟩ | ⟨hw, ff, args, hcl, rfl, rfl⟩ | ⟨hw, rfl, rfl⟩
      · obtain ⟨u, w', h2, h3⟩ := hv w hG
        obtain ⟨rfl, h4⟩ := extract_run hex h2
        exact go u ⟨_, _, hG, h2⟩ (.inl ⟨hw, h4⟩) ⟨hF, _, _, hG, h2, R.refl _⟩
      · exfalso
        have h2 := (hcl w hG).1
        unfold ranC at h2
        have : noEnter oi = true := by
          unfold isExtract at hex
          unfold noEnter
          cases hop : oi.op with
          | extract x i => rfl
          | _ => simp [hop] at hex
        exact noEnter_run this a P w ff args w h2
      · exact go undef rfl (.inr ⟨hw, rfl⟩) ⟨hF, trivial⟩

/-- the law's head: what is to be shown -/
def lexLate (md : Region.Mode) (ops : Array Oper) (late : List Nat) (n : Nat) : Bool :=
  Region.noSelect ops && decide (n < ops.size) && sinkL md ops late n && lateB md ops late n && Region.chainB md ops n && Region.lexHead md ops (ops.size - n) n 0 (Array.replicate ops.size false)
theorem any_late {Q : Exit → Act → World → Prop} {a : Act} {w : World} {l : List Oper} (R : RelLaw G Sp) (late : List Nat) (n : Nat) (hB : lexLate .any l.toArray late n = true) (hQ : ∀ c a d v w, Q (.panic c) (Act.put a d v) w → Q (.panic c) a w)
    (h : wpR P l.toArray G w Sp (fun a' F => ∀ w', G w w' → F w' → wpList P l.toArray Q (l.drop n) a' w') (l.take n) a (fun _ => True)) : wpAny P .any l.toArray Q l.toArray.size (Array.replicate l.toArray.size false) a w := by
  simp only [lexLate, Bool.and_eq_true, decide_eq_true_eq] at hB
  obtain ⟨⟨⟨⟨⟨hsel, hn⟩, hs⟩, hlb⟩, hc⟩, hlex⟩ := hB
  have hn' : n < l.length := by simpa using hn
  have htl : (l.take n).length = n := by simp; omega
  have hdl : (l.drop n).length = l.toArray.size - n := by simp
  have inv0 : HeadInv .any l.toArray n (Array.replicate l.toArray.size false) :=
    ⟨by simp, fun j oj _ hl => (by rw [getD_replicate_false] at hl; cases hl), fun t _ ht => getD_in (by simpa using ht) (getD_replicate_false _ _)⟩
  have H := wpAnyQ_lex (md := .any) R (g := l.toArray.size - n) hsel (l.take n) 0 _ a _ (fun j hj => by
    have hj' : j < n := by rw [htl] at hj; exact hj
    simp [hj']) (by simpa using htl) inv0 (by rw [htl]; exact hlex) h
  have := wpAny_of_Q (Q' := Q) R (g := l.toArray.size - n) hsel hs hlb hc hn hQ (fun listed a' F w' hG hF hL => by
    have := wpAny_of_seq (md := .any) (Q' := Q) (l.drop n) n listed a' w' (fun j => by simp [List.getElem?_drop]) (by rw [hdl]; exact hL.1) (hL.2 w' hG hF)
    rwa [hdl] at this) _ _ _ _ w inv0 (R.refl _) trivial (fun _ _ _ _ => trivial) H
  rw [htl, show n + (l.toArray.size - n) = l.toArray.size by omega] at this
  exact this
theorem wp_region_late {id : Nat} {Q : Exit → Act → World → Prop} {a : Act} {w : World} {l : List Oper} (R : RelLaw G Sp) (late : List Nat) (n : Nat) (hm : P.follows .mixedOrders = true) (hB : lexLate .any l.toArray late n = true) (hQ : ∀ c a d v w, Q (.panic c) (Act.put a d v) w → Q (.panic c) a w)
    (h : wpR P l.toArray G w.drew Sp (fun a' F => ∀ w', G w.drew w' → F w' → wpList P l.toArray Q (l.drop n) a' w') (l.take n) a (fun _ => True)) : (Code.region id l.toArray true).wp P Q a w :=
  wp_region_any hm (any_late R late n hB hQ h)
theorem round_late {m r : Nat} {id : Nat} {Q : Exit → Act → World → Prop} {a : Act} {w : World} {l : List Oper} (R : RelLaw G Sp) (late : List Nat) (n : Nat) (hd : noDefer l = true) (hLO : ¬ LetsOut Q) (hm : P.follows .mixedOrders = true) (hB : lexLate .any l.toArray late n = true) (hQ : ∀ c a d v w, Q (.panic c) (Act.put a d v) w → Q (.panic c) a w)
    (h : wpR P l.toArray G w.drew Sp (fun a' F => ∀ w', G w.drew w' → F w' → wpList P l.toArray Q (l.drop n) a' w') (l.take n) a (fun _ => True)) : (Code.region id l.toArray true).wpIn (Fence.wide.inRound r) m P Q a w :=
  round_any (by simpa using hd) hm hLO (any_late R late n hB hQ h)
end
end Go.Proofs.Ytdmnhkmpfnhmdaa
end

section
namespace Go.Proofs.Ytdmnhkmpfnhmdaa
set_option linter.unusedVariables false
open Go.RowKit
section
variable {P : Program} {ops : Array Oper} {G : World → World → Prop} {W0 : World} {Sp : FuncId → Array Value → Value → World → Prop}
/-- a call of a function by a value that a slot holds -/
theorem wpR_callV {Q : Act → (World → Prop) → Prop} {o : Oper} {rest : List Oper} {a : Act} {F : World → Prop} (f : FuncId) (c : Operand) (xs : Array Operand) (ts : Array TypeId) (ho : o.op = .call { callee := .value c, args := xs, argTypes := ts }) (hw : Region.wanted o (yielded ops a.tmps) = true)
    (hcv : a.eval c = .func (.func f) #[] #[])
    {fn : Func} (hf : P.funcs[f]? = some fn) (hname : (fn.name == "runtime.NumGoroutine") = false) (hb : fn.body.isSome = true) (args : Array Value) (hargs : xs.map a.eval = args)
    (hc : ∀ w, G W0 w → Calls P f args w (fun e w'' => ∃ v, e = .returned v ∧ Sp f args v w'' ∧ G w w''))
    (h : ∀ v, (∃ w, G W0 w ∧ Sp f args v w) → wpR P ops G W0 Sp Q rest (a.put o.dst v) (fun w => F w ∧ Sp f args v w)) : wpR P ops G W0 Sp Q (o :: rest) a F := by
  refine wpR_call f args hw (fun w => ?_) hc h
  unfold execOp
  simp only [ho, resolve, hcv, Deferred.ofValue, Sem.run_bind, Sem.run_pure, Result.andThen_ok, invoke, Array.append_empty]
  have he : (#[] ++ Array.map (fun x => a.eval x) xs) = args := by simpa using hargs
  have he2 : (#[] : Array Value) ++ Array.map a.eval xs ++ #[] = args := by simpa using hargs
  first
    | (rw [he]; exact run_enter hf hname hb args w)
    | (rw [he2]; exact run_enter hf hname hb args w)
    | (simp [hargs]; exact run_enter hf hname hb args w)
end
/-- a call whose value is known -/
def SpV (u : Value) (_ : FuncId) (_ : Array Value) (v : Value) (_ : World) : Prop := v = u
theorem spV_law (u : Value) : RelLaw (Step []) (SpV u) where
  refl := fun w => Step.refl [] w
  trans := fun w w' w'' h h' => h.then h' (by simp)
  stable := fun f args v w w' h hs => h
end Go.Proofs.Ytdmnhkmpfnhmdaa
end

section
namespace Go.Proofs.Ytdmnhkmpfnhmdaa
set_option linter.unusedVariables false
open Go.RowKit
theorem anti_tailW {P : Program} {ops : Array Oper} {Q : Exit → Act → World → Prop} {l : List Oper} {G : World → World → Prop} {W0 : World} (a : Act) (F F' : World → Prop) (h : ∀ w, F' w → F w)
    (hQ : ∀ w', G W0 w' → F w' → wpList P ops Q l a w') : ∀ w', G W0 w' → F' w' → wpList P ops Q l a w' := fun w' hg hf => hQ w' hg (h w' hf)
/-- a pointer to a block that was made since B -/
def SpN (B : Nat) (C : Array Value) (T : TypeId) (v : Value) (w : World) : Prop := ∃ b, v = .pointer (some ⟨b, 0, none⟩) ∧ Blk w b C T ∧ B ≤ b
theorem spN_step (B : Nat) (C : Array Value) (T : TypeId) : ∀ v w w', SpN B C T v w → Step [] w w' → SpN B C T v w' := fun v w w' ⟨b, h1, h2, h3⟩ hs => ⟨b, h1, h2.step hs (by simp), h3⟩
end Go.Proofs.Ytdmnhkmpfnhmdaa
end

section
namespace Go.Proofs.Ytdmnhkmpfnhmdaa
set_option linter.unusedVariables false
open Go.RowKit

/-- what a call gives that makes bytes: they stand in its result where mk says -/
def SpB (base : Nat) (l : List UInt8) (mk : Value → Value) : FuncId → Array Value → Value → World → Prop := fun _ _ v w => ∃ u, v = mk u ∧ w.ownsRow base 5 1 u l.length (l.map byteVal)
theorem spB_law (base : Nat) (l : List UInt8) (mk : Value → Value) : RelLaw (Step []) (SpB base l mk) :=
  ⟨Step.refl [], fun _ _ _ h1 h2 => h1.then h2 (by simp), fun _ _ _ _ _ ⟨u, h1, h2⟩ hs => ⟨u, h1, owns_step h2 hs (by simp)⟩⟩
end Go.Proofs.Ytdmnhkmpfnhmdaa
end

section
namespace Go.Proofs.Ytdmnhkmpfnhmdaa
set_option linter.unusedVariables false
open Go.RowKit
def Dj (F G : List Nat) : Prop := ∀ k, k ∈ F → k ∉ G
theorem Dj.symm {F G : List Nat} (h : Dj F G) : Dj G F := fun k hg hf => h k hf hg
theorem Dj.fresh {F G G' : List Nat} {w : World} (h : Dj F G) (hl : ∀ k, k ∈ F → k < w.heap.size) (hf : Fresh w G G') : Dj F G' := fun k hk hg =>
  (hf k hg).elim (h k hk) (fun h2 => by have := hl k hk; omega)
end Go.Proofs.Ytdmnhkmpfnhmdaa
end

section
namespace Go.Proofs.Ytdmnhkmpfnhmdaa
set_option linter.unusedVariables false
open Go.RowKit
section
variable {F : Fence} {n : Nat} {P : Program} {α : Type}

/-- what an iterator does, whatever the loop: it may turn its own blocks G alone, which the loop's invariant J knows; a round leaves G and R as they were -/
def SeqSep (F : Fence) (n : Nat) (P : Program) (gf : Nat) (lb : Array Value) (encs : α → Array Value) (R : List Nat) (V S Sp : List α → Prop) (Pre : World → Prop) : Prop :=
  ∀ (l : Nat) (J Jx : List α → World → List Nat → Prop) (W : World), Pre W →
    (∀ s A B G G', J s A G → Step G A B → Fresh A G G' → Live B G' → J s B G') →
    (∀ s A B G G', Jx s A G → Step G A B → Fresh A G G' → Live B G' → Jx s B G') →
    (∀ pre x A G, J pre A G → V (pre ++ [x]) → YieldAt F (n - 1) P l (encs x) A fun e B =>
      (e = .returned (.bool true) ∧ J (pre ++ [x]) B G ∧ ∃ H, Step H A B ∧ Dj (R ++ G) H) ∨ (e = .returned (.bool false) ∧ Jx (pre ++ [x]) B G ∧ ∃ H, Step H A B ∧ Dj (R ++ G) H)) →
    J [] W [] →
    CallsIn F n P gf (#[.func (.yield l) #[] #[]] ++ lb) W fun e B => (∃ v, e = .returned v) ∧ ((∃ xs G, S xs ∧ J xs B G) ∨ (∃ pre G, Sp pre ∧ Jx pre B G))
theorem SeqSep.inRound {gf : Nat} {lb : Array Value} {encs : α → Array Value} {R : List Nat} {V S Sp : List α → Prop} {Pre : World → Prop} (l : Nat) (h : SeqSep F n P gf lb encs R V S Sp Pre) : SeqSep (F.inRound l) n P gf lb encs R V S Sp Pre := h

/-- how a round may be left -/
def postSep (I : List α → World → List Nat → Prop) (Ix : Code → List α → World → List Nat → Prop) (xs : List α) (A : World) (C : List Nat) : Exit → Act → World → Prop
  | .normal, _, B => ∃ C', I xs B C' ∧ Step C A B ∧ Fresh A C C'
  | .ret, _, B => ∃ C', Ix .ret xs B C' ∧ Step C A B ∧ Fresh A C C'
  | .exit id, _, B => ∃ C', Ix (.exit id) xs B C' ∧ Step C A B ∧ Fresh A C C'
  | .goto t, _, B => ∃ C', Ix (.goto t) xs B C' ∧ Step C A B ∧ Fresh A C C'
  | _, _, _ => False

theorem step_put {W : World} {l : Nat} (o : Obj) : Step [l] W (W.putObj l o) := by
  exact (Step.refl [l] W).grown (grownBy_putObj' W l o) (fun k e => by cases e; exact .inl (by simp))

/-- the loop's own: its invariant, apart from the iterator's blocks; its record; some blocks that nobody turns -/
def JSep (l : Nat) (X : List Nat) (W1 : World) (I : List α → World → List Nat → Prop) (r : Loop) (s : List α) (A : World) (G : List Nat) : Prop :=
  Live A G ∧ l ∉ G ∧ Dj X G ∧ ∃ C, I s A C ∧ Dj C G ∧ l ∉ C ∧ Dj X C ∧ A.heap[l]? = some (.loop r) ∧ (∀ k, k ∈ X → k < A.heap.size ∧ A.heap[k]? = W1.heap[k]?)

theorem JSep.step {l : Nat} {X : List Nat} {W1 A B : World} {I : List α → World → List Nat → Prop} {r : Loop} {s : List α} {G G' : List Nat} (h : JSep l X W1 I r s A G)
    (hIs : ∀ s A B C H, I s A C → Step H A B → Dj C H → I s B C) (hIl : ∀ s A C, I s A C → Live A C) (hs : Step G A B) (hf : Fresh A G G') (hl : Live B G') : JSep l X W1 I r s B G' := by
  obtain ⟨h1, h2, h3, C, h4, h5, h6, h7, h8, h9⟩ := h
  have hlA : l < A.heap.size := (Array.getElem?_eq_some_iff.1 h8).1
  refine ⟨hl, fun hm => ?_, fun k hk hm => ?_, C, hIs _ _ _ _ _ h4 hs h5, h5.fresh (hIl _ _ _ h4) hf, h6, h7, (hs.block l hlA h2).trans h8, fun k hk => ⟨Nat.lt_of_lt_of_le (h9 k hk).1 hs.size, (hs.block k (h9 k hk).1 (h3 k hk)).trans (h9 k hk).2⟩⟩
  · rcases hf l hm with h | h
    · exact h2 h
    · omega
  · rcases hf k hm with h | h
    · exact h3 k hk h
    · have := (h9 k hk).1
      omega

theorem rangeSep_core {Q : Exit → Act → World → Prop} {a a2 : Act} {gf : Nat} {lb : Array Value} {encs : α → Array Value} {R : List Nat} {V S Sp : List α → Prop} {Pre : World → Prop} {W1 : World} {l : Nat} {X : List Nat} {fn : FuncId} {ps : Array Tmp} {assign body : Code} {df : Nat}
    (hfn : F.fn fn) (hseq : SeqSep F (n - 1) P gf lb encs R V S Sp Pre) (hPre : Pre W1) (hps : ∀ x, (encs x).size = ps.size)
    (hl : W1.heap[l]? = some (.loop { state := .ready, pending := none, fn, tmps := a.tmps, params := ps, assign, body, defers := df })) (hX : ∀ k, k ∈ X → k < W1.heap.size) (hlX : l ∉ X) (hlR : l ∉ R)
    (I : List α → World → List Nat → Prop) (Ix : Code → List α → World → List Nat → Prop)
    (hIs : ∀ s A B C H, I s A C → Step H A B → Dj C H → I s B C) (hIl : ∀ s A C, I s A C → Live A C) (hIR : ∀ s A C, I s A C → Dj R C)
    (hXs : ∀ c s A B C H, Ix c s A C → Step H A B → Dj C H → Ix c s B C) (hXl : ∀ c s A C, Ix c s A C → Live A C)
    (C0 : List Nat) (h0 : I [] W1 C0) (hlC : l ∉ C0) (hXC : Dj X C0) (Ax : α → Act → World → Prop) (hAx : ∀ x a' A B b r, Ax x a' A → A.heap[b]? = some (.loop r) → Step [b] A B → Ax x a' B)
    (hassign : ∀ (pre : List α) (x : α) (A : World) (C : List Nat) (K : Act → World → Prop), I pre A C → (∀ a' A', Step [] A A' → Ax x a' A' → K a' A') →
      assign.wpIn (F.inRound l) (n - 1 - 1) P (Exit.then K (fun _ _ _ => False)) { tmps := (ps.zip (encs x)).foldl (fun t (p, v) => t.setIfInBounds p v) a.tmps, defers := [] } A)
    (hbody : ∀ (pre : List α) (x : α) (a' : Act) (A : World) (C : List Nat), (∃ r, A.heap[l]? = some (.loop r)) → l ∉ C → V (pre ++ [x]) → I pre A C → Ax x a' A → body.wpIn (F.inRound l) (n - 1 - 1) P (postSep I Ix (pre ++ [x]) A C) a' A)
    (hdone : ∀ (xs : List α) (B : World) (C : List Nat), S xs → I xs B C → (∀ k, k ∈ X → k ∉ C ∧ B.heap[k]? = W1.heap[k]?) → Q .normal a2 B)
    (hstop : ∀ (c : Code) (pre : List α) (B : World) (C : List Nat), Sp pre → Ix c pre B C → (∀ k, k ∈ X → k ∉ C ∧ B.heap[k]? = W1.heap[k]?) → c.wpIn F n P Q a2 B) :
    CallsIn F (n - 1) P gf (#[.func (.yield l) #[] #[]] ++ lb) W1 (rangePost F n P l Q a2) := by
  have hl1 : l < W1.heap.size := (Array.getElem?_eq_some_iff.1 hl).1
  refine (hseq l (JSep l X W1 I { state := .ready, pending := none, fn, tmps := a.tmps, params := ps, assign, body, defers := df })
    (fun s A G => ∃ c, JSep l X W1 (Ix c) { state := .done, pending := some c, fn, tmps := a.tmps, params := ps, assign, body, defers := df } s A G) W1 hPre
    (fun s A B G G' h hs hf hl => h.step hIs hIl hs hf hl) (fun s A B G G' ⟨c, h⟩ hs hf hl => ⟨c, h.step (hXs c) (hXl c) hs hf hl⟩) ?_
    ⟨fun k hk => absurd hk List.not_mem_nil, List.not_mem_nil, fun k hk => List.not_mem_nil, C0, h0, fun k hk => List.not_mem_nil, hlC, hXC, hl, fun k hk => ⟨hX k hk, rfl⟩⟩).mono ?_
  · rintro pre x A G ⟨j1, j2, j3, C, j4, j5, j6, j7, j8, j9⟩ hV
    have hy := run_yield (P := P) (args := encs x) j8 (hps x)
    refine ⟨fn, _, assign, body, hy, roundIn_of_wpIn hfn (hassign pre x A C _ j4 ?_)⟩
    intro a' A1 s1 hax
    have jl := hIl _ _ _ j4
    have lA : l < A.heap.size := (Array.getElem?_eq_some_iff.1 j8).1
    have k8 := (s1.block l lA (by simp)).trans j8
    have lA1 : l < A1.heap.size := (Array.getElem?_eq_some_iff.1 k8).1
    refine ⟨_, run_beginRound k8 rfl, ?_⟩
    have s2 : Step [l] A1 (A1.putObj l _) := step_put (.loop { state := .busy, pending := none, fn, tmps := a.tmps, params := ps, assign, body, defers := df })
    have k2 : (A1.putObj l (.loop { state := .busy, pending := none, fn, tmps := a.tmps, params := ps, assign, body, defers := df })).heap[l]? = some (.loop { state := .busy, pending := none, fn, tmps := a.tmps, params := ps, assign, body, defers := df }) := World.putObj_heap_same lA1
    generalize hA2 : A1.putObj l (.loop { state := .busy, pending := none, fn, tmps := a.tmps, params := ps, assign, body, defers := df }) = A2 at s2 k2
    have i2 : I pre A2 C := hIs _ _ _ _ _ (hIs _ _ _ _ _ j4 s1 (fun k _ => List.not_mem_nil)) s2 (fun k hk hm => by simp at hm; subst hm; exact j6 hk)
    refine wpIn_mono (hbody pre x a' A2 C ⟨_, k2⟩ j6 hV i2 (hAx _ _ _ _ _ _ hax k8 s2)) ?_
    have lA2 : l < A2.heap.size := (Array.getElem?_eq_some_iff.1 k2).1
    have hsz : A.heap.size ≤ A2.heap.size := Nat.le_trans s1.size s2.size
    -- what lies behind a round
    have fin : ∀ (jump : Option Code) (st : LoopState) (pe : Option Code) (I2 : List α → World → List Nat → Prop) (hs2 : ∀ s A B C H, I2 s A C → Step H A B → Dj C H → I2 s B C) (A3 : World) (C' : List Nat), I2 (pre ++ [x]) A3 C' → Step C A2 A3 → Fresh A2 C C' →
        (st = if jump.isNone then .ready else .done) → pe = jump →
        (Instr.endRound l jump).run P A3 = .ok (.bool jump.isNone) (A3.putObj l (.loop { state := st, pending := pe, fn, tmps := a.tmps, params := ps, assign, body, defers := df })) ∧
        JSep l X W1 I2 { state := st, pending := pe, fn, tmps := a.tmps, params := ps, assign, body, defers := df } (pre ++ [x]) (A3.putObj l (.loop { state := st, pending := pe, fn, tmps := a.tmps, params := ps, assign, body, defers := df })) G ∧
        Step (l :: C) A (A3.putObj l (.loop { state := st, pending := pe, fn, tmps := a.tmps, params := ps, assign, body, defers := df })) := by
      intro jump st pe I2 hs2 A3 C' i3 s3 f3 hst hpe
      have k3 := (s3.block l lA2 j6).trans k2
      have lA3 : l < A3.heap.size := (Array.getElem?_eq_some_iff.1 k3).1
      have s4 : Step [l] A3 (A3.putObj l (.loop { state := st, pending := pe, fn, tmps := a.tmps, params := ps, assign, body, defers := df })) := step_put _
      have lC' : l ∉ C' := fun hm => by
        rcases f3 l hm with h | h
        · exact j6 h
        · omega
      have s04 : Step (l :: C) A (A3.putObj l (.loop { state := st, pending := pe, fn, tmps := a.tmps, params := ps, assign, body, defers := df })) :=
        (((s1.mono (G := l :: C) (by simp)).then s2 (by simp)).then s3 (fun k hk => .inl (by simp [hk]))).then s4 (by simp)
      have dGC' : Dj C' G := fun k hk hg => by
        rcases f3 k hk with h | h
        · exact j5 k h hg
        · have := j1 k hg
          omega
      refine ⟨by rw [run_endRound (P := P) jump k3, hst, hpe], ⟨fun k hk => Nat.lt_of_lt_of_le (j1 k hk) s04.size, j2, j3, C', hs2 _ _ _ _ _ i3 s4 (fun k hk hm => by simp at hm; subst hm; exact lC' hk), dGC', lC', fun k hk hm => ?_, World.putObj_heap_same lA3, fun k hk => ?_⟩, s04⟩
      · rcases f3 k hm with h | h
        · exact j7 k hk h
        · have := (j9 k hk).1
          omega
      · have hkl : k ≠ l := fun e => by subst e; exact hlX hk
        refine ⟨Nat.lt_of_lt_of_le (j9 k hk).1 s04.size, (s04.block k (j9 k hk).1 (fun hm => ?_)).trans (j9 k hk).2⟩
        rcases List.mem_cons.1 hm with h | h
        · exact hkl h
        · exact j7 k hk h
    have hdj : Dj (R ++ G) (l :: C) := fun k hk hm => by
      rcases List.mem_append.1 hk with hk | hk <;> rcases List.mem_cons.1 hm with h | h
      · subst h
        exact hlR hk
      · exact hIR _ _ _ j4 k hk h
      · subst h
        exact j2 hk
      · exact j5 k h hk
    rintro e a3 A3 hp
    cases e with
    | normal =>
      obtain ⟨C', i3, s3, f3⟩ := hp
      obtain ⟨hr, hj, hs⟩ := fin none .ready none I hIs A3 C' i3 s3 f3 rfl rfl
      exact ⟨_, _, hr, .inl ⟨rfl, hj, l :: C, hs, hdj⟩⟩
    | ret =>
      obtain ⟨C', i3, s3, f3⟩ := hp
      obtain ⟨hr, hj, hs⟩ := fin (some .ret) .done (some .ret) (Ix .ret) (hXs _) A3 C' i3 s3 f3 rfl rfl
      exact ⟨_, _, hr, .inr ⟨rfl, ⟨_, hj⟩, l :: C, hs, hdj⟩⟩
    | exit id =>
      obtain ⟨C', i3, s3, f3⟩ := hp
      obtain ⟨hr, hj, hs⟩ := fin (some (.exit id)) .done (some (.exit id)) (Ix (.exit id)) (hXs _) A3 C' i3 s3 f3 rfl rfl
      exact ⟨_, _, hr, .inr ⟨rfl, ⟨_, hj⟩, l :: C, hs, hdj⟩⟩
    | goto t =>
      obtain ⟨C', i3, s3, f3⟩ := hp
      obtain ⟨hr, hj, hs⟩ := fin (some (.goto t)) .done (some (.goto t)) (Ix (.goto t)) (hXs _) A3 C' i3 s3 f3 rfl rfl
      exact ⟨_, _, hr, .inr ⟨rfl, ⟨_, hj⟩, l :: C, hs, hdj⟩⟩
    | panic ch => exact hp.elim
    | outgrown => exact hp.elim
  · have hput : ∀ {I2 : List α → World → List Nat → Prop} {r r' : Loop} {s : List α} {B : World} {G : List Nat}, (∀ s A B C H, I2 s A C → Step H A B → Dj C H → I2 s B C) → JSep l X W1 I2 r s B G → ∃ C, I2 s (B.putObj l (.loop r')) C ∧ ∀ k, k ∈ X → k ∉ C ∧ (B.putObj l (.loop r')).heap[k]? = W1.heap[k]? := by
      rintro I2 r r' s B G hs2 ⟨h1, h2, h3, C, h4, h5, h6, h7, h8, h9⟩
      refine ⟨C, hs2 _ _ _ _ _ h4 (step_put _) (fun k hk hm => by simp at hm; subst hm; exact h6 hk), fun k hk => ⟨h7 k hk, ?_⟩⟩
      have hkl : k ≠ l := fun e => by subst e; exact hlX hk
      exact ((step_put (W := B) (l := l) (.loop r')).block k (h9 k hk).1 (by simpa using hkl)).trans (h9 k hk).2
    rintro e B ⟨⟨v, rfl⟩, (⟨xs, G, hS, hj⟩ | ⟨pre, G, hSp, c, hj⟩)⟩
    · obtain ⟨C, hi, hk⟩ := hput (r' := { state := .exhausted, pending := none, fn, tmps := a.tmps, params := ps, assign, body, defers := df }) hIs hj
      obtain ⟨_, _, _, _, _, _, _, _, hr, _⟩ := hj
      exact ⟨none, _, run_endLoop (P := P) hr (by simp), hdone xs _ C hS hi hk⟩
    · obtain ⟨C, hi, hk⟩ := hput (r' := { state := .exhausted, pending := some c, fn, tmps := a.tmps, params := ps, assign, body, defers := df }) (hXs c) hj
      obtain ⟨_, _, _, _, _, _, _, _, hr, _⟩ := hj
      exact ⟨some c, _, run_endLoop (P := P) hr (by simp), hstop c pre _ C hSp hi hk⟩

/-- a range over a function: outermost -/
theorem wpIn_range_sep {g : Operand} {ps : Array Tmp} {assign body : Code} {Q : Exit → Act → World → Prop} {a : Act} {w : World}
    (hro : F.round = none) (h1 : 1 ≤ n) {gf : Nat} {lb : Array Value} (hg : a.eval g = .func (.func gf) #[] lb) (hFg : F.fn gf) (eg : ∀ args w, (callFunc gf args).run P w = .ok (.enter gf args) w)
    {encs : α → Array Value} {R : List Nat} {V S Sp : List α → Prop} {Pre : World → Prop} (hseq : SeqSep F (n - 1) P gf lb encs R V S Sp Pre) (hPre : ∀ W, Step [] w W → Pre W) (hps : ∀ x, (encs x).size = ps.size) (hR : Live w R)
    (I : List α → World → List Nat → Prop) (Ix : Code → List α → World → List Nat → Prop)
    (hIs : ∀ s A B C H, I s A C → Step H A B → Dj C H → I s B C) (hIl : ∀ s A C, I s A C → Live A C) (hIR : ∀ s A C, I s A C → Dj R C)
    (hXs : ∀ c s A B C H, Ix c s A C → Step H A B → Dj C H → Ix c s B C) (hXl : ∀ c s A C, Ix c s A C → Live A C)
    (C0 : List Nat) (h0 : I [] w C0) (Ax : α → Act → World → Prop) (hAx : ∀ x a' A B b r, Ax x a' A → A.heap[b]? = some (.loop r) → Step [b] A B → Ax x a' B)
    (hassign : ∀ (l : Nat) (pre : List α) (x : α) (A : World) (C : List Nat) (K : Act → World → Prop), I pre A C → (∀ a' A', Step [] A A' → Ax x a' A' → K a' A') →
      assign.wpIn (F.inRound l) (n - 1 - 1) P (Exit.then K (fun _ _ _ => False)) { tmps := (ps.zip (encs x)).foldl (fun t (p, v) => t.setIfInBounds p v) a.tmps, defers := [] } A)
    (hbody : ∀ (l : Nat) (pre : List α) (x : α) (a' : Act) (A : World) (C : List Nat), (∃ r, A.heap[l]? = some (.loop r)) → l ∉ C → V (pre ++ [x]) → I pre A C → Ax x a' A → body.wpIn (F.inRound l) (n - 1 - 1) P (postSep I Ix (pre ++ [x]) A C) a' A)
    (hdone : ∀ (D : Nat) (xs : List α) (B : World) (C : List Nat), w.heap.size ≤ D → D ∉ C → S xs → I xs B C → B.heap[D]? = some (.deferred (some [])) → Q .normal { a with defers := { target := .collected D, args := #[] } :: a.defers } B)
    (hstop : ∀ (D : Nat) (c : Code) (pre : List α) (B : World) (C : List Nat), w.heap.size ≤ D → D ∉ C → Sp pre → Ix c pre B C → B.heap[D]? = some (.deferred (some [])) → c.wpIn F n P Q { a with defers := { target := .collected D, args := #[] } :: a.defers } B) :
    (Code.rangeFunc g ps assign body).wpIn F n P Q a w := by
  refine wpIn_rangeFunc ?_
  intro fn hfn
  rw [hro]
  obtain ⟨W1, hW1⟩ : ∃ W1, (w.alloc (.deferred (some []))).alloc (.loop { state := .ready, pending := none, fn, tmps := a.tmps, params := ps, assign, body, defers := w.heap.size }) = W1 := ⟨_, rfl⟩
  have hL1 : W1.heap[w.heap.size + 1]? = some (.loop { state := .ready, pending := none, fn, tmps := a.tmps, params := ps, assign, body, defers := w.heap.size }) := by
    rw [← hW1]; have := World.alloc_heap_new (w.alloc (.deferred (some []))) (.loop { state := .ready, pending := none, fn, tmps := a.tmps, params := ps, assign, body, defers := w.heap.size }); rwa [World.size_alloc] at this
  have hK1 : W1.heap[w.heap.size]? = some (.deferred (some [])) := by
    rw [← hW1]; exact (Below.heap_alloc _ _ _ (by simp)).trans (World.alloc_heap_new w _)
  have hs1 : Step [] w W1 := by
    rw [← hW1]
    exact ((Step.refl [] w).alloc _).alloc _
  have hsz : W1.heap.size = w.heap.size + 1 + 1 := by rw [← hW1, World.size_alloc, World.size_alloc]
  have hl0 := hIl _ _ _ h0
  refine ⟨w.heap.size + 1, [{ target := .collected w.heap.size, args := #[] }], W1, { target := .fn (.func gf) lb, args := #[.func (.yield (w.heap.size + 1)) #[] #[]] }, W1, gf,
    #[.func (.yield (w.heap.size + 1)) #[] #[]] ++ lb, W1, ?_, ?_, ?_, ?_, fun _ => h1, ?_⟩
  · rw [← hW1]; exact run_enterLoop_outer _ _ _ _ _
  · simp only [resolve, hg]
    simp [go_sem]
  · intro f' hf'; simp [Target.leads] at hf'; subst hf'; exact hFg
  · simp [invoke, go_sem, eg]
  · refine rangeSep_core (X := [w.heap.size]) hfn hseq (hPre W1 hs1) hps hL1 (fun k hk => by simp at hk; subst hk; omega) (by simp) (fun hm => by have := hR _ hm; omega) I Ix hIs hIl hIR hXs hXl C0 (hIs _ _ _ _ _ h0 hs1 (fun k _ => List.not_mem_nil)) (fun hm => by have := hl0 _ hm; omega) (fun k hk hm => by simp at hk; subst hk; have := hl0 _ hm; omega) Ax hAx (hassign _) (hbody _) ?_ ?_
    · intro xs B C hS hi hk
      obtain ⟨hk1, hk2⟩ := hk w.heap.size (by simp)
      exact hdone _ xs B C (Nat.le_refl _) hk1 hS hi (hk2.trans hK1)
    · intro c pre B C hS hi hk
      obtain ⟨hk1, hk2⟩ := hk w.heap.size (by simp)
      exact hstop _ c pre B C (Nat.le_refl _) hk1 hS hi (hk2.trans hK1)
/-- a range over a function within a round of another -/
theorem wpIn_range_sepN {g : Operand} {ps : Array Tmp} {assign body : Code} {Q : Exit → Act → World → Prop} {a : Act} {w : World}
    {l₀ : Nat} (hro : F.round = some l₀) (hl₀ : ∃ r₀, w.heap[l₀]? = some (.loop r₀)) (h1 : 1 ≤ n) {gf : Nat} {lb : Array Value} (hg : a.eval g = .func (.func gf) #[] lb) (hFg : F.fn gf) (eg : ∀ args w, (callFunc gf args).run P w = .ok (.enter gf args) w)
    {encs : α → Array Value} {R : List Nat} {V S Sp : List α → Prop} {Pre : World → Prop} (hseq : SeqSep F (n - 1) P gf lb encs R V S Sp Pre) (hPre : ∀ W, Step [] w W → Pre W) (hps : ∀ x, (encs x).size = ps.size) (hR : Live w R)
    (I : List α → World → List Nat → Prop) (Ix : Code → List α → World → List Nat → Prop)
    (hIs : ∀ s A B C H, I s A C → Step H A B → Dj C H → I s B C) (hIl : ∀ s A C, I s A C → Live A C) (hIR : ∀ s A C, I s A C → Dj R C)
    (hXs : ∀ c s A B C H, Ix c s A C → Step H A B → Dj C H → Ix c s B C) (hXl : ∀ c s A C, Ix c s A C → Live A C)
    (C0 : List Nat) (h0 : I [] w C0) (Ax : α → Act → World → Prop) (hAx : ∀ x a' A B b r, Ax x a' A → A.heap[b]? = some (.loop r) → Step [b] A B → Ax x a' B)
    (hassign : ∀ (l : Nat) (pre : List α) (x : α) (A : World) (C : List Nat) (K : Act → World → Prop), I pre A C → (∀ a' A', Step [] A A' → Ax x a' A' → K a' A') →
      assign.wpIn (F.inRound l) (n - 1 - 1) P (Exit.then K (fun _ _ _ => False)) { tmps := (ps.zip (encs x)).foldl (fun t (p, v) => t.setIfInBounds p v) a.tmps, defers := [] } A)
    (hbody : ∀ (l : Nat) (pre : List α) (x : α) (a' : Act) (A : World) (C : List Nat), (∃ r, A.heap[l]? = some (.loop r)) → l ∉ C → V (pre ++ [x]) → I pre A C → Ax x a' A → body.wpIn (F.inRound l) (n - 1 - 1) P (postSep I Ix (pre ++ [x]) A C) a' A)
    (hdone : ∀ (xs : List α) (B : World) (C : List Nat), S xs → I xs B C → Q .normal a B)
    (hstop : ∀ (c : Code) (pre : List α) (B : World) (C : List Nat), Sp pre → Ix c pre B C → c.wpIn F n P Q a B) :
    (Code.rangeFunc g ps assign body).wpIn F n P Q a w := by
  obtain ⟨r₀, hl₀⟩ := hl₀
  refine wpIn_rangeFunc ?_
  intro fn hfn
  rw [hro]
  obtain ⟨W1, hW1⟩ : ∃ W1, w.alloc (.loop { state := .ready, pending := none, fn, tmps := a.tmps, params := ps, assign, body, defers := r₀.defers }) = W1 := ⟨_, rfl⟩
  have hL1 : W1.heap[w.heap.size]? = some (.loop { state := .ready, pending := none, fn, tmps := a.tmps, params := ps, assign, body, defers := r₀.defers }) := by rw [← hW1]; exact World.alloc_heap_new w _
  have hs1 : Step [] w W1 := by
    rw [← hW1]
    exact (Step.refl [] w).alloc _
  have hl0 := hIl _ _ _ h0
  refine ⟨w.heap.size, [], W1, { target := .fn (.func gf) lb, args := #[.func (.yield w.heap.size) #[] #[]] }, W1, gf,
    #[.func (.yield w.heap.size) #[] #[]] ++ lb, W1, ?_, ?_, ?_, ?_, fun _ => h1, ?_⟩
  · rw [← hW1]; exact run_enterLoop_inner hl₀ _ _ _ _ _
  · simp only [resolve, hg]
    simp [go_sem]
  · intro f' hf'; simp [Target.leads] at hf'; subst hf'; exact hFg
  · simp [invoke, go_sem, eg]
  · exact rangeSep_core (X := []) hfn hseq (hPre W1 hs1) hps hL1 (fun k hk => absurd hk List.not_mem_nil) List.not_mem_nil (fun hm => by have := hR _ hm; omega) I Ix hIs hIl hIR hXs hXl C0 (hIs _ _ _ _ _ h0 hs1 (fun k _ => List.not_mem_nil)) (fun hm => by have := hl0 _ hm; omega) (fun k hk => absurd hk List.not_mem_nil) Ax hAx (hassign _) (hbody _)
      (fun xs B C hS hi _ => hdone xs B C hS hi) (fun c pre B C hS hi _ => hstop c pre B C hS hi)
end
end Go.Proofs.Ytdmnhkmpfnhmdaa
end

section
namespace Go.Proofs.Ytdmnhkmpfnhmdaa
set_option linter.unusedVariables false
open Go.RowKit
/-- of the blocks below n those that are not of R -/
def offR (R : List Nat) (n : Nat) : List Nat := (List.range n).filter fun k => decide (k ∉ R)
theorem mem_offR {R : List Nat} {n k : Nat} : k ∈ offR R n ↔ k < n ∧ k ∉ R := by
  unfold offR
  rw [List.mem_filter, List.mem_range]
  simp
theorem offR_dj {R : List Nat} {n : Nat} : Dj R (offR R n) := fun k hk hm => (mem_offR.1 hm).2 hk
theorem Step.undo {F : List Nat} {w w' : World} (h : Step F w w') (hk : ∀ k, k ∈ F → w'.heap[k]? = w.heap[k]?) : Step [] w w' :=
  ⟨h.os, h.tape, h.output, h.size, fun k hlt _ => if hF : k ∈ F then hk k hF else h.block k hlt hF⟩
/-- a step apart from what is off R turns R alone, or what is new -/
theorem Step.off {R H : List Nat} {n : Nat} {w A B : World} (h : Step R w A) (hs : Step H A B) (hd : Dj (offR R n) H) (hn : w.heap.size ≤ n) : Step R w B :=
  h.then hs (fun k hk => by
    by_cases hR : k ∈ R
    · exact .inl hR
    · rcases Nat.lt_or_ge k n with hlt | hge
      · exact absurd hk (hd k (mem_offR.2 ⟨hlt, hR⟩))
      · exact .inr (by omega))
section
variable {F : Fence} {n : Nat} {P : Program} {α : Type}

/-- what an iterator does, whatever the loop: it may turn its own blocks G alone, which the loop's invariant J knows; what it hands over has blocks (bx x) that were its own; a round leaves G and R as they were -/
def SeqSepV (F : Fence) (n : Nat) (P : Program) (gf : Nat) (lb : Array Value) (encs : α → Array Value) (bx : α → List Nat) (R : List Nat) (V : List α → World → Prop) (S Sp : List α → Prop) (Pre : World → Prop) : Prop :=
  ∀ (l : Nat) (J Jx : List α → World → List Nat → Prop) (W : World), Pre W →
    (∀ s A B G G', J s A G → Step G A B → Fresh A G G' → Live B G' → J s B G') →
    (∀ s A B G G', Jx s A G → Step G A B → Fresh A G G' → Live B G' → Jx s B G') →
    (∀ pre x A G, J pre A (bx x ++ G) → V (pre ++ [x]) A → Dj (bx x) (R ++ G) → YieldAt F (n - 1) P l (encs x) A fun e B =>
      (e = .returned (.bool true) ∧ J (pre ++ [x]) B G ∧ ∃ H, Step H A B ∧ Dj (R ++ G) H) ∨ (e = .returned (.bool false) ∧ Jx (pre ++ [x]) B G ∧ ∃ H, Step H A B ∧ Dj (R ++ G) H)) →
    J [] W [] →
    CallsIn F n P gf (#[.func (.yield l) #[] #[]] ++ lb) W fun e B => (∃ v, e = .returned v) ∧ ((∃ xs G, S xs ∧ J xs B G) ∨ (∃ pre G, Sp pre ∧ Jx pre B G))

theorem rangeSepV_core {Q : Exit → Act → World → Prop} {a a2 : Act} {gf : Nat} {lb : Array Value} {encs : α → Array Value} {bx : α → List Nat} {R : List Nat} {V : List α → World → Prop} {S Sp : List α → Prop} {Pre : World → Prop} {W1 : World} {l : Nat} {X : List Nat} {fn : FuncId} {ps : Array Tmp} {assign body : Code} {df : Nat}
    (hfn : F.fn fn) (hseq : SeqSepV F (n - 1) P gf lb encs bx R V S Sp Pre) (hPre : Pre W1) (hps : ∀ x, (encs x).size = ps.size)
    (hl : W1.heap[l]? = some (.loop { state := .ready, pending := none, fn, tmps := a.tmps, params := ps, assign, body, defers := df })) (hX : ∀ k, k ∈ X → k < W1.heap.size) (hlX : l ∉ X) (hlR : l ∉ R)
    (I : List α → World → List Nat → Prop) (Ix : Code → List α → World → List Nat → Prop)
    (hIs : ∀ s A B C H, I s A C → Step H A B → Dj C H → I s B C) (hIl : ∀ s A C, I s A C → Live A C) (hIR : ∀ s A C, I s A C → Dj R C)
    (hXs : ∀ c s A B C H, Ix c s A C → Step H A B → Dj C H → Ix c s B C) (hXl : ∀ c s A C, Ix c s A C → Live A C)
    (C0 : List Nat) (h0 : I [] W1 C0) (hlC : l ∉ C0) (hXC : Dj X C0) (Ax : List α → α → Act → World → List Nat → Prop) (hAx : ∀ pre x a' A B C b r, Ax pre x a' A C → A.heap[b]? = some (.loop r) → b ∉ C → b ∉ bx x → Step [b] A B → Ax pre x a' B C)
    (hassign : ∀ (pre : List α) (x : α) (A : World) (C : List Nat) (K : Act → World → Prop), I pre A C → V (pre ++ [x]) A → Live A (bx x) → Dj C (bx x) → Dj R (bx x) → (∀ a' A', Step [] A A' → Ax pre x a' A' C → K a' A') →
      assign.wpIn (F.inRound l) (n - 1 - 1) P (Exit.then K (fun _ _ _ => False)) { tmps := (ps.zip (encs x)).foldl (fun t (p, v) => t.setIfInBounds p v) a.tmps, defers := [] } A)
    (hbody : ∀ (pre : List α) (x : α) (a' : Act) (A : World) (C : List Nat), (∃ r, A.heap[l]? = some (.loop r)) → l ∉ C → l ∉ bx x → Live A (bx x) → Dj C (bx x) → Dj R (bx x) → I pre A C → Ax pre x a' A C → body.wpIn (F.inRound l) (n - 1 - 1) P (postSep I Ix (pre ++ [x]) A (C ++ bx x)) a' A)
    (hdone : ∀ (xs : List α) (B : World) (C : List Nat), S xs → I xs B C → (∀ k, k ∈ X → k ∉ C ∧ B.heap[k]? = W1.heap[k]?) → Q .normal a2 B)
    (hstop : ∀ (c : Code) (pre : List α) (B : World) (C : List Nat), Sp pre → Ix c pre B C → (∀ k, k ∈ X → k ∉ C ∧ B.heap[k]? = W1.heap[k]?) → c.wpIn F n P Q a2 B) :
    CallsIn F (n - 1) P gf (#[.func (.yield l) #[] #[]] ++ lb) W1 (rangePost F n P l Q a2) := by
  have hl1 : l < W1.heap.size := (Array.getElem?_eq_some_iff.1 hl).1
  refine (hseq l (JSep l X W1 I { state := .ready, pending := none, fn, tmps := a.tmps, params := ps, assign, body, defers := df })
    (fun s A G => ∃ c, JSep l X W1 (Ix c) { state := .done, pending := some c, fn, tmps := a.tmps, params := ps, assign, body, defers := df } s A G) W1 hPre
    (fun s A B G G' h hs hf hl => h.step hIs hIl hs hf hl) (fun s A B G G' ⟨c, h⟩ hs hf hl => ⟨c, h.step (hXs c) (hXl c) hs hf hl⟩) ?_
    ⟨fun k hk => absurd hk List.not_mem_nil, List.not_mem_nil, fun k hk => List.not_mem_nil, C0, h0, fun k hk => List.not_mem_nil, hlC, hXC, hl, fun k hk => ⟨hX k hk, rfl⟩⟩).mono ?_
  · rintro pre x A G ⟨j1, j2, j3, C, j4, j5, j6, j7, j8, j9⟩ hV hxRG
    have hy := run_yield (P := P) (args := encs x) j8 (hps x)
    have xl : Live A (bx x) := fun k hk => j1 k (List.mem_append_left _ hk)
    have xC : Dj C (bx x) := fun k hk hm => j5 k hk (List.mem_append_left _ hm)
    have xR : Dj R (bx x) := fun k hk hm => hxRG k hm (List.mem_append_left _ hk)
    have lx : l ∉ bx x := fun hm => j2 (List.mem_append_left _ hm)
    refine ⟨fn, _, assign, body, hy, roundIn_of_wpIn hfn (hassign pre x A C _ j4 hV xl xC xR ?_)⟩
    intro a' A1 s1 hax
    have jl := hIl _ _ _ j4
    have lA : l < A.heap.size := (Array.getElem?_eq_some_iff.1 j8).1
    have k8 := (s1.block l lA (by simp)).trans j8
    have lA1 : l < A1.heap.size := (Array.getElem?_eq_some_iff.1 k8).1
    refine ⟨_, run_beginRound k8 rfl, ?_⟩
    have s2 : Step [l] A1 (A1.putObj l _) := step_put (.loop { state := .busy, pending := none, fn, tmps := a.tmps, params := ps, assign, body, defers := df })
    have k2 : (A1.putObj l (.loop { state := .busy, pending := none, fn, tmps := a.tmps, params := ps, assign, body, defers := df })).heap[l]? = some (.loop { state := .busy, pending := none, fn, tmps := a.tmps, params := ps, assign, body, defers := df }) := World.putObj_heap_same lA1
    generalize hA2 : A1.putObj l (.loop { state := .busy, pending := none, fn, tmps := a.tmps, params := ps, assign, body, defers := df }) = A2 at s2 k2
    have i2 : I pre A2 C := hIs _ _ _ _ _ (hIs _ _ _ _ _ j4 s1 (fun k _ => List.not_mem_nil)) s2 (fun k hk hm => by simp at hm; subst hm; exact j6 hk)
    have lA2 : l < A2.heap.size := (Array.getElem?_eq_some_iff.1 k2).1
    have hsz : A.heap.size ≤ A2.heap.size := Nat.le_trans s1.size s2.size
    refine wpIn_mono (hbody pre x a' A2 C ⟨_, k2⟩ j6 lx (fun k hk => Nat.lt_of_lt_of_le (xl k hk) hsz) xC xR i2 (hAx _ _ _ _ _ _ _ _ hax k8 j6 lx s2)) ?_
    -- what lies behind a round
    have fin : ∀ (jump : Option Code) (st : LoopState) (pe : Option Code) (I2 : List α → World → List Nat → Prop) (hs2 : ∀ s A B C H, I2 s A C → Step H A B → Dj C H → I2 s B C) (A3 : World) (C' : List Nat), I2 (pre ++ [x]) A3 C' → Step (C ++ bx x) A2 A3 → Fresh A2 (C ++ bx x) C' →
        (st = if jump.isNone then .ready else .done) → pe = jump →
        (Instr.endRound l jump).run P A3 = .ok (.bool jump.isNone) (A3.putObj l (.loop { state := st, pending := pe, fn, tmps := a.tmps, params := ps, assign, body, defers := df })) ∧
        JSep l X W1 I2 { state := st, pending := pe, fn, tmps := a.tmps, params := ps, assign, body, defers := df } (pre ++ [x]) (A3.putObj l (.loop { state := st, pending := pe, fn, tmps := a.tmps, params := ps, assign, body, defers := df })) G ∧
        Step (l :: (C ++ bx x)) A (A3.putObj l (.loop { state := st, pending := pe, fn, tmps := a.tmps, params := ps, assign, body, defers := df })) := by
      intro jump st pe I2 hs2 A3 C' i3 s3 f3 hst hpe
      have k3 := (s3.block l lA2 (fun hm => (List.mem_append.1 hm).elim j6 lx)).trans k2
      have lA3 : l < A3.heap.size := (Array.getElem?_eq_some_iff.1 k3).1
      have s4 : Step [l] A3 (A3.putObj l (.loop { state := st, pending := pe, fn, tmps := a.tmps, params := ps, assign, body, defers := df })) := step_put _
      have lC' : l ∉ C' := fun hm => by
        rcases f3 l hm with h | h
        · exact (List.mem_append.1 h).elim j6 lx
        · omega
      have s04 : Step (l :: (C ++ bx x)) A (A3.putObj l (.loop { state := st, pending := pe, fn, tmps := a.tmps, params := ps, assign, body, defers := df })) :=
        (((s1.mono (G := l :: (C ++ bx x)) (by simp)).then s2 (by simp)).then s3 (fun k hk => .inl (List.mem_cons_of_mem _ hk))).then s4 (by simp)
      have dGC' : Dj C' G := fun k hk hg => by
        rcases f3 k hk with h | h
        · rcases List.mem_append.1 h with h | h
          · exact j5 k h (List.mem_append_right _ hg)
          · exact hxRG k h (List.mem_append_right _ hg)
        · have := j1 k (List.mem_append_right _ hg)
          omega
      refine ⟨by rw [run_endRound (P := P) jump k3, hst, hpe], ⟨fun k hk => Nat.lt_of_lt_of_le (j1 k (List.mem_append_right _ hk)) s04.size, fun hm => j2 (List.mem_append_right _ hm), fun k hk hm => j3 k hk (List.mem_append_right _ hm), C', hs2 _ _ _ _ _ i3 s4 (fun k hk hm => by simp at hm; subst hm; exact lC' hk), dGC', lC', fun k hk hm => ?_, World.putObj_heap_same lA3, fun k hk => ?_⟩, s04⟩
      · rcases f3 k hm with h | h
        · rcases List.mem_append.1 h with h | h
          · exact j7 k hk h
          · exact j3 k hk (List.mem_append_left _ h)
        · have := (j9 k hk).1
          omega
      · have hkl : k ≠ l := fun e => by subst e; exact hlX hk
        refine ⟨Nat.lt_of_lt_of_le (j9 k hk).1 s04.size, (s04.block k (j9 k hk).1 (fun hm => ?_)).trans (j9 k hk).2⟩
        rcases List.mem_cons.1 hm with h | h
        · exact hkl h
        · rcases List.mem_append.1 h with h | h
          · exact j7 k hk h
          · exact j3 k hk (List.mem_append_left _ h)
    have hdj : Dj (R ++ G) (l :: (C ++ bx x)) := fun k hk hm => by
      rcases List.mem_append.1 hk with hk | hk
      · rcases List.mem_cons.1 hm with h | h
        · subst h
          exact hlR hk
        · rcases List.mem_append.1 h with h | h
          · exact hIR _ _ _ j4 k hk h
          · exact xR k hk h
      · rcases List.mem_cons.1 hm with h | h
        · subst h
          exact j2 (List.mem_append_right _ hk)
        · rcases List.mem_append.1 h with h | h
          · exact j5 k h (List.mem_append_right _ hk)
          · exact hxRG k h (List.mem_append_right _ hk)
    rintro e a3 A3 hp
    cases e with
    | normal =>
      obtain ⟨C', i3, s3, f3⟩ := hp
      obtain ⟨hr, hj, hs⟩ := fin none .ready none I hIs A3 C' i3 s3 f3 rfl rfl
      exact ⟨_, _, hr, .inl ⟨rfl, hj, _, hs, hdj⟩⟩
    | ret =>
      obtain ⟨C', i3, s3, f3⟩ := hp
      obtain ⟨hr, hj, hs⟩ := fin (some .ret) .done (some .ret) (Ix .ret) (hXs _) A3 C' i3 s3 f3 rfl rfl
      exact ⟨_, _, hr, .inr ⟨rfl, ⟨_, hj⟩, _, hs, hdj⟩⟩
    | exit id =>
      obtain ⟨C', i3, s3, f3⟩ := hp
      obtain ⟨hr, hj, hs⟩ := fin (some (.exit id)) .done (some (.exit id)) (Ix (.exit id)) (hXs _) A3 C' i3 s3 f3 rfl rfl
      exact ⟨_, _, hr, .inr ⟨rfl, ⟨_, hj⟩, _, hs, hdj⟩⟩
    | goto t =>
      obtain ⟨C', i3, s3, f3⟩ := hp
      obtain ⟨hr, hj, hs⟩ := fin (some (.goto t)) .done (some (.goto t)) (Ix (.goto t)) (hXs _) A3 C' i3 s3 f3 rfl rfl
      exact ⟨_, _, hr, .inr ⟨rfl, ⟨_, hj⟩, _, hs, hdj⟩⟩
    | panic ch => exact hp.elim
    | outgrown => exact hp.elim
  · have hput : ∀ {I2 : List α → World → List Nat → Prop} {r r' : Loop} {s : List α} {B : World} {G : List Nat}, (∀ s A B C H, I2 s A C → Step H A B → Dj C H → I2 s B C) → JSep l X W1 I2 r s B G → ∃ C, I2 s (B.putObj l (.loop r')) C ∧ ∀ k, k ∈ X → k ∉ C ∧ (B.putObj l (.loop r')).heap[k]? = W1.heap[k]? := by
      rintro I2 r r' s B G hs2 ⟨h1, h2, h3, C, h4, h5, h6, h7, h8, h9⟩
      refine ⟨C, hs2 _ _ _ _ _ h4 (step_put _) (fun k hk hm => by simp at hm; subst hm; exact h6 hk), fun k hk => ⟨h7 k hk, ?_⟩⟩
      have hkl : k ≠ l := fun e => by subst e; exact hlX hk
      exact ((step_put (W := B) (l := l) (.loop r')).block k (h9 k hk).1 (by simpa using hkl)).trans (h9 k hk).2
    rintro e B ⟨⟨v, rfl⟩, (⟨xs, G, hS, hj⟩ | ⟨pre, G, hSp, c, hj⟩)⟩
    · obtain ⟨C, hi, hk⟩ := hput (r' := { state := .exhausted, pending := none, fn, tmps := a.tmps, params := ps, assign, body, defers := df }) hIs hj
      obtain ⟨_, _, _, _, _, _, _, _, hr, _⟩ := hj
      exact ⟨none, _, run_endLoop (P := P) hr (by simp), hdone xs _ C hS hi hk⟩
    · obtain ⟨C, hi, hk⟩ := hput (r' := { state := .exhausted, pending := some c, fn, tmps := a.tmps, params := ps, assign, body, defers := df }) (hXs c) hj
      obtain ⟨_, _, _, _, _, _, _, _, hr, _⟩ := hj
      exact ⟨some c, _, run_endLoop (P := P) hr (by simp), hstop c pre _ C hSp hi hk⟩

/-- a range over a function: outermost -/
theorem wpIn_range_sepV {g : Operand} {ps : Array Tmp} {assign body : Code} {Q : Exit → Act → World → Prop} {a : Act} {w : World}
    (hro : F.round = none) (h1 : 1 ≤ n) {gf : Nat} {lb : Array Value} (hg : a.eval g = .func (.func gf) #[] lb) (hFg : F.fn gf) (eg : ∀ args w, (callFunc gf args).run P w = .ok (.enter gf args) w)
    {encs : α → Array Value} {bx : α → List Nat} {R : List Nat} {V : List α → World → Prop} {S Sp : List α → Prop} {Pre : World → Prop} (hseq : SeqSepV F (n - 1) P gf lb encs bx R V S Sp Pre) (hPre : ∀ W, Step [] w W → Pre W) (hps : ∀ x, (encs x).size = ps.size) (hR : Live w R)
    (I : List α → World → List Nat → Prop) (Ix : Code → List α → World → List Nat → Prop)
    (hIs : ∀ s A B C H, I s A C → Step H A B → Dj C H → I s B C) (hIl : ∀ s A C, I s A C → Live A C) (hIR : ∀ s A C, I s A C → Dj R C)
    (hXs : ∀ c s A B C H, Ix c s A C → Step H A B → Dj C H → Ix c s B C) (hXl : ∀ c s A C, Ix c s A C → Live A C)
    (C0 : List Nat) (h0 : I [] w C0) (Ax : List α → α → Act → World → List Nat → Prop) (hAx : ∀ pre x a' A B C b r, Ax pre x a' A C → A.heap[b]? = some (.loop r) → b ∉ C → b ∉ bx x → Step [b] A B → Ax pre x a' B C)
    (hassign : ∀ (l : Nat) (pre : List α) (x : α) (A : World) (C : List Nat) (K : Act → World → Prop), I pre A C → V (pre ++ [x]) A → Live A (bx x) → Dj C (bx x) → Dj R (bx x) → (∀ a' A', Step [] A A' → Ax pre x a' A' C → K a' A') →
      assign.wpIn (F.inRound l) (n - 1 - 1) P (Exit.then K (fun _ _ _ => False)) { tmps := (ps.zip (encs x)).foldl (fun t (p, v) => t.setIfInBounds p v) a.tmps, defers := [] } A)
    (hbody : ∀ (l : Nat) (pre : List α) (x : α) (a' : Act) (A : World) (C : List Nat), (∃ r, A.heap[l]? = some (.loop r)) → l ∉ C → l ∉ bx x → Live A (bx x) → Dj C (bx x) → Dj R (bx x) → I pre A C → Ax pre x a' A C → body.wpIn (F.inRound l) (n - 1 - 1) P (postSep I Ix (pre ++ [x]) A (C ++ bx x)) a' A)
    (hdone : ∀ (D : Nat) (xs : List α) (B : World) (C : List Nat), w.heap.size ≤ D → D ∉ C → S xs → I xs B C → B.heap[D]? = some (.deferred (some [])) → Q .normal { a with defers := { target := .collected D, args := #[] } :: a.defers } B)
    (hstop : ∀ (D : Nat) (c : Code) (pre : List α) (B : World) (C : List Nat), w.heap.size ≤ D → D ∉ C → Sp pre → Ix c pre B C → B.heap[D]? = some (.deferred (some [])) → c.wpIn F n P Q { a with defers := { target := .collected D, args := #[] } :: a.defers } B) :
    (Code.rangeFunc g ps assign body).wpIn F n P Q a w := by
  refine wpIn_rangeFunc ?_
  intro fn hfn
  rw [hro]
  obtain ⟨W1, hW1⟩ : ∃ W1, (w.alloc (.deferred (some []))).alloc (.loop { state := .ready, pending := none, fn, tmps := a.tmps, params := ps, assign, body, defers := w.heap.size }) = W1 := ⟨_, rfl⟩
  have hL1 : W1.heap[w.heap.size + 1]? = some (.loop { state := .ready, pending := none, fn, tmps := a.tmps, params := ps, assign, body, defers := w.heap.size }) := by
    rw [← hW1]; have := World.alloc_heap_new (w.alloc (.deferred (some []))) (.loop { state := .ready, pending := none, fn, tmps := a.tmps, params := ps, assign, body, defers := w.heap.size }); rwa [World.size_alloc] at this
  have hK1 : W1.heap[w.heap.size]? = some (.deferred (some [])) := by
    rw [← hW1]; exact (Below.heap_alloc _ _ _ (by simp)).trans (World.alloc_heap_new w _)
  have hs1 : Step [] w W1 := by
    rw [← hW1]
    exact ((Step.refl [] w).alloc _).alloc _
  have hsz : W1.heap.size = w.heap.size + 1 + 1 := by rw [← hW1, World.size_alloc, World.size_alloc]
  have hl0 := hIl _ _ _ h0
  refine ⟨w.heap.size + 1, [{ target := .collected w.heap.size, args := #[] }], W1, { target := .fn (.func gf) lb, args := #[.func (.yield (w.heap.size + 1)) #[] #[]] }, W1, gf,
    #[.func (.yield (w.heap.size + 1)) #[] #[]] ++ lb, W1, ?_, ?_, ?_, ?_, fun _ => h1, ?_⟩
  · rw [← hW1]; exact run_enterLoop_outer _ _ _ _ _
  · simp only [resolve, hg]
    simp [go_sem]
  · intro f' hf'; simp [Target.leads] at hf'; subst hf'; exact hFg
  · simp [invoke, go_sem, eg]
  · refine rangeSepV_core (X := [w.heap.size]) hfn hseq (hPre W1 hs1) hps hL1 (fun k hk => by simp at hk; subst hk; omega) (by simp) (fun hm => by have := hR _ hm; omega) I Ix hIs hIl hIR hXs hXl C0 (hIs _ _ _ _ _ h0 hs1 (fun k _ => List.not_mem_nil)) (fun hm => by have := hl0 _ hm; omega) (fun k hk hm => by simp at hk; subst hk; have := hl0 _ hm; omega) Ax hAx (hassign _) (hbody _) ?_ ?_
    · intro xs B C hS hi hk
      obtain ⟨hk1, hk2⟩ := hk w.heap.size (by simp)
      exact hdone _ xs B C (Nat.le_refl _) hk1 hS hi (hk2.trans hK1)
    · intro c pre B C hS hi hk
      obtain ⟨hk1, hk2⟩ := hk w.heap.size (by simp)
      exact hstop _ c pre B C (Nat.le_refl _) hk1 hS hi (hk2.trans hK1)
/-- a range over a function: outermost; some blocks (Y) that neither the iterator nor the body turns -/
theorem wpIn_range_sepVX {g : Operand} {ps : Array Tmp} {assign body : Code} {Q : Exit → Act → World → Prop} {a : Act} {w : World}
    (hro : F.round = none) (h1 : 1 ≤ n) {gf : Nat} {lb : Array Value} (hg : a.eval g = .func (.func gf) #[] lb) (hFg : F.fn gf) (eg : ∀ args w, (callFunc gf args).run P w = .ok (.enter gf args) w)
    {encs : α → Array Value} {bx : α → List Nat} {R : List Nat} {V : List α → World → Prop} {S Sp : List α → Prop} {Pre : World → Prop} (hseq : SeqSepV F (n - 1) P gf lb encs bx R V S Sp Pre) (hPre : ∀ W, Step [] w W → Pre W) (hps : ∀ x, (encs x).size = ps.size) (hR : Live w R)
    (I : List α → World → List Nat → Prop) (Ix : Code → List α → World → List Nat → Prop)
    (hIs : ∀ s A B C H, I s A C → Step H A B → Dj C H → I s B C) (hIl : ∀ s A C, I s A C → Live A C) (hIR : ∀ s A C, I s A C → Dj R C)
    (hXs : ∀ c s A B C H, Ix c s A C → Step H A B → Dj C H → Ix c s B C) (hXl : ∀ c s A C, Ix c s A C → Live A C)
    (C0 Y : List Nat) (hY : Live w Y) (hYC : Dj Y C0) (h0 : I [] w C0) (Ax : List α → α → Act → World → List Nat → Prop) (hAx : ∀ pre x a' A B C b r, Ax pre x a' A C → A.heap[b]? = some (.loop r) → b ∉ C → b ∉ bx x → Step [b] A B → Ax pre x a' B C)
    (hassign : ∀ (l : Nat) (pre : List α) (x : α) (A : World) (C : List Nat) (K : Act → World → Prop), I pre A C → V (pre ++ [x]) A → Live A (bx x) → Dj C (bx x) → Dj R (bx x) → (∀ a' A', Step [] A A' → Ax pre x a' A' C → K a' A') →
      assign.wpIn (F.inRound l) (n - 1 - 1) P (Exit.then K (fun _ _ _ => False)) { tmps := (ps.zip (encs x)).foldl (fun t (p, v) => t.setIfInBounds p v) a.tmps, defers := [] } A)
    (hbody : ∀ (l : Nat) (pre : List α) (x : α) (a' : Act) (A : World) (C : List Nat), (∃ r, A.heap[l]? = some (.loop r)) → l ∉ C → l ∉ bx x → Live A (bx x) → Dj C (bx x) → Dj R (bx x) → I pre A C → Ax pre x a' A C → body.wpIn (F.inRound l) (n - 1 - 1) P (postSep I Ix (pre ++ [x]) A (C ++ bx x)) a' A)
    (hdone : ∀ (D : Nat) (xs : List α) (B : World) (C : List Nat), w.heap.size ≤ D → D ∉ C → S xs → I xs B C → B.heap[D]? = some (.deferred (some [])) → (∀ k, k ∈ Y → B.heap[k]? = w.heap[k]?) → Q .normal { a with defers := { target := .collected D, args := #[] } :: a.defers } B)
    (hstop : ∀ (D : Nat) (c : Code) (pre : List α) (B : World) (C : List Nat), w.heap.size ≤ D → D ∉ C → Sp pre → Ix c pre B C → B.heap[D]? = some (.deferred (some [])) → (∀ k, k ∈ Y → B.heap[k]? = w.heap[k]?) → c.wpIn F n P Q { a with defers := { target := .collected D, args := #[] } :: a.defers } B) :
    (Code.rangeFunc g ps assign body).wpIn F n P Q a w := by
  refine wpIn_rangeFunc ?_
  intro fn hfn
  rw [hro]
  obtain ⟨W1, hW1⟩ : ∃ W1, (w.alloc (.deferred (some []))).alloc (.loop { state := .ready, pending := none, fn, tmps := a.tmps, params := ps, assign, body, defers := w.heap.size }) = W1 := ⟨_, rfl⟩
  have hL1 : W1.heap[w.heap.size + 1]? = some (.loop { state := .ready, pending := none, fn, tmps := a.tmps, params := ps, assign, body, defers := w.heap.size }) := by
    rw [← hW1]; have := World.alloc_heap_new (w.alloc (.deferred (some []))) (.loop { state := .ready, pending := none, fn, tmps := a.tmps, params := ps, assign, body, defers := w.heap.size }); rwa [World.size_alloc] at this
  have hK1 : W1.heap[w.heap.size]? = some (.deferred (some [])) := by
    rw [← hW1]; exact (Below.heap_alloc _ _ _ (by simp)).trans (World.alloc_heap_new w _)
  have hs1 : Step [] w W1 := by
    rw [← hW1]
    exact ((Step.refl [] w).alloc _).alloc _
  have hsz : W1.heap.size = w.heap.size + 1 + 1 := by rw [← hW1, World.size_alloc, World.size_alloc]
  have hl0 := hIl _ _ _ h0
  refine ⟨w.heap.size + 1, [{ target := .collected w.heap.size, args := #[] }], W1, { target := .fn (.func gf) lb, args := #[.func (.yield (w.heap.size + 1)) #[] #[]] }, W1, gf,
    #[.func (.yield (w.heap.size + 1)) #[] #[]] ++ lb, W1, ?_, ?_, ?_, ?_, fun _ => h1, ?_⟩
  · rw [← hW1]; exact run_enterLoop_outer _ _ _ _ _
  · simp only [resolve, hg]
    simp [go_sem]
  · intro f' hf'; simp [Target.leads] at hf'; subst hf'; exact hFg
  · simp [invoke, go_sem, eg]
  · have hkw : ∀ k, k < w.heap.size → W1.heap[k]? = w.heap[k]? := fun k hk => hs1.block k hk (by simp)
    have hXl1 : ∀ k, k ∈ w.heap.size :: Y → k < W1.heap.size := fun k hk => by
      rcases List.mem_cons.1 hk with rfl | hk
      · omega
      · have := hY k hk
        omega
    have hXl2 : w.heap.size + 1 ∉ w.heap.size :: Y := fun hm => by
      rcases List.mem_cons.1 hm with h | h
      · omega
      · have := hY _ h
        omega
    have hXC : Dj (w.heap.size :: Y) C0 := fun k hk hm => by
      rcases List.mem_cons.1 hk with rfl | hk
      · have := hl0 _ hm
        omega
      · exact hYC k hk hm
    refine rangeSepV_core (X := w.heap.size :: Y) hfn hseq (hPre W1 hs1) hps hL1 hXl1 hXl2 (fun hm => by have := hR _ hm; omega) I Ix hIs hIl hIR hXs hXl C0 (hIs _ _ _ _ _ h0 hs1 (fun k _ => List.not_mem_nil)) (fun hm => by have := hl0 _ hm; omega) hXC Ax hAx (hassign _) (hbody _) ?_ ?_
    · intro xs B C hS hi hk
      obtain ⟨hk1, hk2⟩ := hk w.heap.size (by simp)
      exact hdone _ xs B C (Nat.le_refl _) hk1 hS hi (hk2.trans hK1) (fun k h => ((hk k (List.mem_cons_of_mem _ h)).2).trans (hkw k (hY k h)))
    · intro c pre B C hS hi hk
      obtain ⟨hk1, hk2⟩ := hk w.heap.size (by simp)
      exact hstop _ c pre B C (Nat.le_refl _) hk1 hS hi (hk2.trans hK1) (fun k h => ((hk k (List.mem_cons_of_mem _ h)).2).trans (hkw k (hY k h)))
theorem SeqSep.toV {gf : Nat} {lb : Array Value} {encs : α → Array Value} {R : List Nat} {V S Sp : List α → Prop} {Pre : World → Prop} (h : SeqSep F n P gf lb encs R V S Sp Pre) : SeqSepV F n P gf lb encs (fun _ => []) R (fun s _ => V s) S Sp Pre :=
  fun l J Jx W hP hJ hJx hY h0 => h l J Jx W hP hJ hJx (fun pre x A G hj hV => hY pre x A G hj hV (fun k hk => absurd hk List.not_mem_nil)) h0
/-- a range over a function within a round of another -/
theorem wpIn_range_sepVN {g : Operand} {ps : Array Tmp} {assign body : Code} {Q : Exit → Act → World → Prop} {a : Act} {w : World}
    {l₀ : Nat} (hro : F.round = some l₀) (hl₀ : ∃ r₀, w.heap[l₀]? = some (.loop r₀)) (h1 : 1 ≤ n) {gf : Nat} {lb : Array Value} (hg : a.eval g = .func (.func gf) #[] lb) (hFg : F.fn gf) (eg : ∀ args w, (callFunc gf args).run P w = .ok (.enter gf args) w)
    {encs : α → Array Value} {bx : α → List Nat} {R : List Nat} {V : List α → World → Prop} {S Sp : List α → Prop} {Pre : World → Prop} (hseq : SeqSepV F (n - 1) P gf lb encs bx R V S Sp Pre) (hPre : ∀ W, Step [] w W → Pre W) (hps : ∀ x, (encs x).size = ps.size) (hR : Live w R)
    (I : List α → World → List Nat → Prop) (Ix : Code → List α → World → List Nat → Prop)
    (hIs : ∀ s A B C H, I s A C → Step H A B → Dj C H → I s B C) (hIl : ∀ s A C, I s A C → Live A C) (hIR : ∀ s A C, I s A C → Dj R C)
    (hXs : ∀ c s A B C H, Ix c s A C → Step H A B → Dj C H → Ix c s B C) (hXl : ∀ c s A C, Ix c s A C → Live A C)
    (C0 : List Nat) (h0 : I [] w C0) (Ax : List α → α → Act → World → List Nat → Prop) (hAx : ∀ pre x a' A B C b r, Ax pre x a' A C → A.heap[b]? = some (.loop r) → b ∉ C → b ∉ bx x → Step [b] A B → Ax pre x a' B C)
    (hassign : ∀ (l : Nat) (pre : List α) (x : α) (A : World) (C : List Nat) (K : Act → World → Prop), I pre A C → V (pre ++ [x]) A → Live A (bx x) → Dj C (bx x) → Dj R (bx x) → (∀ a' A', Step [] A A' → Ax pre x a' A' C → K a' A') →
      assign.wpIn (F.inRound l) (n - 1 - 1) P (Exit.then K (fun _ _ _ => False)) { tmps := (ps.zip (encs x)).foldl (fun t (p, v) => t.setIfInBounds p v) a.tmps, defers := [] } A)
    (hbody : ∀ (l : Nat) (pre : List α) (x : α) (a' : Act) (A : World) (C : List Nat), (∃ r, A.heap[l]? = some (.loop r)) → l ∉ C → l ∉ bx x → Live A (bx x) → Dj C (bx x) → Dj R (bx x) → I pre A C → Ax pre x a' A C → body.wpIn (F.inRound l) (n - 1 - 1) P (postSep I Ix (pre ++ [x]) A (C ++ bx x)) a' A)
    (hdone : ∀ (xs : List α) (B : World) (C : List Nat), S xs → I xs B C → Q .normal a B)
    (hstop : ∀ (c : Code) (pre : List α) (B : World) (C : List Nat), Sp pre → Ix c pre B C → c.wpIn F n P Q a B) :
    (Code.rangeFunc g ps assign body).wpIn F n P Q a w := by
  obtain ⟨r₀, hl₀⟩ := hl₀
  refine wpIn_rangeFunc ?_
  intro fn hfn
  rw [hro]
  obtain ⟨W1, hW1⟩ : ∃ W1, w.alloc (.loop { state := .ready, pending := none, fn, tmps := a.tmps, params := ps, assign, body, defers := r₀.defers }) = W1 := ⟨_, rfl⟩
  have hL1 : W1.heap[w.heap.size]? = some (.loop { state := .ready, pending := none, fn, tmps := a.tmps, params := ps, assign, body, defers := r₀.defers }) := by rw [← hW1]; exact World.alloc_heap_new w _
  have hs1 : Step [] w W1 := by
    rw [← hW1]
    exact (Step.refl [] w).alloc _
  have hl0 := hIl _ _ _ h0
  refine ⟨w.heap.size, [], W1, { target := .fn (.func gf) lb, args := #[.func (.yield w.heap.size) #[] #[]] }, W1, gf,
    #[.func (.yield w.heap.size) #[] #[]] ++ lb, W1, ?_, ?_, ?_, ?_, fun _ => h1, ?_⟩
  · rw [← hW1]; exact run_enterLoop_inner hl₀ _ _ _ _ _
  · simp only [resolve, hg]
    simp [go_sem]
  · intro f' hf'; simp [Target.leads] at hf'; subst hf'; exact hFg
  · simp [invoke, go_sem, eg]
  · exact rangeSepV_core (X := []) hfn hseq (hPre W1 hs1) hps hL1 (fun k hk => absurd hk List.not_mem_nil) List.not_mem_nil (fun hm => by have := hR _ hm; omega) I Ix hIs hIl hIR hXs hXl C0 (hIs _ _ _ _ _ h0 hs1 (fun k _ => List.not_mem_nil)) (fun hm => by have := hl0 _ hm; omega) (fun k hk => absurd hk List.not_mem_nil) Ax hAx (hassign _) (hbody _)
      (fun xs B C hS hi _ => hdone xs B C hS hi) (fun c pre B C hS hi _ => hstop c pre B C hS hi)
end
end Go.Proofs.Ytdmnhkmpfnhmdaa
end

section
namespace Go.Proofs.Ytdmnhkmpfnhmdaa
set_option linter.unusedVariables false
open Go.RowKit
section
variable {F : Fence} {n : Nat} {P : Program} {α : Type}
/-- a range over a function, outermost, whose mark's block is the loop's own -/
theorem wpIn_range_sepD {g : Operand} {ps : Array Tmp} {assign body : Code} {Q : Exit → Act → World → Prop} {a : Act} {w : World}
    (hro : F.round = none) (h1 : 1 ≤ n) {gf : Nat} {lb : Array Value} (hg : a.eval g = .func (.func gf) #[] lb) (hFg : F.fn gf) (eg : ∀ args w, (callFunc gf args).run P w = .ok (.enter gf args) w)
    {encs : α → Array Value} {R : List Nat} {V S Sp : List α → Prop} {Pre : World → Prop} (hseq : SeqSep F (n - 1) P gf lb encs R V S Sp Pre) (hPre : ∀ W, Step [] w W → Pre W) (hps : ∀ x, (encs x).size = ps.size) (hR : Live w R)
    (I : List α → World → List Nat → Prop) (Ix : Code → List α → World → List Nat → Prop)
    (hIs : ∀ s A B C H, I s A C → Step H A B → Dj C H → I s B C) (hIl : ∀ s A C, I s A C → Live A C) (hIR : ∀ s A C, I s A C → Dj R C)
    (hXs : ∀ c s A B C H, Ix c s A C → Step H A B → Dj C H → Ix c s B C) (hXl : ∀ c s A C, Ix c s A C → Live A C)
    (C0 : List Nat) (h0 : I [] (w.alloc (.deferred (some []))) C0) (Ax : α → Act → World → Prop) (hAx : ∀ x a' A B b r, Ax x a' A → A.heap[b]? = some (.loop r) → Step [b] A B → Ax x a' B)
    (hassign : ∀ (l : Nat) (pre : List α) (x : α) (A : World) (C : List Nat) (K : Act → World → Prop), I pre A C → (∀ a' A', Step [] A A' → Ax x a' A' → K a' A') →
      assign.wpIn (F.inRound l) (n - 1 - 1) P (Exit.then K (fun _ _ _ => False)) { tmps := (ps.zip (encs x)).foldl (fun t (p, v) => t.setIfInBounds p v) a.tmps, defers := [] } A)
    (hbody : ∀ (l : Nat) (pre : List α) (x : α) (a' : Act) (A : World) (C : List Nat), (∃ r, A.heap[l]? = some (.loop r)) → l ∉ C → V (pre ++ [x]) → I pre A C → Ax x a' A → body.wpIn (F.inRound l) (n - 1 - 1) P (postSep I Ix (pre ++ [x]) A C) a' A)
    (hdone : ∀ (xs : List α) (B : World) (C : List Nat), S xs → I xs B C → Q .normal { a with defers := { target := .collected w.heap.size, args := #[] } :: a.defers } B)
    (hstop : ∀ (c : Code) (pre : List α) (B : World) (C : List Nat), Sp pre → Ix c pre B C → c.wpIn F n P Q { a with defers := { target := .collected w.heap.size, args := #[] } :: a.defers } B) :
    (Code.rangeFunc g ps assign body).wpIn F n P Q a w := by
  refine wpIn_rangeFunc ?_
  intro fn hfn
  rw [hro]
  obtain ⟨W1, hW1⟩ : ∃ W1, (w.alloc (.deferred (some []))).alloc (.loop { state := .ready, pending := none, fn, tmps := a.tmps, params := ps, assign, body, defers := w.heap.size }) = W1 := ⟨_, rfl⟩
  have hL1 : W1.heap[w.heap.size + 1]? = some (.loop { state := .ready, pending := none, fn, tmps := a.tmps, params := ps, assign, body, defers := w.heap.size }) := by
    rw [← hW1]; have := World.alloc_heap_new (w.alloc (.deferred (some []))) (.loop { state := .ready, pending := none, fn, tmps := a.tmps, params := ps, assign, body, defers := w.heap.size }); rwa [World.size_alloc] at this
  have hK1 : W1.heap[w.heap.size]? = some (.deferred (some [])) := by
    rw [← hW1]; exact (Below.heap_alloc _ _ _ (by simp)).trans (World.alloc_heap_new w _)
  have hs1 : Step [] w W1 := by
    rw [← hW1]
    exact ((Step.refl [] w).alloc _).alloc _
  have hsz : W1.heap.size = w.heap.size + 1 + 1 := by rw [← hW1, World.size_alloc, World.size_alloc]
  have hl0 := hIl _ _ _ h0
  refine ⟨w.heap.size + 1, [{ target := .collected w.heap.size, args := #[] }], W1, { target := .fn (.func gf) lb, args := #[.func (.yield (w.heap.size + 1)) #[] #[]] }, W1, gf,
    #[.func (.yield (w.heap.size + 1)) #[] #[]] ++ lb, W1, ?_, ?_, ?_, ?_, fun _ => h1, ?_⟩
  · rw [← hW1]; exact run_enterLoop_outer _ _ _ _ _
  · simp only [resolve, hg]
    simp [go_sem]
  · intro f' hf'; simp [Target.leads] at hf'; subst hf'; exact hFg
  · simp [invoke, go_sem, eg]
  · have hs2 : Step [] (w.alloc (.deferred (some []))) W1 := by rw [← hW1]; exact (Step.refl [] _).alloc _
    have hszD : (w.alloc (.deferred (some []))).heap.size = w.heap.size + 1 := World.size_alloc _ _
    exact rangeSep_core (X := []) hfn hseq (hPre W1 hs1) hps hL1 (fun k hk => absurd hk List.not_mem_nil) List.not_mem_nil (fun hm => by have := hR _ hm; omega) I Ix hIs hIl hIR hXs hXl C0 (hIs _ _ _ _ _ h0 hs2 (fun k _ => List.not_mem_nil)) (fun hm => by have := hl0 _ hm; omega) (fun k hk => absurd hk List.not_mem_nil) Ax hAx (hassign _) (hbody _)
      (fun xs B C hS hi _ => hdone xs B C hS hi) (fun c pre B C hS hi _ => hstop c pre B C hS hi)
end
end Go.Proofs.Ytdmnhkmpfnhmdaa
end

section
namespace Go.Proofs.Ytdmnhkmpfnhmdaa
set_option linter.unusedVariables false
open Go.RowKit
/-- of n blocks: those that no round made, and those that are kept -/
def gOf (K C : List Nat) (n : Nat) : List Nat := (List.range n).filter fun k => decide (k ∉ C) || decide (k ∈ K)
theorem mem_gOf {K C : List Nat} {n k : Nat} : k ∈ gOf K C n ↔ k < n ∧ (k ∉ C ∨ k ∈ K) := by
  unfold gOf
  rw [List.mem_filter, List.mem_range]
  simp
theorem gOf_live {K C : List Nat} {A : World} : Live A (gOf K C A.heap.size) := fun k hk => (mem_gOf.1 hk).1
theorem gOf_fresh {K C : List Nat} {A B : World} : Fresh A (gOf K C A.heap.size) (gOf K C B.heap.size) := fun k hk => by
  obtain ⟨h1, h2⟩ := mem_gOf.1 hk
  rcases Nat.lt_or_ge k A.heap.size with h | h
  · exact .inl (mem_gOf.2 ⟨h, h2⟩)
  · exact .inr h
/-- a step apart from C is one of the iterator's own -/
theorem step_gOf {K C H : List Nat} {A B : World} (hs : Step H A B) (hd : Dj C H) : Step (gOf K C A.heap.size) A B :=
  ⟨hs.os, hs.tape, hs.output, hs.size, fun k hk hn => hs.block k hk (fun hm => hn (mem_gOf.2 ⟨hk, .inl (fun hc => hd k hc hm)⟩))⟩
/-- a round's new blocks are put to C -/
theorem gOf_round {K C : List Nat} {a b : Nat} (hab : a ≤ b) (hK : ∀ k, k ∈ K → k < a) : gOf K (C ++ (List.range b).drop a) b = gOf K C a := by
  unfold gOf
  obtain ⟨m, rfl⟩ : ∃ m, b = a + m := ⟨b - a, by omega⟩
  have hr : List.range (a + m) = List.range a ++ (List.range m).map (a + ·) := List.range_add
  have hmem : ∀ k, k ∈ (List.range (a + m)).drop a ↔ a ≤ k ∧ k < a + m := fun k => by
    rw [hr, List.drop_left' (by simp)]
    simp only [List.mem_map, List.mem_range]
    constructor
    · rintro ⟨x, hx, rfl⟩; omega
    · intro h; exact ⟨k - a, by omega, by omega⟩
  generalize hE : (List.range (a + m)).drop a = E at hmem ⊢
  rw [hr]
  rw [List.filter_append]
  have h2 : ((List.range m).map (a + ·)).filter (fun k => decide (k ∉ C ++ E) || decide (k ∈ K)) = [] := by
    rw [List.filter_eq_nil_iff]
    intro k hk
    have hk2 : a ≤ k ∧ k < a + m := by
      simp only [List.mem_map, List.mem_range] at hk
      obtain ⟨x, hx, rfl⟩ := hk
      omega
    have h3 : k ∈ C ++ E := List.mem_append.2 (.inr ((hmem k).2 hk2))
    have h4 : k ∉ K := fun h => by have := hK k h; omega
    simp [h3, h4]
  rw [h2, List.append_nil]
  apply List.filter_congr
  intro k hk
  rw [List.mem_range] at hk
  have h3 : k ∈ C ++ E ↔ k ∈ C := by
    rw [List.mem_append, hmem]
    constructor
    · rintro (h | h)
      · exact h
      · omega
    · exact .inl
  simp only [h3]
end Go.Proofs.Ytdmnhkmpfnhmdaa
end

section
namespace Go.Proofs.Ytdmnhkmpfnhmdaa
set_option linter.unusedVariables false
open Go.RowKit

theorem ownFrom_step (w : World) (n : Nat) (hn : w.heap.size ≤ n) : OwnFrom n (fun (_ : List Empty) (W : World) => Step [] w W) := by
  intro s W W' row hs hg hr
  exact hs.grown hg (fun k hk => .inr (by have := (hr k hk).1; omega))

/-- an iterator that ends without a word -/
theorem wp_range_none {P : Program} {g : Operand} {ps : Array Tmp} {assign body : Code} {Q : Exit → Act → World → Prop} {a : Act} {w : World} {gf : Nat} {lb : Array Value}
    (hg : a.eval g = .func (.func gf) #[] lb) (eg : ∀ args w, (callFunc gf args).run P w = .ok (.enter gf args) w)
    (hit : ∀ (l : Nat) (W : World), Step [] w W → Calls P gf (#[.func (.yield l) #[] #[]] ++ lb) W fun e W' => (∃ v, e = .returned v) ∧ W = W')
    (hdone : ∀ (D : Nat) (W : World), w.heap.size ≤ D → Step [] w W → W.heap[D]? = some (.deferred (some [])) → Q .normal { a with defers := { target := .collected D, args := #[] } :: a.defers } W) :
    (Code.rangeFunc g ps assign body).wp P Q a w := by
  refine (wpIn_wide (n := 3)).1 ?_
  refine wpIn_rangeFunc_ownF (α := Empty) (encs := fun x => x.elim) (Kp := Below w.heap.size) (S := fun _ => True) (Sp := fun _ => False) (N := 0) (w0 := w) rfl (by omega) hg trivial eg ?_ belowK_t (belowK_b (Nat.le_refl _)) (Below.refl _ _) (fun x => x.elim)
    (fun _ W => Step [] w W) (fun _ _ _ => False) (ownFrom_step w _ (Nat.le_refl _)) (fun _ _ _ _ _ hs _ _ => hs) (Step.refl _ _) (fun x => x.elim) (fun _ x => x.elim) (fun _ _ x => x.elim) ?_ ?_
  · intro l J Jx W hW hJ hJx hY h0
    refine (callsIn_wide.2 (hit l W (Step.of_below hW []))).mono ?_
    rintro e W' ⟨hv, rfl⟩
    exact ⟨hv, .inl ⟨[], trivial, h0⟩⟩
  · intro D xs W hD _ hs hK
    exact hdone D W hD hs hK
  · intro D c pre W hD h
    exact h.elim

theorem calls_of_wp_marks {P : Program} {f : FuncId} {fn : Func} {c : Code} {args : Array Value} {w : World} {R : Ending → World → Prop}
    (hf : P.funcs[f]? = some fn) (hb : fn.body = some c)
    (h : c.wp P (bodyPostM Fence.wide 3 P fn R) { tmps := args ++ Array.replicate (fn.ntmps - args.size) undef, defers := [] } w) : Calls P f args w R :=
  callsIn_wide.1 (callsIn_of_wp_marks hf hb trivial (wpIn_wide.2 h))
end Go.Proofs.Ytdmnhkmpfnhmdaa
end

section
namespace Go.Proofs.Ytdmnhkmpfnhmdaa
set_option linter.unusedVariables false
open Go.RowKit
def mks (Ds : List Nat) : List Deferred := Ds.map fun D => { target := .collected D, args := #[] }
theorem mks_cons (D : Nat) (Ds : List Nat) : mks (D :: Ds) = { target := .collected D, args := #[] } :: mks Ds := rfl
theorem mks_nil : mks [] = [] := rfl
/-- the marks' blocks are open, and empty -/
structure MarksOk (w : World) (Ds : List Nat) : Prop where
  nd : Ds.Nodup
  obj : ∀ D, D ∈ Ds → w.heap[D]? = some (.deferred (some []))
theorem MarksOk.nil (w : World) : MarksOk w [] := ⟨List.nodup_nil, fun D h => absurd h List.not_mem_nil⟩
theorem MarksOk.lt {w : World} {Ds : List Nat} (h : MarksOk w Ds) {D : Nat} (hD : D ∈ Ds) : D < w.heap.size := (Array.getElem?_eq_some_iff.1 (h.obj D hD)).1
theorem MarksOk.step {w w' : World} {Ds H : List Nat} (h : MarksOk w Ds) (hs : Step H w w') (hd : ∀ D, D ∈ Ds → D ∉ H) : MarksOk w' Ds :=
  ⟨h.nd, fun D hD => (hs.block D (h.lt hD) (hd D hD)).trans (h.obj D hD)⟩
theorem MarksOk.cons {w : World} {Ds : List Nat} {D : Nat} (h : MarksOk w Ds) (hD : w.heap[D]? = some (.deferred (some []))) (hn : D ∉ Ds) : MarksOk w (D :: Ds) :=
  ⟨List.nodup_cons.2 ⟨hn, h.nd⟩, fun k hk => (List.mem_cons.1 hk).elim (fun e => by rw [e]; exact hD) (h.obj k)⟩
theorem leaves_marks {F : Fence} {n : Nat} {P : Program} {fn : Func} {tmps : Array Value} {R : Ending → World → Prop} : ∀ (Ds : List Nat) (w : World), MarksOk w Ds →
    (∀ w', Step Ds w w' → LeavesIn F n P fn tmps R [] .returning w') → LeavesInM F n P fn tmps R (mks Ds) .returning w
  | [], w, _, h => h w (Step.refl _ _)
  | D :: Ds, w, hm, h => by
    have hput : Step [D] w (w.putObj D (.deferred none)) := step_put _
    refine ⟨by simp, .inl ⟨D, _, rfl, run_takeDeferred (hm.obj D (by simp)), leaves_marks Ds _ ?_ (fun w' hs => h w' ?_)⟩⟩
    · refine ⟨(List.nodup_cons.1 hm.nd).2, fun k hk => (hput.block k (hm.lt (List.mem_cons_of_mem _ hk)) ?_).trans (hm.obj k (List.mem_cons_of_mem _ hk))⟩
      intro e
      simp only [List.mem_cons, List.not_mem_nil, or_false] at e
      subst e
      exact (List.nodup_cons.1 hm.nd).1 hk
    · exact (hput.mono (G := D :: Ds) (fun k hk => by simp at hk; simp [hk])).then hs (fun k hk => .inl (List.mem_cons_of_mem _ hk))

theorem room_any {F : Fence} (hd : F.depth = none) (n : Nat) : F.room n := fun d h => by rw [hd] at h; cases h
/-- where nothing is asked of the depth, any depth serves -/
theorem YieldAt.depth {F : Fence} {m m' : Nat} {P : Program} {l : Nat} {args : Array Value} {W : World} {R : Ending → World → Prop} (hd : F.depth = none) (h : YieldAt F m P l args W R) : YieldAt F m' P l args W R := by
  obtain ⟨fn, tm, asg, bd, hy, h1, h2⟩ := h
  exact ⟨fn, tm, asg, bd, hy, h1, fun c cs _ => h2 c cs (room_any hd _)⟩
theorem RoundIn.depth {F : Fence} {m m' : Nat} {P : Program} {l : Nat} {f : FuncId} {tmps : Array Value} {asg bd : Code} {W : World} {R : Ending → World → Prop} (hd : F.depth = none) (h : RoundIn F m P l f tmps asg bd W R) : RoundIn F m' P l f tmps asg bd W R :=
  ⟨h.1, fun c cs _ => h.2 c cs (room_any hd _)⟩
theorem RoundIn.inner {F : Fence} {m m' : Nat} {P : Program} {l l' : Nat} {f : FuncId} {tmps : Array Value} {asg bd : Code} {W : World} {R : Ending → World → Prop} (hd : F.depth = none) (h : RoundIn F m P l f tmps asg bd W R) : RoundIn (F.inRound l') m' P l f tmps asg bd W R :=
  ⟨h.1, fun c cs _ => h.2 c cs (room_any hd _)⟩

theorem mem_drop_range {a b k : Nat} (h : k ∈ (List.range b).drop a) : a ≤ k ∧ k < b := by
  obtain ⟨i, hi, rfl⟩ := List.getElem_of_mem h
  simp only [List.length_drop, List.length_range] at hi
  simp only [List.getElem_drop, List.getElem_range]
  omega

/-- what an iterator that ranges over iterators keeps: the loop's invariant, over all blocks that no round made; its yield's box; its marks -/
structure Nest {α : Type} (J : List α → World → List Nat → Prop) (R : List Nat) (yb : Nat) (yv : Value) (T : TypeId) (s : List α) (Ds : List Nat) (w : World) (C : List Nat) : Prop where
  jj : J s w (gOf (yb :: Ds) C w.heap.size)
  live : Live w C
  kin : ∀ k, k ∈ yb :: Ds → k ∈ C
  rin : ∀ k, k ∈ R → k ∈ C
  yblk : Blk w yb #[yv] T
  marks : MarksOk w Ds
section
variable {α : Type} {J J' : List α → World → List Nat → Prop} {R : List Nat} {yb : Nat} {yv : Value} {T : TypeId} {s s' : List α} {Ds C H : List Nat} {w w' A B : World}
theorem Nest.step (h : Nest J R yb yv T s Ds w C) (hJ : ∀ s A B G G', J s A G → Step G A B → Fresh A G G' → Live B G' → J s B G') (hs : Step H w w') (hd : Dj C H) : Nest J R yb yv T s Ds w' C :=
  ⟨hJ s w w' _ _ h.jj (step_gOf hs hd) gOf_fresh gOf_live, fun k hk => Nat.lt_of_lt_of_le (h.live k hk) hs.size, h.kin, h.rin, h.yblk.step hs (hd yb (h.kin yb (by simp))), h.marks.step hs (fun D hD => hd D (h.kin D (List.mem_cons_of_mem _ hD)))⟩
theorem Nest.mark (h : Nest J R yb yv T s Ds w C) (hJ : ∀ s A B G G', J s A G → Step G A B → Fresh A G G' → Live B G' → J s B G') :
    Nest J R yb yv T s (w.heap.size :: Ds) (w.alloc (.deferred (some []))) (w.heap.size :: C) := by
  have hsz : (w.alloc (.deferred (some []))).heap.size = w.heap.size + 1 := World.size_alloc _ _
  have hst : ∀ G, Step G w (w.alloc (.deferred (some []))) := fun G => (Step.refl G w).alloc _
  have hlow : ∀ D, D ∈ Ds → D < w.heap.size := fun D hD => h.live D (h.kin D (List.mem_cons_of_mem _ hD))
  refine ⟨hJ s w _ _ _ h.jj (hst _) (fun k hk => ?_) gOf_live, fun k hk => ?_, fun k hk => ?_, fun k hk => List.mem_cons_of_mem _ (h.rin k hk), h.yblk.alloc _, (h.marks.step (hst []) (by simp)).cons (World.alloc_heap_new w _) (fun hm => by have := hlow _ hm; omega)⟩
  · obtain ⟨h1, h2⟩ := mem_gOf.1 hk
    rcases Nat.lt_or_ge k w.heap.size with hlt | hge
    · refine .inl (mem_gOf.2 ⟨hlt, ?_⟩)
      rcases h2 with h2 | h2
      · exact .inl fun hc => h2 (List.mem_cons_of_mem _ hc)
      · right
        simp only [List.mem_cons] at h2 ⊢
        rcases h2 with h2 | h2 | h2
        · exact .inl h2
        · omega
        · exact .inr h2
    · exact .inr hge
  · rw [hsz]
    rcases List.mem_cons.1 hk with rfl | hk
    · omega
    · have := h.live k hk
      omega
  · simp only [List.mem_cons] at hk ⊢
    rcases hk with hk | hk | hk
    · exact .inr (h.kin k (by simp [hk]))
    · exact .inl hk
    · exact .inr (h.kin k (by simp [hk]))
theorem Nest.round (h : Nest J R yb yv T s Ds A C) (hj : J' s' B (gOf (yb :: Ds) C A.heap.size)) (hs : Step H A B) (hd : Dj (R ++ gOf (yb :: Ds) C A.heap.size) H) :
    ∃ C', Nest J' R yb yv T s' Ds B C' ∧ Step C A B ∧ Fresh A C C' := by
  have hk : ∀ k, k ∈ yb :: Ds → k ∉ H := fun k hk => hd k (List.mem_append_right _ (mem_gOf.2 ⟨h.live k (h.kin k hk), .inr hk⟩))
  refine ⟨C ++ (List.range B.heap.size).drop A.heap.size, ⟨?_, fun k hk => ?_, fun k hk => List.mem_append_left _ (h.kin k hk), fun k hk => List.mem_append_left _ (h.rin k hk), h.yblk.step hs (hk yb (by simp)), h.marks.step hs (fun D hD => hk D (List.mem_cons_of_mem _ hD))⟩, ?_, fun k hk => ?_⟩
  · rw [gOf_round hs.size (fun k hk => h.live k (h.kin k hk))]
    exact hj
  · rcases List.mem_append.1 hk with hk | hk
    · exact Nat.lt_of_lt_of_le (h.live k hk) hs.size
    · exact (mem_drop_range hk).2
  · refine ⟨hs.os, hs.tape, hs.output, hs.size, fun k hlt hn => hs.block k hlt fun hm => ?_⟩
    exact hd k (List.mem_append_right _ (mem_gOf.2 ⟨hlt, .inl hn⟩)) hm
  · rcases List.mem_append.1 hk with hk | hk
    · exact .inl hk
    · exact .inr (mem_drop_range hk).1
/-- it leaves -/
theorem Nest.leave {F : Fence} {n : Nat} {P : Program} {fn : Func} {tmps : Array Value} {Q : Ending → World → Prop} (h : Nest J R yb yv T s Ds w C) (hJ : ∀ s A B G G', J s A G → Step G A B → Fresh A G G' → Live B G' → J s B G')
    (hr : fn.results = #[]) (hQ : ∀ w' G, J s w' G → Q (.returned (.tuple #[])) w') : LeavesInM F n P fn tmps Q (mks Ds) .returning w :=
  leaves_marks Ds w h.marks fun w' hs => ⟨_, results_none hr _ _ _, hQ w' _ (hJ s w w' _ _ h.jj (hs.mono fun k hk => mem_gOf.2 ⟨h.marks.lt hk, .inr (List.mem_cons_of_mem _ hk)⟩) gOf_fresh gOf_live)⟩
theorem Nest.start (hJ : ∀ s A B G G', J s A G → Step G A B → Fresh A G G' → Live B G' → J s B G') (h0 : J s w []) (hR : ∀ k, k ∈ R → k < w.heap.size) :
    Nest J R w.heap.size yv T s [] (w.alloc (.cells #[yv] T)) (List.range (w.heap.size + 1)) := by
  have hsz : (w.alloc (.cells #[yv] T)).heap.size = w.heap.size + 1 := World.size_alloc _ _
  refine ⟨hJ s w _ _ _ h0 ((Step.refl [] w).alloc _) (fun k hk => ?_) gOf_live, fun k hk => ?_, fun k hk => ?_, fun k hk => ?_, Blk.new w _ _, MarksOk.nil _⟩
  · obtain ⟨h1, h2⟩ := mem_gOf.1 hk
    rcases h2 with h2 | h2
    · rw [List.mem_range] at h2
      omega
    · simp only [List.mem_cons, List.not_mem_nil, or_false] at h2
      exact .inr (by omega)
  · rw [List.mem_range] at hk
    omega
  · simp only [List.mem_cons, List.not_mem_nil, or_false] at hk
    rw [List.mem_range]
    omega
  · rw [List.mem_range]
    have := hR k hk
    omega
end
end Go.Proofs.Ytdmnhkmpfnhmdaa
end

section
namespace Go.Proofs.Ytdmnhkmpfnhmdaa
set_option linter.unusedVariables false
open Go.RowKit
/-- a frame of n slots -/
def litN (n : Nat) (f : Nat → Value) : Array Value := ((List.range n).map f).toArray
theorem litN_size (n : Nat) (f : Nat → Value) : (litN n f).size = n := by simp [litN]
theorem tmps_lit {T : Array Value} {n : Nat} (h : T.size = n) : T = litN n (fun k => T.getD k undef) := by
  apply Array.ext
  · rw [litN_size, h]
  · intro i h1 h2
    simp [litN, Array.getD, h1]
theorem act_lit {a : Act} {n : Nat} (h : a.tmps.size = n) : a = { tmps := litN n (fun k => a.tmps.getD k undef), defers := a.defers } := by
  obtain ⟨T, d⟩ := a
  rw [← tmps_lit h]
/-- a loop whose rounds leave marks: what holds of the slots, the world and the marks -/
theorem wp_loop_marks {P : Program} {c : Code} {Q : Exit → Act → World → Prop} {a : Act} {w : World} (n : Nat) (R : (Nat → Value) → World → List Nat → Prop) (μ : (Nat → Value) → Nat)
    (h0 : a.tmps.size = n ∧ ∃ Ds, a.defers = mks Ds ∧ R (fun k => a.tmps.getD k undef) w Ds)
    (round : ∀ (f : Nat → Value) (w : World) (Ds : List Nat), R f w Ds → c.wp P (Exit.then (fun a' w' => (a'.tmps.size = n ∧ ∃ Ds', a'.defers = mks Ds' ∧ R (fun k => a'.tmps.getD k undef) w' Ds') ∧ μ (fun k => a'.tmps.getD k undef) < μ f) Q) { tmps := litN n f, defers := mks Ds } w) :
    (Code.loop c).wp P Q a w := by
  refine wp_loop (I := fun a w => a.tmps.size = n ∧ ∃ Ds, a.defers = mks Ds ∧ R (fun k => a.tmps.getD k undef) w Ds) (μ := fun a _ => μ (fun k => a.tmps.getD k undef)) h0 ?_
  rintro a w ⟨hs, Ds, hd, hR⟩
  have h1 := round _ w Ds hR
  rw [act_lit hs, hd]
  exact wp_mono h1 (fun e a' w' hq => by
    cases e with
    | normal =>
      have hg : ∀ k, (litN n (fun k => a.tmps.getD k undef)).getD k undef = a.tmps.getD k undef := fun k => by rw [← tmps_lit hs]
      simp only [Exit.then] at hq ⊢
      refine ⟨hq.1, ?_⟩
      simp only [hg]
      exact hq.2
    | _ => exact hq)
end Go.Proofs.Ytdmnhkmpfnhmdaa
end

section
namespace Go.Proofs.Ytdmnhkmpfnhmdaa
set_option linter.unusedVariables false
open Go.RowKit
section
variable {P : Program} {ops : Array Oper} {md : Region.Mode} {G : World → World → Prop} {W0 : World} {Sp : FuncId → Array Value → Value → World → Prop}
/-- what is listed is closed -/
structure LInv (md : Region.Mode) (ops : Array Oper) (listed : Array Bool) : Prop where
  size : listed.size = ops.size
  closed : ∀ j oj, ops[j]? = some oj → listed.getD j false = true → ∀ e ∈ oj.after, Region.binds md e = true → listed.getD e.on false = true
theorem LInv.set {i : Nat} {listed : Array Bool} (inv : LInv md ops listed) (hi : i ∈ Region.ready md ops listed) : LInv md ops (listed.setIfInBounds i true) := by
  obtain ⟨_, oi, hoi, hall⟩ := mem_ready.1 hi
  refine ⟨by simp [inv.size], fun j oj hj hl e he hb => ?_⟩
  by_cases hij : i = j
  · subst hij
    have : oj = oi := Option.some.inj (hj.symm.trans hoi)
    subst this
    exact getD_set_true (hall e he hb)
  · rw [getD_set_ne false hij] at hl
    exact getD_set_true (inv.closed j oj hj hl e he hb)
/-- those that wait for one of M, in one pass -/
def downM (md : Region.Mode) (ops : Array Oper) : List Nat → List Nat → List Nat
  | [], M => M
  | j :: r, M => downM md ops r (if M.any (fun m => Region.waitsFor md ops j m) then j :: M else M)
theorem downM_spec {listed : Array Bool} (inv : LInv md ops listed) : ∀ (r M N : List Nat), (∀ m, m ∈ M → listed.getD m true = false ∧ (m ∈ N ∨ m ∉ Region.ready md ops listed)) → ∀ m, m ∈ downM md ops r M → listed.getD m true = false ∧ (m ∈ N ∨ m ∉ Region.ready md ops listed)
  | [], M, N, h, m, hm => h m hm
  | j :: r, M, N, h, m, hm => by
    refine downM_spec inv r _ N ?_ m hm
    intro k hk
    split at hk
    · rename_i hany
      rcases List.mem_cons.1 hk with rfl | hk
      · obtain ⟨m', hm', hw⟩ := List.any_eq_true.1 hany
        obtain ⟨ok, hok, e, he, hb, hon⟩ := Region.waitsFor_spec hw
        have hun := (h m' hm').1
        have hks : k < listed.size := by rw [inv.size]; exact (Array.getElem?_eq_some_iff.1 hok).1
        refine ⟨getD_in hks ?_, .inr fun hr => ?_⟩
        · cases hl : listed.getD k false with
          | false => rfl
          | true =>
            have h2 := inv.closed k ok hok hl e he hb
            rw [hon, getD_both hun] at h2
            cases h2
        · obtain ⟨_, o', ho', hall⟩ := mem_ready.1 hr
          have : o' = ok := Option.some.inj (ho'.symm.trans hok)
          subst this
          have h2 := hall e he hb
          rw [hon, getD_both hun] at h2
          cases h2
      · exact h k hk
    · exact h k hk
/-- whatever order is picked within the block -/
def wpAnyB (P : Program) (md : Region.Mode) (ops : Array Oper) (G : World → World → Prop) (W0 : World) (Sp : FuncId → Array Value → Value → World → Prop) (L : Array Bool → Act → (World → Prop) → Prop) : Nat → Array Bool → Act → (World → Prop) → Prop
  | 0, listed, a, F => L listed a F
  | f + 1, listed, a, F =>
    Region.ready md ops listed ≠ [] ∧ ∀ i ∈ Region.ready md ops listed, rOp P ops G W0 Sp i (wpAnyB P md ops G W0 Sp L f (listed.setIfInBounds i true)) a F
theorem wpAny_of_block (R : RelLaw G Sp) {g : Nat} {L : Array Bool → Act → (World → Prop) → Prop} {Q' : Exit → Act → World → Prop} (hL : ∀ listed a F w, G W0 w → F w → L listed a F → wpAny P md ops Q' g listed a w) :
    ∀ (f : Nat) (listed : Array Bool) (a : Act) (F : World → Prop) (w : World), G W0 w → F w → (∀ w w', F w → G w w' → F w') → wpAnyB P md ops G W0 Sp L f listed a F → wpAny P md ops Q' (f + g) listed a w
  | 0, listed, a, F, w, hG, hF, hs, h => by rw [Nat.zero_add]; exact hL _ _ _ _ hG hF h
  | f + 1, listed, a, F, w, hG, hF, hs, h => by
    rw [show f + 1 + g = (f + g) + 1 by omega]
    exact ⟨fun h0 => absurd h0 h.1, fun i hi => wpOp_of_rOp R hG hF hs (fun a' F' w' hs' hG' hF' h' => wpAny_of_block R hL f _ a' F' w' hG' hF' hs' h') (h.2 i hi)⟩
theorem wpAnyB_first (R : RelLaw G Sp) {i : Nat} {oi : Oper} {D : Value → Prop} {S : Value → World → Prop} {L : Array Bool → Act → (World → Prop) → Prop} (hi : ops[i]? = some oi) (hsel : ∀ (j : Nat) (o : Oper) cs b, ops[j]? = some o → o.op ≠ .select cs b)
    {E B : Nat → Prop} (hwait : ∀ listed, LInv md ops listed → (∀ e, E e → listed.getD e false = true) → ∀ i, B i → listed.getD i true = false → ∀ j ∈ Region.ready md ops listed, B j) (hBi : B i)
    (hdone : ∀ listed a F, L listed a F → ∀ j ∈ Region.ready md ops listed, ¬ B j) :
    ∀ (f : Nat) (listed : Array Bool) (a : Act) (F : World → Prop), LInv md ops listed → (∀ e, E e → listed.getD e false = true) →
      (∀ j oj, ops[j]? = some oj → j ≠ i → listed.getD j true = false → (∀ e ∈ oj.after, Region.binds md e = true → e.on ≠ i) → oi.apart ops oj = true) →
      i ∈ Region.ready md ops listed → YR P ops G W0 Sp oi a D S →
      (∀ v, D v → wpAnyB P md ops G W0 Sp L f (listed.setIfInBounds i true) (a.put oi.dst v) (fun w => F w ∧ S v w)) → wpAnyB P md ops G W0 Sp L (f + 1) listed a F := by
  intro f
  induction f with
  | zero =>
    intro listed a F inv hE _ hr hy H
    have hun := (mem_ready.1 hr).1
    refine ⟨fun h => (by rw [h] at hr; cases hr), fun j hj => ?_⟩
    have hjB : B j := hwait listed inv hE i hBi hun j hj
    by_cases hji : j = i
    · subst hji
      unfold rOp
      simp only [hi]
      exact ⟨D, S, hy, H⟩
    · obtain ⟨v0, hv0⟩ := hy.some R
      exact absurd hjB (hdone _ _ _ (H v0 hv0) j (ready_mono hj hji))
  | succ f ih =>
    intro listed a F inv hE hfree hr hy H
    have hun := (mem_ready.1 hr).1
    refine ⟨fun h => (by rw [h] at hr; cases hr), fun j hj => ?_⟩
    by_cases hji : j = i
    · subst hji
      unfold rOp
      simp only [hi]
      exact ⟨D, S, hy, H⟩
    · obtain ⟨hjun, oj, hoj, hall⟩ := mem_ready.1 hj
      have hnot : ∀ e ∈ oj.after, Region.binds md e = true → e.on ≠ i := fun e he hb heq => by
        have h1 := hall e he hb
        rw [heq, getD_both hun] at h1
        cases h1
      have h2 := rOp_put R hoj (hfree j oj hoj hji hjun hnot) (fun cs b => hsel i oi cs b hi) (fun cs b => hsel j oj cs b hoj) hy (fun v hv => (H v hv).2 j (ready_mono hj hji))
      have hfree' : ∀ k ok, ops[k]? = some ok → k ≠ i → (listed.setIfInBounds j true).getD k true = false →
          (∀ e ∈ ok.after, Region.binds md e = true → e.on ≠ i) → oi.apart ops ok = true := fun k ok hk hki hun hno => by
        refine hfree k ok hk hki ?_ hno
        by_cases hjk : j = k
        · subst hjk; exact hjun
        · rw [getD_set_ne true hjk] at hun; exact hun
      refine rOp_mono (fun a' F' h3 => ih (listed.setIfInBounds j true) a' F' (inv.set hj) (fun e he => getD_set_true (hE e he)) hfree' (ready_mono hr (Ne.symm hji)) h3.1 ?_) h2
      rw [Array.setIfInBounds_comm _ _ hji]
      exact h3.2
/-- the operations of a block, in its own order -/
def opsAt (l : List Oper) : List Nat → List Oper
  | [] => []
  | i :: r => (l[i]?).toList ++ opsAt l r
/-- the block's order is one that may be, and each operation is free of those that may come up with it -/
def lexC (md : Region.Mode) (ops : Array Oper) : List Nat → Array Bool → Bool
  | [], _ => true
  | i :: r, listed => (Region.ready md ops listed).contains i && Region.free md ops listed i && lexC md ops r (listed.setIfInBounds i true)
def setL' (listed : Array Bool) : List Nat → Array Bool
  | [] => listed
  | i :: r => setL' (listed.setIfInBounds i true) r
theorem wpAnyB_lex (R : RelLaw G Sp) {Lq : Act → (World → Prop) → Prop} (hsel : Region.noSelect ops = true) {E B : Nat → Prop} {fin : Array Bool}
    (hwait : ∀ listed, LInv md ops listed → (∀ e, E e → listed.getD e false = true) → ∀ i, B i → listed.getD i true = false → ∀ j ∈ Region.ready md ops listed, B j) (hdone : ∀ j ∈ Region.ready md ops fin, ¬ B j) :
    ∀ (b : List Nat) (listed : Array Bool) (a : Act) (F : World → Prop), (∀ i ∈ b, B i) → LInv md ops listed → (∀ e, E e → listed.getD e false = true) → lexC md ops b listed = true → setL' listed b = fin →
    wpR P ops G W0 Sp Lq (opsAt ops.toList b) a F → wpAnyB P md ops G W0 Sp (fun listed' a' F' => (listed' = fin ∧ LInv md ops listed') ∧ Lq a' F') b.length listed a F
  | [], listed, a, F, _, inv, _, _, hf, h => ⟨⟨hf, inv⟩, h⟩
  | i :: b, listed, a, F, hB, inv, hE, hC, hf, h => by
    simp only [lexC, Bool.and_eq_true] at hC
    obtain ⟨⟨hr, hfr⟩, hC'⟩ := hC
    have hr' : i ∈ Region.ready md ops listed := by simpa using hr
    obtain ⟨_, o, h0, _⟩ := mem_ready.1 hr'
    have hl : ops.toList[i]? = some o := by simpa using h0
    simp only [opsAt, hl, Option.toList, List.cons_append, List.nil_append] at h
    obtain ⟨D, S, hy, hK⟩ := h
    exact wpAnyB_first R h0 (Region.noSelect_spec hsel) hwait (hB i List.mem_cons_self) (fun listed' a' F' hL => by rw [hL.1.1]; exact hdone) b.length listed a F inv hE (Region.free_spec h0 hfr) hr' hy
      (fun v hv => wpAnyB_lex R hsel hwait hdone b _ _ _ (fun k hk => hB k (List.mem_cons_of_mem _ hk)) (inv.set hr') (fun e he => getD_set_true (hE e he)) hC' hf (hK v hv))
/-- the blocks, one behind the other: each by a relation of its own, or one operation alone -/
def wpPh (P : Program) (ops : Array Oper) (l : List Oper) (Q : Exit → Act → World → Prop) : List (List Nat) → Act → World → Prop
  | [], a, w => Q .normal a w
  | b :: Bs, a, w =>
    (∃ G Sp, RelLaw G Sp ∧ wpR P ops G w Sp (fun a' F => ∀ w', G w w' → F w' → wpPh P ops l Q Bs a' w') (opsAt l b) a (fun _ => True)) ∨
    (∃ i o, b = [i] ∧ l[i]? = some o ∧ Region.wanted o (yielded ops a.tmps) = true ∧ o.wp P a w (wpPh P ops l Q Bs) Q)
def phCheck (md : Region.Mode) (ops : Array Oper) : List Nat → List (List Nat) → Array Bool → Bool
  | _, [], listed => (Region.ready md ops listed).isEmpty
  | E, b :: Bs, listed =>
    E.all (fun e => listed.getD e false) &&
    b.all (fun i => Bs.flatten.all (fun t => (downM md ops (b ++ Bs.flatten) [i]).contains t && !b.contains t)) &&
    (List.range ops.size).all (fun j => E.contains j || b.contains j || Bs.flatten.contains j) &&
    lexC md ops b listed && (Region.ready md ops (setL' listed b)).all (fun j => !b.contains j) && phCheck md ops (E ++ b) Bs (setL' listed b)
theorem wpAny_of_ph (hsel : Region.noSelect ops = true) {Q : Exit → Act → World → Prop} : ∀ (Bs : List (List Nat)) (E : List Nat) (listed : Array Bool) (a : Act) (w : World), phCheck md ops E Bs listed = true → LInv md ops listed → wpPh P ops ops.toList Q Bs a w → wpAny P md ops Q (Bs.flatten).length listed a w
  | [], E, listed, a, w, hC, inv, h => ⟨by simpa [phCheck] using hC, h⟩
  | b :: Bs, E, listed, a, w, hC, inv, h => by
    simp only [phCheck, Bool.and_eq_true] at hC
    obtain ⟨⟨⟨⟨⟨hE, hD⟩, hcov⟩, hlex⟩, hdone⟩, hC'⟩ := hC
    have hE' : ∀ e, e ∈ E → listed.getD e false = true := fun e he => List.all_eq_true.1 hE e he
    have hwait : ∀ listed, LInv md ops listed → (∀ e, e ∈ E → listed.getD e false = true) → ∀ i, i ∈ b → listed.getD i true = false → ∀ j ∈ Region.ready md ops listed, j ∈ b := by
      intro listed inv hE i hi hun j hj
      have hjs : j < ops.size := by
        obtain ⟨_, o, ho, _⟩ := mem_ready.1 hj
        exact (Array.getElem?_eq_some_iff.1 ho).1
      have h1 := List.all_eq_true.1 hcov j (List.mem_range.2 hjs)
      simp only [Bool.or_eq_true, List.contains_iff_mem] at h1
      rcases h1 with (h1 | h1) | h1
      · have h2 := hE j h1
        have h3 := (mem_ready.1 hj).1
        rw [getD_both h3] at h2
        cases h2
      · exact h1
      · have h2 := List.all_eq_true.1 (List.all_eq_true.1 hD i hi) j h1
        simp only [Bool.and_eq_true, List.contains_iff_mem] at h2
        rcases (downM_spec inv _ [i] [i] (fun m hm => by simp at hm; subst hm; exact ⟨hun, .inl (by simp)⟩) j h2.1).2 with h3 | h3
        · simp at h3; subst h3; exact hi
        · exact absurd hj h3
    have hdone' : ∀ j ∈ Region.ready md ops (setL' listed b), ¬ j ∈ b := fun j hj hm => by
      have := List.all_eq_true.1 hdone j hj
      simp [hm] at this
    have hlen : (List.flatten (b :: Bs)).length = b.length + (Bs.flatten).length := by simp
    rw [hlen]
    rcases h with ⟨G, Sp, R, h⟩ | ⟨i, o, rfl, ho, hw, h⟩
    · have H := wpAnyB_lex (md := md) (E := fun e => e ∈ E) (B := fun j => j ∈ b) R hsel hwait hdone' b listed a _ (fun i hi => hi) inv hE' hlex rfl h
      exact wpAny_of_block (Q' := Q) R (g := (Bs.flatten).length) (fun listed' a' F w' hG hF hL => by
        obtain ⟨⟨rfl, inv'⟩, hL⟩ := hL
        exact wpAny_of_ph hsel Bs (E ++ b) _ a' w' hC' inv' (hL w' hG hF)) _ _ _ _ w (R.refl _) trivial (fun _ _ _ _ => trivial) H
    · simp only [lexC, Bool.and_eq_true] at hlex
      have hr : i ∈ Region.ready md ops listed := by simpa using hlex.1.1
      have hun := (mem_ready.1 hr).1
      rw [show ([i] : List Nat).length + (Bs.flatten).length = (Bs.flatten).length + 1 by simp; omega]
      refine ⟨fun h0 => (by rw [h0] at hr; cases hr), fun j hj => ?_⟩
      have hji : j = i := by
        have := hwait listed inv hE' i (by simp) hun j hj
        simpa using this
      subst hji
      have h0 : ops[j]? = some o := by simpa using ho
      unfold wpOp
      simp only [h0]
      rw [if_pos hw]
      exact .inl (Oper.wp_mono (fun a' w' h' => wpAny_of_ph hsel Bs (E ++ [j]) _ a' w' hC' (inv.set hr) h') h)
/-- a region in phases -/
theorem wp_region_ph {id : Nat} {Q : Exit → Act → World → Prop} {a : Act} {w : World} {l : List Oper} (Bs : List (List Nat)) (hm : P.follows .mixedOrders = true)
    (hB : (Region.noSelect l.toArray && decide ((Bs.flatten).length = l.length) && phCheck .any l.toArray [] Bs (Array.replicate l.length false)) = true) (h : wpPh P l.toArray l Q Bs a w.drew) : (Code.region id l.toArray true).wp P Q a w := by
  simp only [Bool.and_eq_true, decide_eq_true_eq] at hB
  obtain ⟨⟨hsel, hlen⟩, hC⟩ := hB
  have inv0 : LInv .any l.toArray (Array.replicate l.length false) := ⟨by simp, fun j oj _ hl => (by rw [getD_replicate_false] at hl; cases hl)⟩
  refine wp_region_any hm ?_
  have := wpAny_of_ph (md := .any) (Q := Q) (P := P) hsel Bs [] (Array.replicate l.length false) a w.drew hC inv0 (by simpa using h)
  rw [hlen] at this
  simpa using this
/-- one call alone -/
theorem ph_call {K : Act → World → Prop} {Q : Exit → Act → World → Prop} {o : Oper} {a : Act} {w : World} (f : FuncId) (xs : Array Operand) (ts : Array TypeId) (ho : o.op = .call { callee := .value (.func f), args := xs, argTypes := ts })
    {fn : Func} (hf : P.funcs[f]? = some fn) (hname : (fn.name == "runtime.NumGoroutine") = false) (hb : fn.body.isSome = true) (args : Array Value) (hargs : xs.map a.eval = args)
    {post : Ending → World → Prop} (hc : Calls P f args w post) (h : ∀ e w', post e w' → ∃ v, e = .returned v ∧ K (a.put o.dst v) w') : o.wp P a w K Q := by
  have hr : (execOp a.eval o).run P w = .ok (.enter f args) w := by
    unfold execOp
    simp only [ho, resolve, Act.eval, Deferred.ofValue, Sem.run_bind, Sem.run_pure, Result.andThen_ok, invoke, Array.append_empty]
    have he : (#[] ++ Array.map (fun x => a.eval x) xs) = args := by simpa using hargs
    have he2 : (#[] : Array Value) ++ Array.map a.eval xs ++ #[] = args := by simpa using hargs
    first
      | (rw [he]; exact run_enter hf hname hb args w)
      | (rw [he2]; exact run_enter hf hname hb args w)
      | (simp [hargs]; exact run_enter hf hname hb args w)
  unfold Oper.wp
  rw [hr]
  exact hc.mono fun e w' he => by
    obtain ⟨v, rfl, hk⟩ := h e w' he
    exact hk
end
end Go.Proofs.Ytdmnhkmpfnhmdaa
end
