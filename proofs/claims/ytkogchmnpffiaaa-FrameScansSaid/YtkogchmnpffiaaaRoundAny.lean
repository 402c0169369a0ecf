/- A region that draws its order, within a round of a range over a function, whatever its operations are: what serves outside serves there. No program in sight. -/
import Derived.Test.YtkogchmnpffiaaaRoundQuiet
import Derived.Test.YtkogchmnpffiaaaRel
namespace Go.Proofs.Ytkogchmnpffiaaa
set_option linter.unusedVariables false
open Go.RowKit
section
variable {n : Nat} {P : Program} {ops : Array Oper} {Q : Exit → Act → World → Prop}
theorem rowsIn_of_rows {row : String} {args : Array Value} {w : World} {R : Value → World → Prop} (h : Rows P row args w R) : RowsIn Fence.wide n P row args w R :=
  fun c cs _ => let ⟨v, w', r, s⟩ := h c cs; ⟨v, w', r, stepsIn_wide.2 s⟩
theorem wpOpsIn_of_wpOps (hL : ¬ LetsOut Q) : ∀ (l : List Nat) (a : Act) (w : World), wpOps P ops Q l a w → wpOpsIn Fence.wide n P ops Q l a w
  | [], _, _, h => h
  | i :: rest, a, w, h => by
    simp only [wpOps] at h
    simp only [wpOpsIn]
    split
    · rename_i hn
      rw [hn] at h
      exact wpOpsIn_of_wpOps hL rest a w h
    · rename_i o ho
      rw [ho] at h
      simp only at h
      split at h
      · rename_i hw
        rw [if_pos hw]
        rcases h with h | ⟨_, h⟩
        · refine ⟨fun _ _ => trivial, ?_⟩
          rw [show (Fence.wide.round) = none from rfl, Oper.semAt_none]
          unfold Oper.wp at h
          generalize (execOp a.eval o).run P w = x at h ⊢
          have ih := wpOpsIn_of_wpOps hL rest
          match x, h with
          | .ok (.value u) w', h => exact ih _ _ h
          | .ok .skip w', h => exact ih _ _ h
          | .ok (.defer d) w', h => exact ih _ _ h
          | .ok (.enter f args) w', h =>
            refine ⟨fun h => (nomatch h), (callsIn_wide.2 h).mono fun e w'' hh => ?_⟩
            cases e with
            | returned v => exact ih _ _ hh
            | panicked chain => exact hh
            | outgrown => exact hh
          | .ok (.row row args) w', h => exact ⟨fun h => (nomatch h), RowsIn.mono (rowsIn_of_rows h) fun v w'' hh => ih _ _ hh⟩
          | .halt (.panic v) w', h => exact h
        · exact absurd h hL
      · rename_i hw
        rw [if_neg hw]
        exact ⟨fun _ _ => trivial, wpOpsIn_of_wpOps hL rest _ w h⟩
theorem round_any {id r : Nat} {a : Act} {w : World} (hd : noDefer ops.toList = true) (hm : P.follows .mixedOrders = true) (hL : ¬ LetsOut Q)
    (h : wpAny P .any ops Q ops.size (Array.replicate ops.size false) a { w with drawn := w.drawn + 1 }) : (Code.region id ops true).wpIn (Fence.wide.inRound r) n P Q a w := by
  refine wpIn_region_draw fun t => ?_
  refine wpOpsIn_round r hd _ _ _ (wpOpsIn_of_wpOps hL _ _ _ ?_)
  simp only [Region.schedule, hm, Bool.true_or, if_true]
  exact wpAny_sound ops.size t _ a _ h
end
section
variable {P : Program} {G : World → World → Prop} {Sp : FuncId → Array Value → Value → World → Prop}
/-- k pure operations first, a head up to n in whatever order, then one by one -/
theorem round_prt {m r : Nat} {id : Nat} {Q : Exit → Act → World → Prop} {a : Act} {w : World} {l : List Oper} (R : RelLaw G Sp) (k n : Nat) (hd : noDefer l = true) (hLO : ¬ LetsOut Q) (hm : P.follows .mixedOrders = true) (hB : lexPRT .any l.toArray k n = true) (hQ : ∀ c a d v w, Q (.panic c) (Act.put a d v) w → Q (.panic c) a w)
    (h : wpQuiet P l.toArray (fun w => ∃ x : ClsW (fun _ => True), w = x.val) (fun a0 => wpR P l.toArray G w.drew Sp (fun a' F => ∀ w', G w.drew w' → F w' → wpList P l.toArray Q (l.drop n) a' w') ((l.take n).drop k) a0 (fun _ => True)) (l.take k) a) : (Code.region id l.toArray true).wpIn (Fence.wide.inRound r) m P Q a w := by
  simp only [lexPRT, Bool.and_eq_true, decide_eq_true_eq] at hB
  obtain ⟨⟨⟨⟨⟨hsel, hn⟩, hkn⟩, hs⟩, hc⟩, hlex⟩ := hB
  have hn' : n < l.length := by simpa using hn
  have htl : (l.take n).length = n := by simp; omega
  have hdl : (l.drop n).length = l.toArray.size - n := by simp
  have inv0 : HeadInv .any l.toArray n (Array.replicate l.toArray.size false) :=
    ⟨by simp, fun j oj _ hl => (by rw [getD_replicate_false] at hl; cases hl), fun t _ ht => getD_in (by simpa using ht) (getD_replicate_false _ _)⟩
  have hkl : (l.take k).length = k := by simp; omega
  refine round_any (by simpa using hd) hm hLO ?_
  have H := wpAny_pure (md := .any) (n := n) (g := l.toArray.size - n) (K := k) (Q := Q) (w := w.drew) (Lq := fun a0 => wpR P l.toArray G w.drew Sp (fun a' F => ∀ w', G w.drew w' → F w' → wpList P l.toArray Q (l.drop n) a' w') ((l.take n).drop k) a0 (fun _ => True)) hkn hsel hQ ?_ (l.take k) 0 (Array.replicate l.toArray.size false) a (fun j hj => by
      have hj' : j < k := by rw [hkl] at hj; exact hj
      simp [hj']) (by rw [hkl]; omega) inv0 (by rw [hkl]; exact hlex) h
  · rw [show n - 0 + (l.toArray.size - n) = l.toArray.size by omega] at H
    exact H
  · intro listed a0 inv hlx hw
    have hml : ((l.take n).drop k).length = n - k := by rw [List.length_drop, htl]
    have H2 := wpAnyR_lex (md := .any) R (g := l.toArray.size - n) hsel (k0 := k) (fun listed inv i hki hi hun => tail_waits_from hs hc hn inv _ i rfl hki hi hun) ((l.take n).drop k) k listed a0 _ (Nat.le_refl _) (fun j hj => by
      rw [hml] at hj
      rw [List.getElem?_drop, List.getElem?_take, if_pos (by omega)]
      simp) (by rw [hml]; omega) inv (by rw [hml]; exact hlx) hw
    have := wpAny_of_relhead (Q' := Q) R (g := l.toArray.size - n) (fun listed a' F w' hG hF hL => by
      have := wpAny_of_seq (md := .any) (Q' := Q) (l.drop n) n listed a' w' (fun j => by simp [List.getElem?_drop]) (by rw [hdl]; exact hL.1) (hL.2 w' hG hF)
      rwa [hdl] at this) _ _ _ _ w.drew (R.refl _) trivial (fun _ _ _ _ => trivial) H2
    rw [hml] at this
    exact this
end
end Go.Proofs.Ytkogchmnpffiaaa
