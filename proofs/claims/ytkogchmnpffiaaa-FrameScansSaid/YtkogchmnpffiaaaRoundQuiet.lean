/- A region that draws its order, within a round of a range over a function. No program in sight. -/
import Derived.Test.YtkogchmnpffiaaaBlocks
import Derived.Sort.QuietThIn
import Derived.TacticsIn
import Derived.RangeFuncCalls
namespace Go.Proofs.Ytkogchmnpffiaaa
set_option linter.unusedVariables false
open Go.RowKit
section
variable {n : Nat} {P : Program} {ops : Array Oper} {Q : Exit → Act → World → Prop}
def noDefer (l : List Oper) : Bool := l.all fun o => match o.op with | .defer _ => false | _ => true
theorem noDefer_at {l : List Oper} (h : noDefer l = true) {o : Oper} (ho : o ∈ l) (c : Go.Call) : o.op ≠ .defer c := by
  unfold noDefer at h
  rw [List.all_eq_true] at h
  have h1 := h o ho
  intro e
  rw [e] at h1
  cases h1
theorem wpOpsIn_round (r : Nat) (hd : noDefer ops.toList = true) : ∀ (l : List Nat) (a : Act) (w : World), wpOpsIn Fence.wide n P ops Q l a w → wpOpsIn (Fence.wide.inRound r) n P ops Q l a w
  | [], _, _, h => h
  | i :: rest, a, w, h => by
    simp only [wpOpsIn] at h ⊢
    split
    · rename_i hn
      rw [hn] at h
      exact wpOpsIn_round r hd rest a w h
    · rename_i o ho
      rw [ho] at h
      simp only at h
      have hmem : o ∈ ops.toList := by
        have := List.mem_of_getElem? (l := ops.toList) (i := i) (by simpa using ho)
        exact this
      split at h
      · rename_i hw
        rw [if_pos hw]
        have h2 := Oper.wpIn_mono (fun a' w' => wpOpsIn_round r hd rest a' w') h
        unfold Oper.wpIn at h2 ⊢
        refine ⟨h2.1, ?_⟩
        have h3 := h2.2
        rw [show (Fence.wide.round) = none from rfl, Oper.semAt_none] at h3
        rw [Fence.inRound_round, Oper.semAt_some r a.eval o (noDefer_at hd hmem)]
        exact h3
      · rename_i hw
        rw [if_neg hw]
        exact ⟨h.1, wpOpsIn_round r hd rest _ w h.2⟩
theorem wpQuiet_in {C : World → Prop} {R : Act → Prop} : ∀ (l : List Oper) (a : Act), wpQuiet P ops C R l a → wpQuietIn Fence.wide n P ops C R l a
  | [], _, h => h
  | o :: rest, a, h => by
    refine ⟨fun _ _ _ _ => trivial, ?_⟩
    simp only [wpQuiet] at h
    split at h
    · rename_i hw
      rw [if_pos hw]
      obtain ⟨v, h1, h2⟩ := h
      refine ⟨v, fun w hw => ?_, wpQuiet_in rest _ h2⟩
      have h3 := h1 w hw
      unfold Oper.quietAt at h3
      unfold Oper.quietAtIn
      generalize (execOp a.eval o).run P w = x at h3 ⊢
      match x, h3 with
      | .ok (.value u) w', h3 => exact h3
      | .ok .skip w', h3 => exact h3
      | .ok (.enter f args) w', h3 => exact ⟨h3.1, fun h => (nomatch h), callsIn_wide.2 h3.2⟩
    · rename_i hw
      rw [if_neg hw]
      exact wpQuiet_in rest _ h
theorem region_round {G : World → Prop} {id r : Nat} {a : Act} {w : World} {l : List Oper} (hd : noDefer l = true) (hm : P.follows .mixedOrders = true) (hB : Region.lexB .any l.toArray = true) (hG : G w.drew)
    (h : wpQuiet P l.toArray (fun w' => ∃ x : ClsW G, w' = x.val) (fun a' => ∀ w', (∃ x : ClsW G, w' = x.val) → Q .normal a' w') l a) : (Code.region id l.toArray true).wpIn (Fence.wide.inRound r) n P Q a w := by
  have hB2 := hB
  simp only [Region.lexB, Bool.and_eq_true] at hB2
  refine wpIn_region_draw fun t => ?_
  refine wpOpsIn_round r (by simpa using hd) _ _ _ ?_
  simp only [Region.schedule, hm, Bool.true_or, if_true]
  refine wpAnyIn_sound l.toArray.size t _ a _ ?_
  refine wpAnyIn_of_quiet (C := fun w' => ∃ x : ClsW G, w' = x.val) (Q := fun a' => ∀ w', (∃ x : ClsW G, w' = x.val) → Q .normal a' w') rfl (fun _ w' hw' h => h w' hw') _ _ _ _ ⟨⟨_, hG⟩, rfl⟩ ?_
  have := wpAnyQIn_lex (F := Fence.wide) (n := n) (C := fun w' => ∃ x : ClsW G, w' = x.val) (md := .any) hB2.1 l 0 (Array.replicate l.toArray.size false) a (by simp) (by simpa using hB2.2) (wpQuiet_in l a h)
  simpa using this
end
end Go.Proofs.Ytkogchmnpffiaaa
