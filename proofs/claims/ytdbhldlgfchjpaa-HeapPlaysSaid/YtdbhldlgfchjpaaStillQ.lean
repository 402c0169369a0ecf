/- A lexical walk of a region by the quiet steps, at the class of one world. No program in sight. -/
import Derived.Test.YtdbhldlgfchjpaaBlocks
import Derived.StillTail
namespace Go.Proofs.Ytdbhldlgfchjpaa
set_option linter.unusedVariables false
open Go.RowKit
section
variable {P : Program} {ops : Array Oper} {Q : Act → Prop} {w : World}
theorem wpStill_of_quiet : ∀ (l : List Oper) (a : Act), wpQuiet P ops (fun w' => ∃ x : ClsW (fun W => W = w), w' = x.val) Q l a → wpStill P ops w Q l a
  | [], _, h => h
  | o :: rest, a, h => by
    simp only [wpQuiet] at h
    simp only [wpStill]
    split at h
    · rename_i hw
      rw [if_pos hw]
      obtain ⟨v, h1, h2⟩ := h
      have h3 := h1 w ⟨⟨w, rfl⟩, rfl⟩
      have h4 := wpStill_of_quiet rest _ h2
      unfold Oper.quietAt at h3
      unfold Oper.still
      generalize (execOp a.eval o).run P w = x at h3 ⊢
      match x, h3 with
      | .ok (.value u) w', h3 => exact ⟨h3.1, by rw [h3.2]; exact h4⟩
      | .ok .skip w', h3 => exact ⟨h3.1, by rw [← h3.2]; exact h4⟩
      | .ok (.enter f args) w', h3 => exact ⟨h3.1, v, h3.2.mono fun e w'' hh => ⟨hh.1, by obtain ⟨x, hx⟩ := hh.2; rw [hx, x.ok]⟩, h4⟩
    · rename_i hw
      rw [if_neg hw]
      exact wpStill_of_quiet rest _ h
end
end Go.Proofs.Ytdbhldlgfchjpaa
