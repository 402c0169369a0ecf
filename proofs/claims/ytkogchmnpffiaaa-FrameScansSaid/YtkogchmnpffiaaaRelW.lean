/- A region that draws its order: a block that is made in its midst. No program in sight. -/
import Derived.Test.YtkogchmnpffiaaaRelP
import Derived.Test.YtkogchmnpffiaaaRelV
namespace Go.Proofs.Ytkogchmnpffiaaa
set_option linter.unusedVariables false
open Go.RowKit
theorem anti_tailW {P : Program} {ops : Array Oper} {Q : Exit → Act → World → Prop} {l : List Oper} {G : World → World → Prop} {W0 : World} (a : Act) (F F' : World → Prop) (h : ∀ w, F' w → F w)
    (hQ : ∀ w', G W0 w' → F w' → wpList P ops Q l a w') : ∀ w', G W0 w' → F' w' → wpList P ops Q l a w' := fun w' hg hf => hQ w' hg (h w' hf)
/-- a pointer to a block that was made since B -/
def SpN (B : Nat) (C : Array Value) (T : TypeId) (v : Value) (w : World) : Prop := ∃ b, v = .pointer (some ⟨b, 0, none⟩) ∧ Blk w b C T ∧ B ≤ b
theorem spN_step (B : Nat) (C : Array Value) (T : TypeId) : ∀ v w w', SpN B C T v w → Step [] w w' → SpN B C T v w' := fun v w w' ⟨b, h1, h2, h3⟩ hs => ⟨b, h1, h2.step hs (by simp), h3⟩
end Go.Proofs.Ytkogchmnpffiaaa
