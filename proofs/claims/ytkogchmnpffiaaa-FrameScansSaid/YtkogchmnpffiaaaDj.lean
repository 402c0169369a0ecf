/- blocks apart. No program in sight. -/
import Derived.Test.YtkogchmnpffiaaaSep
namespace Go.Proofs.Ytkogchmnpffiaaa
set_option linter.unusedVariables false
open Go.RowKit
def Dj (F G : List Nat) : Prop := ∀ k, k ∈ F → k ∉ G
theorem Dj.symm {F G : List Nat} (h : Dj F G) : Dj G F := fun k hg hf => h k hf hg
theorem Dj.fresh {F G G' : List Nat} {w : World} (h : Dj F G) (hl : ∀ k, k ∈ F → k < w.heap.size) (hf : Fresh w G G') : Dj F G' := fun k hk hg =>
  (hf k hg).elim (h k hk) (fun h2 => by have := hl k hk; omega)
end Go.Proofs.Ytkogchmnpffiaaa
