/- Several texts in one: WalKz. -/
import Derived.Test.YtdmnhkmpfnhmdaaWpK
section
namespace Go.Proofs.Ytdmnhkmpfnhmdaa
set_option linter.unusedVariables false
open Go.RowKit

theorem AksIn.step {w w' : World} {a : Option Addr} {l : List Ak} (h : AksIn w a l) (hs : Step [] w w') : AksIn w' a l := fun i hi => by
  obtain ⟨b, off, ha, hlt, h0, h1, h2, h3, h4, h5, h6⟩ := h i hi
  exact ⟨b, off, ha, Nat.lt_of_lt_of_le hlt hs.size, (hs.cell hlt (by simp)).trans h0, (hs.cell hlt (by simp)).trans h1, (hs.cell hlt (by simp)).trans h2, (hs.cell hlt (by simp)).trans h3, (hs.cell hlt (by simp)).trans h4, h5.stepA hs (by simp), fun hq b off hb => Nat.lt_of_lt_of_le (h6 hq b off hb) hs.size⟩
theorem keeps_all (a : Option Addr) (cap : Nat) (l : List Ak) (w : World) (hA : AksIn w a l) :
    Calls Try.prog 7 #[.slice a l.length cap] w fun e w' => e = .returned (.bool true) ∧ Step [] w w' := keeps_law a cap l w (fun _ hs => hA.step hs)
end Go.Proofs.Ytdmnhkmpfnhmdaa
end
