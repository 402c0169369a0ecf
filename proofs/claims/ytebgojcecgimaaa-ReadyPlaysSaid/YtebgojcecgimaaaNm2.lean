/- Names of two letters by number. No program in sight. -/
import Derived.Test.YtebgojcecgimaaaBase
namespace Go.Proofs.Ytebgojcecgimaaa
set_option linter.unusedVariables false
open Go.RowKit
def nm2 (i : Nat) : ByteArray := ⟨#[UInt8.ofNat (97 + i / 10), UInt8.ofNat (97 + i % 10)]⟩
theorem nm2_size (i : Nat) : (nm2 i).size = 2 := rfl
theorem nm2_inj {i j : Nat} (hi : i < 100) (hj : j < 100) (h : nm2 i = nm2 j) : i = j := by
  unfold nm2 at h
  injection h with h
  simp only [Array.mk.injEq, List.cons.injEq, and_true] at h
  obtain ⟨h1, h2⟩ := h
  have e1 := congrArg UInt8.toNat h1
  have e2 := congrArg UInt8.toNat h2
  simp only [UInt8.toNat_ofNat'] at e1 e2
  omega
theorem nm2_val (i : Nat) (hi : i < 100) : strOfNums [97 + (i : Int) / 10, 97 + (i : Int) % 10] = nm2 i := by
  have h1 : (97 + (i : Int) / 10) = ((UInt8.ofNat (97 + i / 10)).toNat : Int) := by simp; omega
  have h2 : (97 + (i : Int) % 10) = ((UInt8.ofNat (97 + i % 10)).toNat : Int) := by simp; omega
  have key : ∀ u v : UInt8, strOfNums [(u.toNat : Int), (v.toNat : Int)] = ⟨#[u, v]⟩ := fun u v => by simp [strOfNums]
  rw [h1, h2]
  exact key _ _
end Go.Proofs.Ytebgojcecgimaaa
