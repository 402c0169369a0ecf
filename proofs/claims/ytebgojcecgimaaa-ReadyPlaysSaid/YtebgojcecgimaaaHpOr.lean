/- cmp.Or of two. -/
import Derived.Test.YtebgojcecgimaaaHpO
namespace Go.Proofs.Ytebgojcecgimaaa
set_option linter.unusedVariables false
open Go.RowKit
theorem or_any (b : Nat) (x y : Int) (w : World) (h0 : w.cell? ⟨b, 0, none⟩ = some (.int .i64 x)) (h1 : w.cell? ⟨b, 1, none⟩ = some (.int .i64 y)) :
    Calls Try.prog 39 #[.slice (some ⟨b, 0, none⟩) 2 2] w fun e w' => e = .returned (.int .i64 (if x ≠ 0 then x else y)) ∧ w = w' := by
  go_enter Try.func39, Try.ntmps39
  go_wp2_with fail
  go_loop [8] (fun i => i = .int .i64 0 ∨ (i = .int .i64 1 ∧ x = 0) ∨ (i = .int .i64 2 ∧ x = 0 ∧ y = 0)) (fun i => 2 - (intOf i).toNat)
  case atStart => exact .inl rfl
  case round =>
    rcases hrel with rfl | ⟨rfl, hx⟩ | ⟨rfl, hx, hy⟩
    · by_cases hx : x = 0
      · subst hx
        go_wp2_with fail
        go_round
        case rel => exact .inr (.inl ⟨rfl, trivial⟩)
        case measure => simp [intOf]
      · have hx2 : (x == 0) = false := by simpa using hx
        have hx3 : (x != 0) = true := by simpa using hx
        go_wp2_with fail
        go_ret
        exact ⟨rfl, rfl⟩
    · subst hx
      by_cases hy : y = 0
      · subst hy
        go_wp2_with fail
        go_round
        case rel => exact .inr (.inr ⟨rfl, trivial, trivial⟩)
        case measure => simp [intOf]
      · have hy3 : (y != 0) = true := by simpa using hy
        go_wp2_with fail
        go_ret
        exact ⟨ret_int (by simp), rfl⟩
    · subst hx
      subst hy
      go_wp2_with fail
      go_ret
      exact ⟨ret_int (by simp), rfl⟩
end Go.Proofs.Ytebgojcecgimaaa
