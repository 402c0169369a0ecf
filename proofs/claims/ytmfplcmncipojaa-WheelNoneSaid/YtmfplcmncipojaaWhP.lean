/- A wheel in plain words: places, and what a step turns. No program in sight. -/
import Derived.Test.YtmfplcmncipojaaMaps
namespace Go.Proofs.Ytmfplcmncipojaa
set_option linter.unusedVariables false

/-- where a deadline belongs, as the wheel stands -/
def fnd (now a : Int) : Int × Int :=
  if a ≤ now then (-1, 0)
  else if a / 64 = now / 64 then (0, a % 64)
  else if a / 4096 = now / 4096 then (1, a / 64 % 64)
  else if a / 262144 = now / 262144 then (2, a / 4096 % 64)
  else if a / 16777216 = now / 16777216 then (3, a / 262144 % 64)
  else (4, 0)
/-- a place -/
def okP (p : Int × Int) : Prop := (p.1 = -1 ∧ p.2 = 0) ∨ (p.1 = 4 ∧ p.2 = 0) ∨ (0 ≤ p.1 ∧ p.1 ≤ 3 ∧ 0 ≤ p.2 ∧ p.2 ≤ 63)
/-- the slot of a place: 256 is far away, 257 due -/
def slt (p : Int × Int) : Nat := if p.1 = -1 then 257 else if p.1 = 4 then 256 else (64 * p.1 + p.2).toNat
theorem slt_lt {p : Int × Int} (h : okP p) : slt p < 258 := by
  unfold okP at h
  unfold slt
  repeat' split
  all_goals omega
theorem slt_inj {p q : Int × Int} (hp : okP p) (hq : okP q) (h : slt p = slt q) : p = q := by
  unfold okP at hp hq
  unfold slt at h
  have : p.1 = q.1 ∧ p.2 = q.2 := by
    repeat' split at h
    all_goals omega
  exact Prod.ext this.1 this.2
theorem fnd_ok (now a : Int) : okP (fnd now a) := by
  unfold fnd okP
  repeat' split
  all_goals simp
  all_goals omega
theorem fnd_due {now a : Int} (h : a ≤ now) : fnd now a = (-1, 0) := by unfold fnd; rw [if_pos h]
theorem fnd_due_iff {now a : Int} : fnd now a = (-1, 0) ↔ a ≤ now := by
  constructor
  · intro h
    unfold fnd at h
    repeat' split at h
    all_goals first | assumption | (simp at h)
  · exact fnd_due
/-- the places that come down at a tick -/
def comes (t : Int) (p : Int × Int) : Prop :=
  (p = (4, 0) ∧ t % 16777216 = 0) ∨ (p = (3, t / 262144 % 64) ∧ t % 262144 = 0) ∨ (p = (2, t / 4096 % 64) ∧ t % 4096 = 0) ∨ (p = (1, t / 64 % 64) ∧ t % 64 = 0) ∨ p = (0, t % 64)
/-- a step leaves a timer's place right, or it comes down -/
theorem step_place {now t a : Int} (h0 : 0 ≤ now) (h1 : now < t) (h2 : (t - 1) / 64 = now / 64) (h3 : a ≤ now ∨ t ≤ a) : fnd t a = fnd now a ∨ comes t (fnd now a) := by
  rcases h3 with h3 | h3
  · left
    rw [fnd_due h3, fnd_due (by omega)]
  · unfold comes
    unfold fnd
    rw [if_neg (show ¬ a ≤ now by omega)]
    by_cases e1 : a / 64 = now / 64
    · rw [if_pos e1]
      by_cases ht : a ≤ t
      · right; right; right; right; right
        have : a = t := by omega
        rw [this]
      · left
        rw [if_neg ht, if_pos (show a / 64 = t / 64 by omega)]
    · rw [if_neg e1]
      by_cases e2 : a / 4096 = now / 4096
      · rw [if_pos e2]
        by_cases hc : a / 64 = t / 64
        · right; right; right; right; left
          exact ⟨by rw [hc], by omega⟩
        · left
          rw [if_neg (show ¬ a ≤ t by omega), if_neg hc, if_pos (show a / 4096 = t / 4096 by omega)]
      · rw [if_neg e2]
        by_cases e3 : a / 262144 = now / 262144
        · rw [if_pos e3]
          by_cases hc : a / 4096 = t / 4096
          · right; right; right; left
            exact ⟨by rw [hc], by omega⟩
          · left
            rw [if_neg (show ¬ a ≤ t by omega), if_neg (show ¬ a / 64 = t / 64 by omega), if_neg hc, if_pos (show a / 262144 = t / 262144 by omega)]
        · rw [if_neg e3]
          by_cases e4 : a / 16777216 = now / 16777216
          · rw [if_pos e4]
            by_cases hc : a / 262144 = t / 262144
            · right; right; left
              exact ⟨by rw [hc], by omega⟩
            · left
              rw [if_neg (show ¬ a ≤ t by omega), if_neg (show ¬ a / 64 = t / 64 by omega), if_neg (show ¬ a / 4096 = t / 4096 by omega), if_neg hc, if_pos (show a / 16777216 = t / 16777216 by omega)]
          · rw [if_neg e4]
            by_cases hc : a / 16777216 = t / 16777216
            · right; left
              exact ⟨rfl, by omega⟩
            · left
              rw [if_neg (show ¬ a ≤ t by omega), if_neg (show ¬ a / 64 = t / 64 by omega), if_neg (show ¬ a / 4096 = t / 4096 by omega), if_neg (show ¬ a / 262144 = t / 262144 by omega), if_neg hc]
/-- a timer that is near stands in its tick's slot -/
theorem near_place {now t a : Int} (h1 : now < a) (h2 : a < t) (h3 : (t - 1) / 64 = now / 64) : fnd now a = (0, a % 64) := by
  unfold fnd
  rw [if_neg (show ¬ a ≤ now by omega), if_pos (show a / 64 = now / 64 by omega)]
theorem i64_and_nat (a b : Nat) (ha : a < 9223372036854775808) (hb : b < 9223372036854775808) : bits .and .i64 (a : Int) (b : Int) = ((a &&& b : Nat) : Int) := by
  have hx : a &&& b < 2 ^ 63 := Nat.and_lt_two_pow _ (by omega)
  have h1 : (BitVec.ofInt 64 (a : Int)).toNat = a := by
    rw [BitVec.ofInt_natCast, BitVec.toNat_ofNat]; exact Nat.mod_eq_of_lt (by omega)
  have h2 : (BitVec.ofInt 64 (b : Int)).toNat = b := by
    rw [BitVec.ofInt_natCast, BitVec.toNat_ofNat]; exact Nat.mod_eq_of_lt (by omega)
  show IntKind.i64.wrap ((BitVec.ofInt 64 (a : Int) &&& BitVec.ofInt 64 (b : Int)).toNat : Int) = _
  rw [BitVec.toNat_and, h1, h2, IntKind.wrap_i64]
  omega
/-- the lowest bits -/
theorem i64_mask (x : Int) (k : Nat) (hk : k < 63) (h0 : 0 ≤ x) (h1 : x < 9223372036854775808) : bits .and .i64 x ((2 ^ k - 1 : Nat) : Int) = x % ((2 ^ k : Nat) : Int) := by
  obtain ⟨a, rfl⟩ : ∃ a : Nat, x = (a : Int) := ⟨x.toNat, by omega⟩
  have hp : 2 ^ k < 2 ^ 63 := Nat.pow_lt_pow_right (by omega) hk
  rw [i64_and_nat a (2 ^ k - 1) (by omega) (by omega), Nat.and_two_pow_sub_one_eq_mod]
  omega
theorem i64_mask6 (x : Int) (h0 : 0 ≤ x) (h1 : x < 9223372036854775808) : bits .and .i64 x 63 = x % 64 := i64_mask x 6 (by omega) h0 h1
theorem i64_mask12 (x : Int) (h0 : 0 ≤ x) (h1 : x < 9223372036854775808) : bits .and .i64 x 4095 = x % 4096 := i64_mask x 12 (by omega) h0 h1
theorem i64_mask18 (x : Int) (h0 : 0 ≤ x) (h1 : x < 9223372036854775808) : bits .and .i64 x 262143 = x % 262144 := i64_mask x 18 (by omega) h0 h1
theorem i64_mask24 (x : Int) (h0 : 0 ≤ x) (h1 : x < 9223372036854775808) : bits .and .i64 x 16777215 = x % 16777216 := i64_mask x 24 (by omega) h0 h1
end Go.Proofs.Ytmfplcmncipojaa
