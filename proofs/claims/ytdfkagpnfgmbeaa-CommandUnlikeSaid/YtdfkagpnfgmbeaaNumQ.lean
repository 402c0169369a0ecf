/- The document's numbers and texts as bytes; unlike ones have unlike bytes (NumP over the octet texts). -/
import Derived.Test.YtdfkagpnfgmbeaaOctetG
import Derived.Laws.DeepNot64
namespace Go.Proofs.Ytdfkagpnfgmbeaa
set_option linter.unusedVariables false
open Go.RowKit

def foldN (x : Int) : Nat := if 0 ≤ x then 2 * x.toNat else (-(2 * x) - 1).toNat

theorem not64 (s : Nat) (h : s < 2 ^ 64) : s ^^^ 18446744073709551615 = 18446744073709551615 - s := by
  apply Nat.eq_of_testBit_eq
  intro i
  rw [Nat.testBit_xor, show 18446744073709551615 - s = 2 ^ 64 - (s + 1) by omega, Nat.testBit_two_pow_sub_succ h, show (18446744073709551615 : Nat) = 2 ^ 64 - 1 from rfl, Nat.testBit_two_pow_sub_one]
  by_cases hi : i < 64
  · simp [hi]
  · simp [hi, Nat.testBit_lt_two_pow (Nat.lt_of_lt_of_le h (Nat.pow_le_pow_right (by decide) (show 64 ≤ i by omega)))]

/-- an int64, its bounds behind a name -/
def I64 (x : Int) : Prop := -9223372036854775808 ≤ x ∧ x ≤ 9223372036854775807

theorem fold_eq (x : Int) (h : I64 x) : bits .xor .u64 (IntKind.u64.wrap (IntKind.u64.wrap x * 2)) (IntKind.u64.wrap (x / 9223372036854775808)) = ((foldN x : Nat) : Int) := by
  unfold I64 at h
  rw [IntKind.wrap_u64, IntKind.wrap_u64, IntKind.wrap_u64]
  unfold foldN
  by_cases h0 : 0 ≤ x
  · rw [if_pos h0]
    have e1 : x % 18446744073709551616 * 2 % 18446744073709551616 = ((2 * x.toNat : Nat) : Int) := by omega
    have e2 : x / 9223372036854775808 % 18446744073709551616 = ((0 : Nat) : Int) := by omega
    rw [e1, e2, u64_xor_nat _ _ (by omega) (by decide), Nat.xor_zero]
  · rw [if_neg h0]
    have e1 : x % 18446744073709551616 * 2 % 18446744073709551616 = (((2 * x + 18446744073709551616).toNat : Nat) : Int) := by omega
    have e2 : x / 9223372036854775808 % 18446744073709551616 = ((18446744073709551615 : Nat) : Int) := by omega
    rw [e1, e2, u64_xor_nat _ _ (by omega) (by decide), not64 _ (by omega)]
    omega

theorem foldN_lt (x : Int) (h : I64 x) : foldN x < M64 := by
  unfold I64 at h
  unfold foldN M64
  split <;> omega

theorem bstr_list (s : ByteArray) : bstr s.data.toList = s := by
  obtain ⟨⟨l⟩⟩ := s
  rfl
theorem bstr_toList (l : List UInt8) : (bstr l).toList = l := by rw [ByteArray.toList_eq]; rfl
theorem bstr_inj {a b : List UInt8} (h : bstr a = bstr b) : a = b := by
  unfold bstr at h
  injection h with h
  injection h

theorem u8_nat_inj {a b : Nat} (ha : a < 256) (hb : b < 256) (h : UInt8.ofNat a = UInt8.ofNat b) : a = b := by
  have := congrArg UInt8.toNat h
  simpa [Nat.mod_eq_of_lt ha, Nat.mod_eq_of_lt hb] using this

/-- numbers' bytes part from what is behind them -/
theorem numF_free : ∀ (k x y : Nat) (r s : List UInt8), x < 128 * 128 ^ k → y < 128 * 128 ^ k → numF k x ++ r = numF k y ++ s → x = y ∧ r = s
  | 0, x, y, r, s, hx, hy, h => by
    simp only [numF, List.cons_append, List.nil_append, List.cons.injEq] at h
    exact ⟨u8_nat_inj (by omega) (by omega) h.1, h.2⟩
  | k + 1, x, y, r, s, hx, hy, h => by
    by_cases hx1 : x < 128
    · rw [numF_low _ _ hx1] at h
      by_cases hy1 : y < 128
      · rw [numF_low _ _ hy1] at h
        simp only [List.cons_append, List.nil_append, List.cons.injEq] at h
        exact ⟨u8_nat_inj (by omega) (by omega) h.1, h.2⟩
      · rw [numF_high _ _ hy1] at h
        simp only [List.cons_append, List.nil_append, List.cons.injEq] at h
        have := u8_nat_inj (by omega) (by omega) h.1
        omega
    · rw [numF_high _ _ hx1] at h
      by_cases hy1 : y < 128
      · rw [numF_low _ _ hy1] at h
        simp only [List.cons_append, List.nil_append, List.cons.injEq] at h
        have := u8_nat_inj (by omega) (by omega) h.1
        omega
      · rw [numF_high _ _ hy1] at h
        simp only [List.cons_append, List.cons.injEq] at h
        have h1 := u8_nat_inj (by omega) (by omega) h.1
        have hd : ∀ z, z < 128 * 128 ^ (k + 1) → z / 128 < 128 * 128 ^ k := fun z hz => by
          rw [Nat.pow_succ] at hz
          exact Nat.div_lt_of_lt_mul (by rw [show 128 * (128 * 128 ^ k) = 128 * (128 ^ k * 128) by rw [Nat.mul_comm 128 (128 ^ k)]]; exact hz)
        obtain ⟨h2, h3⟩ := numF_free k (x / 128) (y / 128) r s (hd x hx) (hd y hy) h.2
        exact ⟨by omega, h3⟩
theorem numB_free {x y : Nat} {r s : List UInt8} (hx : x < M64) (hy : y < M64) (h : numB x ++ r = numB y ++ s) : x = y ∧ r = s :=
  numF_free 9 x y r s (by unfold M64 at hx; omega) (by unfold M64 at hy; omega) h
theorem foldN_inj {x y : Int} (h : foldN x = foldN y) : x = y := by
  unfold foldN at h
  split at h <;> split at h <;> omega
/-- a signed number's bytes -/
def intB (x : Int) : List UInt8 := numB (foldN x)
theorem intB_free {x y : Int} {r s : List UInt8} (hx : I64 x) (hy : I64 y) (h : intB x ++ r = intB y ++ s) : x = y ∧ r = s := by
  obtain ⟨h1, h2⟩ := numB_free (foldN_lt x hx) (foldN_lt y hy) h
  exact ⟨foldN_inj h1, h2⟩
theorem intB_len (x : Int) : (intB x).length ≤ 10 := (numB_len _).2
/-- a text's bytes -/
def txtB (s : List UInt8) : List UInt8 := numB s.length ++ s
theorem txtB_free {a b r s : List UInt8} (ha : a.length < M64) (hb : b.length < M64) (h : txtB a ++ r = txtB b ++ s) : a = b ∧ r = s := by
  unfold txtB at h
  rw [List.append_assoc, List.append_assoc] at h
  obtain ⟨h1, h2⟩ := numB_free ha hb h
  have := List.append_inj h2 h1
  exact this
theorem txtB_len (s : List UInt8) : (txtB s).length ≤ s.length + 10 := by
  unfold txtB
  have := numB_len s.length
  simp
  omega

theorem xor_m1 (a : Nat) (ha : a < 9223372036854775808) : bits .xor .i64 (a : Int) (-1) = -1 - (a : Int) := by
  rw [← i64_not a ha]
  show IntKind.i64.wrap ((BitVec.ofInt 64 (a : Int) ^^^ BitVec.ofInt 64 (-1)).toNat : Int) = IntKind.i64.wrap ((BitVec.ofInt 64 (-1) ^^^ BitVec.ofInt 64 (a : Int)).toNat : Int)
  rw [BitVec.xor_comm]
theorem xor_z (a : Nat) (ha : a < 9223372036854775808) : bits .xor .i64 (a : Int) 0 = (a : Int) := by
  show IntKind.i64.wrap ((BitVec.ofInt 64 (a : Int) ^^^ BitVec.ofInt 64 0).toNat : Int) = _
  have h1 : BitVec.ofInt 64 0 = 0#64 := by decide
  rw [h1, BitVec.xor_zero, ofInt_u64 a (by omega)]
  simp [IntKind.wrap, IntKind.bits, IntKind.signed]
  omega

theorem unfold_eq (n : Nat) (x : Int) (hx : -9223372036854775808 ≤ x ∧ x ≤ 9223372036854775807) (hf : n = if 0 ≤ x then 2 * x.toNat else (-(2 * x) - 1).toNat) :
    bits .xor .i64 (wrap64 ((n : Int) / 2)) (wrap64 (-wrap64 (bits .and .u64 (n : Int) 1))) = x := by
  have hn : n < 18446744073709551616 := by split at hf <;> omega
  have e1 : (1 : Int) = ((1 : Nat) : Int) := rfl
  have e2 : bits .and .u64 (n : Int) 1 = ((n % 2 : Nat) : Int) := by rw [e1, u64_and_nat n 1 hn (by decide), Nat.and_one_is_mod]
  have e3 : wrap64 ((n : Int) / 2) = ((n / 2 : Nat) : Int) := by
    unfold wrap64
    omega
  rw [e2, e3]
  by_cases h : 0 ≤ x
  · rw [if_pos h] at hf
    have h2 : n % 2 = 0 := by omega
    rw [h2]
    rw [show wrap64 (-wrap64 ((0 : Nat) : Int)) = 0 by (unfold wrap64; omega), xor_z _ (by omega)]
    omega
  · rw [if_neg h] at hf
    have h2 : n % 2 = 1 := by omega
    rw [h2]
    rw [show wrap64 (-wrap64 ((1 : Nat) : Int)) = -1 by (unfold wrap64; omega), xor_m1 _ (by omega)]
    omega

end Go.Proofs.Ytdfkagpnfgmbeaa
