/- The document's numbers and texts as bytes; unlike ones have unlike bytes. No program in sight. -/
import Derived.Test.YtiilgpffclhlcaaBase
namespace Go.Proofs.Ytiilgpffclhlcaa
set_option linter.unusedVariables false
open Go.RowKit

/-- a number's bytes: seven bits each, the lowest first -/
def numF : Nat → Nat → List UInt8
  | 0, x => [UInt8.ofNat x]
  | k + 1, x => if x < 128 then [UInt8.ofNat x] else UInt8.ofNat (x % 128 + 128) :: numF k (x / 128)

def numB (x : Nat) : List UInt8 := numF 9 x

theorem numF_len : ∀ k x, 1 ≤ (numF k x).length ∧ (numF k x).length ≤ k + 1
  | 0, x => by simp [numF]
  | k + 1, x => by
    unfold numF
    have := numF_len k (x / 128)
    split
    · simp
    · simp; omega

theorem numB_len (x : Nat) : 1 ≤ (numB x).length ∧ (numB x).length ≤ 10 := numF_len 9 x

theorem numF_low (k x : Nat) (h : x < 128) : numF k x = [UInt8.ofNat x] := by
  cases k with
  | zero => rfl
  | succ k => simp [numF, h]

theorem numF_high (k x : Nat) (h : ¬ x < 128) : numF (k + 1) x = UInt8.ofNat (x % 128 + 128) :: numF k (x / 128) := by simp [numF, h]

/-- a text of these bytes -/
def bstr (l : List UInt8) : ByteArray := ⟨⟨l⟩⟩

theorem bstr_app (l r : List UInt8) : bstr l ++ bstr r = bstr (l ++ r) := by
  apply ByteArray.ext
  simp [bstr, ByteArray.data_append]

theorem bstr_size (l : List UInt8) : (bstr l).size = l.length := by simp [bstr, ByteArray.size]

def foldN (x : Int) : Nat := if 0 ≤ x then 2 * x.toNat else (-(2 * x) - 1).toNat

/-- an int64, its bounds behind a name -/
def I64 (x : Int) : Prop := -9223372036854775808 ≤ x ∧ x ≤ 9223372036854775807

theorem foldN_lt (x : Int) (h : I64 x) : foldN x < M64 := by
  unfold I64 at h
  unfold foldN M64
  split <;> omega


theorem bstr_list (s : ByteArray) : bstr s.data.toList = s := by
  obtain ⟨⟨l⟩⟩ := s
  rfl
theorem bstr_toList (l : List UInt8) : (bstr l).toList = l := by rw [ByteArray.toList_eq]; rfl
theorem bstr_inj {a b : List UInt8} (h : bstr a = bstr b) : a = b := by
  unfold bstr at h
  injection h with h
  injection h

theorem u8_nat_inj {a b : Nat} (ha : a < 256) (hb : b < 256) (h : UInt8.ofNat a = UInt8.ofNat b) : a = b := by
  have := congrArg UInt8.toNat h
  simpa [Nat.mod_eq_of_lt ha, Nat.mod_eq_of_lt hb] using this

/-- numbers' bytes part from what is behind them -/
theorem numF_free : ∀ (k x y : Nat) (r s : List UInt8), x < 128 * 128 ^ k → y < 128 * 128 ^ k → numF k x ++ r = numF k y ++ s → x = y ∧ r = s
  | 0, x, y, r, s, hx, hy, h => by
    simp only [numF, List.cons_append, List.nil_append, List.cons.injEq] at h
    exact ⟨u8_nat_inj (by omega) (by omega) h.1, h.2⟩
  | k + 1, x, y, r, s, hx, hy, h => by
    by_cases hx1 : x < 128
    · rw [numF_low _ _ hx1] at h
      by_cases hy1 : y < 128
      · rw [numF_low _ _ hy1] at h
        simp only [List.cons_append, List.nil_append, List.cons.injEq] at h
        exact ⟨u8_nat_inj (by omega) (by omega) h.1, h.2⟩
      · rw [numF_high _ _ hy1] at h
        simp only [List.cons_append, List.nil_append, List.cons.injEq] at h
        have := u8_nat_inj (by omega) (by omega) h.1
        omega
    · rw [numF_high _ _ hx1] at h
      by_cases hy1 : y < 128
      · rw [numF_low _ _ hy1] at h
        simp only [List.cons_append, List.nil_append, List.cons.injEq] at h
        have := u8_nat_inj (by omega) (by omega) h.1
        omega
      · rw [numF_high _ _ hy1] at h
        simp only [List.cons_append, List.cons.injEq] at h
        have h1 := u8_nat_inj (by omega) (by omega) h.1
        have hd : ∀ z, z < 128 * 128 ^ (k + 1) → z / 128 < 128 * 128 ^ k := fun z hz => by
          rw [Nat.pow_succ] at hz
          exact Nat.div_lt_of_lt_mul (by rw [show 128 * (128 * 128 ^ k) = 128 * (128 ^ k * 128) by rw [Nat.mul_comm 128 (128 ^ k)]]; exact hz)
        obtain ⟨h2, h3⟩ := numF_free k (x / 128) (y / 128) r s (hd x hx) (hd y hy) h.2
        exact ⟨by omega, h3⟩
theorem numB_free {x y : Nat} {r s : List UInt8} (hx : x < M64) (hy : y < M64) (h : numB x ++ r = numB y ++ s) : x = y ∧ r = s :=
  numF_free 9 x y r s (by unfold M64 at hx; omega) (by unfold M64 at hy; omega) h
theorem foldN_inj {x y : Int} (h : foldN x = foldN y) : x = y := by
  unfold foldN at h
  split at h <;> split at h <;> omega
/-- a signed number's bytes -/
def intB (x : Int) : List UInt8 := numB (foldN x)
theorem intB_free {x y : Int} {r s : List UInt8} (hx : I64 x) (hy : I64 y) (h : intB x ++ r = intB y ++ s) : x = y ∧ r = s := by
  obtain ⟨h1, h2⟩ := numB_free (foldN_lt x hx) (foldN_lt y hy) h
  exact ⟨foldN_inj h1, h2⟩
theorem intB_len (x : Int) : (intB x).length ≤ 10 := (numB_len _).2
/-- a text's bytes -/
def txtB (s : List UInt8) : List UInt8 := numB s.length ++ s
theorem txtB_free {a b r s : List UInt8} (ha : a.length < M64) (hb : b.length < M64) (h : txtB a ++ r = txtB b ++ s) : a = b ∧ r = s := by
  unfold txtB at h
  rw [List.append_assoc, List.append_assoc] at h
  obtain ⟨h1, h2⟩ := numB_free ha hb h
  have := List.append_inj h2 h1
  exact this
theorem txtB_len (s : List UInt8) : (txtB s).length ≤ s.length + 10 := by
  unfold txtB
  have := numB_len s.length
  simp
  omega
end Go.Proofs.Ytiilgpffclhlcaa
