/- octet.Reader: Num, where a number stands. -/
import Derived.Test.YtllpcddfnjbeaaaOctetLives
import Derived.Test.YtllpcddfnjbeaaaRefNum
namespace Go.Proofs.Ytllpcddfnjbeaaa
set_option linter.unusedVariables false
open Go.RowKit

theorem and_127 (b : Nat) (h : b < 256) : bits .and .u8 (b : Int) 127 = ((b % 128 : Nat) : Int) := by
  have e : (127 : Int) = ((127 : Nat) : Int) := rfl
  rw [e, u8_and_nat _ _ h (by decide)]
  have := Nat.and_two_pow_sub_one_eq_mod b 7
  simp at this
  rw [this]
theorem or_join (a c s : Nat) (ha : a < 2 ^ s) (h : c * 2 ^ s < 18446744073709551616) (h2 : a < 18446744073709551616) : bits .or .u64 (a : Int) ((c * 2 ^ s : Nat) : Int) = ((a + c * 2 ^ s : Nat) : Int) := by
  rw [u64_or_nat _ _ h2 h, Nat.or_comm, Nat.mul_comm, ← Nat.two_pow_add_eq_or_of_lt ha, Nat.add_comm]

theorem join_val' (a c s : Nat) (ha : a < 2 ^ s) (h : a + c * 2 ^ s < 18446744073709551616) : bits .or .u64 (a : Int) (IntKind.u64.wrap ((c : Int) * 2 ^ s)) = ((a + c * 2 ^ s : Nat) : Int) := by
  have e : ((c : Int) * 2 ^ s) = ((c * 2 ^ s : Nat) : Int) := by simp
  rw [e, IntKind.wrap_u64, Int.emod_eq_of_lt (by omega) (by omega)]
  exact or_join a c s ha (by omega) (by omega)
theorem join_val (a c s x0 : Nat) (ha : a < 2 ^ s) (h : a + c * 2 ^ s = x0) (hx : x0 < M64) : bits .or .u64 (a : Int) (IntKind.u64.wrap ((c : Int) * 2 ^ s)) = ((a + c * 2 ^ s : Nat) : Int) :=
  join_val' a c s ha (by unfold M64 at hx; omega)

theorem numF_cons (k x : Nat) (rest : List UInt8) : numF k x ++ rest = if x < 128 then UInt8.ofNat x :: rest else (match k with | 0 => UInt8.ofNat x :: rest | k + 1 => UInt8.ofNat (x % 128 + 128) :: (numF k (x / 128) ++ rest)) := by
  by_cases h : x < 128
  · rw [if_pos h, numF_low k x h]; rfl
  · rw [if_neg h]
    cases k with
    | zero => rfl
    | succ k => rw [numF_high k x h]; rfl

set_option maxRecDepth 100000 in
set_option maxHeartbeats 4000000 in
theorem rnum_ok (rb db : Nat) (x0 : Nat) (rest : List UInt8) (w : World) (hx : x0 < M64) (h : Rd w rb db (numB x0 ++ rest) 0) :
    Calls Try.prog 21 #[.pointer (some ⟨rb, 0, none⟩)] w fun en w' => en = .returned (.int .u64 x0) ∧ Left rb db rest 0 w w' := by
  have HR := Lib.hid h
  have HX := Lib.hid hx
  clear h hx
  go_enter Try.func21, Try.ntmps21
  go_wp2_with fail
  go_loopw [3, 4, 5] (fun a s _ wr => ∃ (i k x acc : Nat), s = .int .i64 ((7 * i : Nat) : Int) ∧ a = .int .u64 acc ∧ i ≤ 9 ∧ acc < 2 ^ (7 * i) ∧ acc + x * 2 ^ (7 * i) = x0 ∧ (0 < i → 0 < x) ∧ x < 128 * 128 ^ k ∧ Rd wr rb db (numF k x ++ rest) 0 ∧ Step [rb] w wr) (fun _ s _ _ => 64 - (intOf s).toNat)
  case atStart => exact ⟨0, 9, x0, 0, rfl, rfl, by omega, by decide, by simp, fun h => by omega, by have := HX.out; unfold M64 at this; omega, HR.out, Step.refl _ _⟩
  case round =>
    obtain ⟨i, k, x, acc, rfl, rfl, hi, hacc, hsum, hpos, hxk, hR, hs⟩ := hrel
    have HE := Lib.hid (rerr_any rb db _ _ _ hR)
    have HO := Lib.hid (rone_any rb db _ _ _ hR)
    have HS := Lib.hid hs
    have H1 := Lib.hid hacc
    have H2 := Lib.hid hsum
    have H3 := Lib.hid hxk
    clear hR hs hacc hsum hxk
    by_cases hx : x < 128
    · have ho : oneR (numF k x ++ rest) 0 = (UInt8.ofNat x, rest, 0) := by rw [numF_cons, if_pos hx]; rfl
      rw [ho] at HO
      have ht : ((UInt8.ofNat x).toNat : Int) = (x : Int) := by simp; omega
      simp only [ht] at HO
      clear ho ht
      go_wp2_with fail
      refine HE.out.mono ?_
      rintro e w1 ⟨rfl, rfl⟩
      go_wp2_with fail
      refine HO.out.mono ?_
      rintro e w2 ⟨rfl, hL⟩
      have HE2 := Lib.hid (rerr_any rb db _ _ _ hL.1)
      have HL := Lib.hid hL
      clear hL HE HO
      go_wp2_with fail
      refine HE2.out.mono ?_
      rintro e w3 ⟨rfl, rfl⟩
      have g1 : decide ((63 : Int) < 7 * (i : Int)) = false := by simp; omega
      have ha := and_127 x (by omega)
      rw [Nat.mod_eq_of_lt hx] at ha
      have hj := join_val acc x (7 * i) x0 H1.out H2.out HX.out
      by_cases hx0 : x = 0
      · have hi0 : i = 0 := by
          rcases Nat.eq_zero_or_pos i with h | h
          · exact h
          · have := hpos h; omega
        have g4 : ((x : Int) == 0) = true := by simp [hx0]
        have g5 : decide ((0 : Int) < 7 * (i : Int)) = false := by simp; omega
        have g2 : (7 * (i : Int) == 63) = false := by simp; omega
        have HI := Lib.hid hi0
        have HX0 := Lib.hid hx0
        clear hi0 hx0
        go_wp2_with fail
        go_ret
        exact ⟨ret_int (by rw [← H2.out]; simp), HL.out.1, HS.out.trans HL.out.2 (fun k hk => .inl hk)⟩
      · have g4 : ((x : Int) == 0) = false := by simp; omega
        by_cases h9 : i = 9
        · have hx1 : x ≤ 1 := by
            have h2 := H2.out
            have h3 := HX.out
            rw [h9] at h2
            unfold M64 at h3
            omega
          have g2 : (7 * (i : Int) == 63) = true := by simp; omega
          have g3 : decide (1 < (x : Int)) = false := by simp; omega
          have H9 := Lib.hid h9
          clear h9
          go_wp2_with fail
          go_ret
          exact ⟨ret_int (by rw [← H2.out]; simp), HL.out.1, HS.out.trans HL.out.2 (fun k hk => .inl hk)⟩
        · have g2 : (7 * (i : Int) == 63) = false := by simp; omega
          go_wp2_with fail
          go_ret
          exact ⟨ret_int (by rw [← H2.out]; simp), HL.out.1, HS.out.trans HL.out.2 (fun k hk => .inl hk)⟩
    · obtain ⟨k, rfl⟩ : ∃ j, k = j + 1 := by
        cases k with
        | zero => have := H3.out; omega
        | succ j => exact ⟨j, rfl⟩
      have hx9 : i ≠ 9 := by
        intro h9
        have h2 := H2.out
        have h3 := HX.out
        rw [h9] at h2
        unfold M64 at h3
        omega
      have ho : oneR (numF (k + 1) x ++ rest) 0 = (UInt8.ofNat (x % 128 + 128), numF k (x / 128) ++ rest, 0) := by rw [numF_cons, if_neg hx]; rfl
      rw [ho] at HO
      obtain ⟨y, hy⟩ : ∃ y, y = x % 128 + 128 := ⟨_, rfl⟩
      rw [← hy] at HO
      have hy2 : 128 ≤ y ∧ y < 256 := by omega
      have ht : ((UInt8.ofNat y).toNat : Int) = (y : Int) := by simp; omega
      simp only [ht] at HO
      have ha := and_127 y hy2.2
      rw [show y % 128 = x % 128 by omega] at ha
      clear ho ht
      have g1 : decide ((63 : Int) < 7 * (i : Int)) = false := by simp; omega
      have g2 : (7 * (i : Int) == 63) = false := by simp; omega
      have g4 : ((y : Int) == 0) = false := by simp; omega
      have hsplit : acc + (x % 128) * 2 ^ (7 * i) + (x / 128) * 2 ^ (7 * (i + 1)) = x0 := by
        have h2 := H2.out
        have e1 : (x / 128) * 2 ^ (7 * (i + 1)) = (x / 128 * 128) * 2 ^ (7 * i) := by
          rw [show 7 * (i + 1) = 7 * i + 7 by omega, Nat.pow_add, Nat.mul_assoc, Nat.mul_comm (2 ^ (7 * i)) (2 ^ 7)]
        rw [e1, Nat.add_assoc, ← Nat.add_mul, show x % 128 + x / 128 * 128 = x by omega]
        exact h2
      have hj := join_val' acc (x % 128) (7 * i) H1.out (by have h9 := HX.out; unfold M64 at h9; omega)
      have hacc2 : acc + (x % 128) * 2 ^ (7 * i) < 2 ^ (7 * (i + 1)) := by
        have h1 := H1.out
        have e2 : 2 ^ (7 * (i + 1)) = 128 * 2 ^ (7 * i) := by rw [show 7 * (i + 1) = 7 * i + 7 by omega, Nat.pow_add, Nat.mul_comm]
        rw [e2]
        have h3 : (x % 128 + 1) * 2 ^ (7 * i) ≤ 128 * 2 ^ (7 * i) := Nat.mul_le_mul_right _ (by omega)
        rw [Nat.add_mul, Nat.one_mul] at h3
        omega
      have HSP := Lib.hid hsplit
      have HA2 := Lib.hid hacc2
      have hxk2 : x / 128 < 128 * 128 ^ k := by
        have h3 := H3.out
        rw [Nat.pow_succ] at h3
        exact Nat.div_lt_of_lt_mul (by rw [show 128 * (128 * 128 ^ k) = 128 * (128 ^ k * 128) by rw [Nat.mul_comm 128 (128 ^ k)]]; exact h3)
      have HXK := Lib.hid hxk2
      have hxp : 0 < x / 128 := by omega
      have HY := Lib.hid hy
      clear hsplit hacc2 hxk2 hy
      go_wp2_with fail
      refine HE.out.mono ?_
      rintro e w1 ⟨rfl, rfl⟩
      go_wp2_with fail
      refine HO.out.mono ?_
      rintro e w2 ⟨rfl, hL⟩
      have HE2 := Lib.hid (rerr_any rb db _ _ _ hL.1)
      have HL := Lib.hid hL
      clear hL HE HO
      go_wp2_with fail
      refine HE2.out.mono ?_
      rintro e w3 ⟨rfl, rfl⟩
      go_wp2_with fail
      go_roundw
      case rel => exact ⟨i + 1, k, x / 128, _, by go_num, congrArg (Value.int .u64) hj, by omega, HA2.out, HSP.out, fun _ => hxp, HXK.out, HL.out.1, HS.out.trans HL.out.2 (fun k hk => .inl hk)⟩
      case measure => simp [intOf]; omega
end Go.Proofs.Ytllpcddfnjbeaaa
