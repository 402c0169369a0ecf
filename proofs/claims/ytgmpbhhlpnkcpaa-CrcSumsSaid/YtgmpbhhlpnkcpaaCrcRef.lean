/- crc: the walk of the document's sum, and of the chapter's example. -/
import Derived.Test.YtgmpbhhlpnkcpaaCrcWalk
import Derived.Lib.SlBytesConst
namespace Go.Proofs.Ytgmpbhhlpnkcpaa
set_option linter.unusedVariables false
open Go.RowKit

theorem bit_of {x c j : Nat} (hx : x < 4294967296) (hc : c < 256) :
    bits .xor .u32 (bits .and .u32 (x : Int) 1) (bits .and .u32 ((c : Int) / 2 ^ j % 4294967296) 1) = ((x % 2 ^^^ c / 2 ^ j % 2 : Nat) : Int) := by
  have h1 : c / 2 ^ j < 256 := Nat.lt_of_le_of_lt (Nat.div_le_self _ _) hc
  have e : (c : Int) / 2 ^ j % 4294967296 = ((c / 2 ^ j : Nat) : Int) := by
    have : (c : Int) / 2 ^ j = ((c / 2 ^ j : Nat) : Int) := by simp
    rw [this]
    generalize c / 2 ^ j = d at h1
    omega
  rw [e, u32_and_one x hx, u32_and_one _ (by omega), u32_xor_nat _ _ (by omega) (by omega)]

theorem half_of {x : Nat} (hx : x < 4294967296) : (x : Int) / 2 % 4294967296 = (x : Int) / 2 := by omega

theorem refBit_odd {x c j : Nat} (hx : x < 4294967296) (hc : c < 256)
    (h : (bits .xor .u32 (bits .and .u32 (x : Int) 1) (bits .and .u32 ((c : Int) / 2 ^ j % 4294967296) 1) == 1) = true) :
    bits .xor .u32 ((x : Int) / 2 % 4294967296) 3988292384 = ((refBit x c j : Nat) : Int) := by
  rw [bit_of hx hc] at h
  have h1 : x % 2 ^^^ c / 2 ^ j % 2 = 1 := by have := beq_iff_eq.1 h; omega
  rw [half_of hx, u32_xor_poly x hx]
  unfold refBit
  rw [if_pos h1]
theorem refBit_even {x c j : Nat} (hx : x < 4294967296) (hc : c < 256)
    (h : (bits .xor .u32 (bits .and .u32 (x : Int) 1) (bits .and .u32 ((c : Int) / 2 ^ j % 4294967296) 1) == 1) = false) :
    (x : Int) / 2 % 4294967296 = ((refBit x c j : Nat) : Int) := by
  rw [bit_of hx hc] at h
  have h1 : ¬ x % 2 ^^^ c / 2 ^ j % 2 = 1 := by have := beq_eq_false_iff_ne.1 h; omega
  rw [half_of hx]
  unfold refBit
  rw [if_neg h1]
  rfl

set_option maxHeartbeats 400000 in
theorem lives_any (w : World) :
    Calls Try.prog 7 #[] w fun e w' => e = .returned (.bool true) ∧ Below w.heap.size w w' := by
  have kc := fun (w : World) (C : Array Value) (n c : Nat) => Lib.run_convert_bytes_const (P := Try.prog) w 22 5 C n c Try.underlying22 Try.underlying5
  go_enter Try.func7, Try.ntmps7
  go_wp2_with fail
  refine (sum_any _ _ _ [49, 50, 51, 52, 53, 54, 55, 56, 57] _ rfl (by decide) ?_).mono ?_
  · intro i hi
    refine ⟨w.heap.size, 0, rfl, by simp, ?_⟩
    match i, hi with
    | 0, _ | 1, _ | 2, _ | 3, _ | 4, _ | 5, _ | 6, _ | 7, _ | 8, _ => simp [World.cell?_alloc_mark]
    | n + 9, h => simp at h; omega
  rw [sum_example]
  rintro e w' ⟨rfl, rfl⟩
  go_wp2_with fail
  go_ret
  exact ⟨rfl, (Below.refl _ _).alloc (Nat.le_refl _) _⟩

set_option maxHeartbeats 1000000 in
theorem ref_any (a : Option Addr) (len cap : Nat) (l : List UInt8) (w : World) (hlen : l.length = len) (hm : len ≤ maxLen) (hc : Bytes w a l) :
    Calls Try.prog 9 #[.slice a len cap] w fun e w' => e = .returned (.int .u32 (moreN 0 l)) ∧ w = w' := by
  unfold maxLen at hm
  go_enter Try.func9, Try.ntmps9
  go_wp2
  go_loop [3, 5, 6, 7, 10, 14] (fun t _ _ _ i _ => ∃ k : Nat, k ≤ len ∧ i = .int .i64 k ∧ t = .int .u32 (runN 4294967295 (l.take k))) (fun _ _ _ _ i _ => len - (intOf i).toNat)
  case atStart => exact ⟨0, by omega, rfl, rfl⟩
  case round =>
    obtain ⟨k, hk, rfl, rfl⟩ := hrel
    have hx := runN_lt (l.take k) (s := 4294967295) (by omega)
    have HX := Lib.hid hx
    have HL := Lib.hid hlen
    by_cases hlt : k < len
    · obtain ⟨b, off, rfl, _, hcell⟩ := hc k (by omega)
      have hbyte := (l.getD k 0).toNat_lt
      have HT := Lib.hid (run_take 4294967295 l k (by omega))
      clear hlen hc hx
      generalize hy : runN 4294967295 (l.take k) = y at *
      have HY := Lib.hid hy
      clear hy
      generalize (l.getD k 0).toNat = c at *
      go_wp2
      go_loop [3, 6, 7, 14] (fun t _ _ i => ∃ j : Nat, j ≤ 8 ∧ i = .int .i64 j ∧ t = .int .u32 (refBits y c j)) (fun _ _ _ i => 8 - (intOf i).toNat)
      case atStart => exact ⟨0, by omega, rfl, rfl⟩
      case round =>
        obtain ⟨j, hj, rfl, rfl⟩ := hrel
        have hz := Lib.hid (refBits_lt c HX.out j)
        go_wp2
        · have h1 : (bits .xor .u32 (bits .and .u32 ((refBits y c j : Nat) : Int) 1) (bits .and .u32 ((c : Int) / 2 ^ j % 4294967296) 1) == 1) = true := by assumption
          have hj8 : (j : Int) < 8 := by assumption
          go_round
          case rel => exact ⟨j + 1, by omega, by go_num, by rw [refBit_odd hz.out hbyte h1]; rfl⟩
          case measure => simp [intOf]; omega
        · have h1 : (bits .xor .u32 (bits .and .u32 ((refBits y c j : Nat) : Int) 1) (bits .and .u32 ((c : Int) / 2 ^ j % 4294967296) 1) == 1) = false := by assumption
          have hj8 : (j : Int) < 8 := by assumption
          go_round
          case rel => exact ⟨j + 1, by omega, by go_num, by rw [refBit_even hz.out hbyte h1]; rfl⟩
          case measure => simp [intOf]; omega
        · have hj8 : (8 : Int) ≤ j := by assumption
          obtain rfl : j = 8 := by omega
          go_round
          case rel => exact ⟨k + 1, by omega, by go_num, by rw [HT.out, refBits_step _ _ hbyte]⟩
          case measure => simp [intOf]; omega
    · have hke : k = len := by omega
      have HT := Lib.hid (show runN 4294967295 (l.take k) = runN 4294967295 l by rw [List.take_of_length_le (by omega)])
      clear hlen hc hx
      rw [HT.out] at HX ⊢
      clear hke
      go_wp2
      go_ret
      refine ⟨ret_int ?_, rfl⟩
      have := HX.out
      unfold moreN
      simp
      omega
end Go.Proofs.Ytgmpbhhlpnkcpaa
