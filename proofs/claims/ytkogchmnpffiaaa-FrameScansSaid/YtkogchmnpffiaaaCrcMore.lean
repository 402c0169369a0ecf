/- crc: the walk of crc.step, crc.More, crc.Sum, the document's sum and the chapter's example. -/
import Derived.Test.YtkogchmnpffiaaaCrcPlain
import Derived.Test.YtkogchmnpffiaaaBytes
namespace Go.Proofs.Ytkogchmnpffiaaa
set_option linter.unusedVariables false
open Go.RowKit

theorem u32_xor_b (s b : Nat) (hs : s < 4294967296) (hb : b < 256) : bits .xor .u32 (s : Int) (b : Int) = ((s ^^^ b : Nat) : Int) := u32_xor_nat s b hs (by omega)
theorem u32_xor_poly (x : Nat) (hx : x < 4294967296) : bits .xor .u32 ((x : Int) / 2) 3988292384 = ((x / 2 ^^^ poly : Nat) : Int) := by
  have := u32_xor_nat (x / 2) poly (by omega) (by decide)
  rw [← this]
  rfl
theorem u32_and_one (x : Nat) (hx : x < 4294967296) : bits .and .u32 (x : Int) 1 = ((x % 2 : Nat) : Int) := by
  have := u32_and_nat x 1 hx (by decide)
  rw [Nat.and_one_is_mod] at this
  exact this
theorem u32_not (x : Nat) (hx : x < 4294967296) : bits .xor .u32 IntKind.u32.max (x : Int) = ((4294967295 - x : Nat) : Int) := by
  rw [← not_eq x hx]
  exact u32_xor_nat 4294967295 x (by decide) hx

theorem adv_odd {x : Nat} (hx : x < 4294967296) (h : (bits .and .u32 (x : Int) 1 == 1) = true) : bits .xor .u32 ((x : Int) / 2) 3988292384 = ((adv x : Nat) : Int) := by
  rw [u32_and_one x hx] at h
  have h1 : x % 2 = 1 := by have := beq_iff_eq.1 h; omega
  rw [u32_xor_poly x hx]
  unfold adv
  rw [if_pos h1]
theorem adv_even {x : Nat} (hx : x < 4294967296) (h : (bits .and .u32 (x : Int) 1 == 1) = false) : (x : Int) / 2 = ((adv x : Nat) : Int) := by
  rw [u32_and_one x hx] at h
  have h1 : ¬ x % 2 = 1 := by have := beq_eq_false_iff_ne.1 h; omega
  unfold adv
  rw [if_neg h1]
  rfl

set_option maxHeartbeats 400000 in
theorem step_any (s b : Nat) (w : World) (hs : s < 4294967296) (hb : b < 256) :
    Calls Try.prog 31 #[.int .u32 s, .int .u8 b] w fun e w' => e = .returned (.int .u32 (stepN s b)) ∧ w = w' := by
  go_enter Try.func31, Try.ntmps31
  go_wp2
  go_loop [0, 9] (fun t i => ∃ k x : Nat, k ≤ 8 ∧ x < 4294967296 ∧ i = .int .i64 k ∧ t = .int .u32 x ∧ advN (8 - k) x = stepN s b) (fun _ i => 8 - (intOf i).toNat)
  case atStart => exact ⟨0, s ^^^ b, by omega, Nat.xor_lt_two_pow hs (n := 32) (by omega), rfl, by rw [u32_xor_b s b hs hb], rfl⟩
  case round =>
    obtain ⟨k, x, hk, hx, rfl, rfl, hr⟩ := hrel
    have HR := Lib.hid hr
    clear hr
    go_wp2
    · have h1 : (bits .and .u32 (x : Int) 1 == 1) = true := by assumption
      have hk8 : (k : Int) < 8 := by assumption
      go_round
      case rel => exact ⟨k + 1, adv x, by omega, adv_lt hx, by go_num, by rw [adv_odd hx h1], by rw [← HR.out, show 8 - k = 8 - (k + 1) + 1 by omega]; rfl⟩
      case measure => simp [intOf]; omega
    · have h1 : (bits .and .u32 (x : Int) 1 == 1) = false := by assumption
      have hk8 : (k : Int) < 8 := by assumption
      go_round
      case rel => exact ⟨k + 1, adv x, by omega, adv_lt hx, by go_num, by rw [adv_even hx h1], by rw [← HR.out, show 8 - k = 8 - (k + 1) + 1 by omega]; rfl⟩
      case measure => simp [intOf]; omega
    · have hk8 : (8 : Int) ≤ k := by assumption
      go_ret
      have hr := HR.out
      rw [show 8 - k = 0 by omega] at hr
      exact ⟨by rw [← hr]; rfl, rfl⟩

theorem run_take (s : Nat) (l : List UInt8) (k : Nat) (h : k < l.length) : runN s (l.take (k + 1)) = stepN (runN s (l.take k)) (l.getD k 0).toNat := by
  rw [List.take_succ_eq_append_getElem h, runN_snoc]
  simp [List.getD, h]

set_option maxHeartbeats 400000 in
theorem more_any (s : Nat) (a : Option Addr) (len cap : Nat) (l : List UInt8) (w : World) (hs : s < 4294967296) (hlen : l.length = len) (hm : len ≤ maxLen) (hc : Bytes w a l) :
    Calls Try.prog 17 #[.int .u32 s, .slice a len cap] w fun e w' => e = .returned (.int .u32 (moreN s l)) ∧ w = w' := by
  unfold maxLen at hm
  have hn := Lib.hid (u32_not s hs)
  go_enter Try.func17, Try.ntmps17
  go_wp2
  rw [hn.out]
  go_loop [0, 6, 11] (fun t _ i => ∃ k : Nat, k ≤ len ∧ i = .int .i64 k ∧ t = .int .u32 (runN (4294967295 - s) (l.take k))) (fun _ _ i => len - (intOf i).toNat)
  case atStart => exact ⟨0, by omega, rfl, rfl⟩
  case round =>
    obtain ⟨k, hk, rfl, rfl⟩ := hrel
    have hx := runN_lt (l.take k) (s := 4294967295 - s) (by omega)
    have HX := Lib.hid hx
    have HL := Lib.hid hlen
    by_cases hlt : k < len
    · obtain ⟨b, off, rfl, _, hcell⟩ := hc k (by omega)
      have hbyte := (l.getD k 0).toNat_lt
      have HT := Lib.hid (run_take (4294967295 - s) l k (by omega))
      clear hlen hc hx
      generalize hy : runN (4294967295 - s) (l.take k) = y at *
      have HY := Lib.hid hy
      clear hy
      generalize (l.getD k 0).toNat = c at *
      go_wp2_with (go_at_call 31; refine (step_any _ _ _ HX.out hbyte).mono ?_; rintro e w' ⟨rfl, rfl⟩)
      go_round
      case rel => exact ⟨k + 1, by omega, by go_num, by rw [HT.out]⟩
      case measure => simp [intOf]; omega
    · have hke : k = len := by omega
      have HT := Lib.hid (show runN (4294967295 - s) (l.take k) = runN (4294967295 - s) l by rw [List.take_of_length_le (by omega)])
      clear hlen hc hx
      rw [HT.out] at HX ⊢
      have h2 := Lib.hid (u32_not _ HX.out)
      clear hke
      go_wp2
      go_ret
      exact ⟨by rw [h2.out]; rfl, rfl⟩
end Go.Proofs.Ytkogchmnpffiaaa
