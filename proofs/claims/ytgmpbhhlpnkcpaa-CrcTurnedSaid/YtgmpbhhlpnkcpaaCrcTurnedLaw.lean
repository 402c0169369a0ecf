/- CrcTurned: the plain law (bits turned within 32 in a row turn the sum), and the walk of the law. -/
import Derived.Test.YtgmpbhhlpnkcpaaCrcRef
import Derived.RegionTactic
import Derived.BigRegion
namespace Go.Proofs.Ytgmpbhhlpnkcpaa
set_option linter.unusedVariables false
open Go.RowKit

theorem leN_len : ∀ n m, (leN n m).length = n
  | 0, _ => rfl
  | n + 1, m => by simp [leN, leN_len n]

theorem xorL_len : ∀ (l m : List UInt8), l.length = m.length → (xorL l m).length = l.length
  | [], _, _ => by simp [xorL]
  | _ :: _, [], h => by simp at h
  | a :: l, b :: m, h => by simp [xorL, xorL_len l m (by simpa using h)]

theorem low_xor (m p : Nat) (h : p < 8) : (m ^^^ 2 ^ p) % 256 = m % 256 ^^^ 2 ^ p ∧ (m ^^^ 2 ^ p) / 256 = m / 256 := by
  constructor
  · rw [show (256 : Nat) = 2 ^ 8 from rfl, Nat.xor_mod_two_pow, Nat.mod_eq_of_lt (Nat.pow_lt_pow_right (by decide) h)]
  · rw [show (256 : Nat) = 2 ^ 8 from rfl, Nat.xor_div_two_pow, Nat.div_eq_of_lt (Nat.pow_lt_pow_right (by decide) h), Nat.xor_zero]

theorem high_xor (m p : Nat) (h : 8 ≤ p) : (m ^^^ 2 ^ p) % 256 = m % 256 ∧ (m ^^^ 2 ^ p) / 256 = m / 256 ^^^ 2 ^ (p - 8) := by
  have e : 2 ^ p = 2 ^ (p - 8) * 2 ^ 8 := by rw [← Nat.pow_add]; congr 1; omega
  constructor
  · rw [show (256 : Nat) = 2 ^ 8 from rfl, Nat.xor_mod_two_pow, e, Nat.mul_mod_left, Nat.xor_zero]
  · rw [show (256 : Nat) = 2 ^ 8 from rfl, Nat.xor_div_two_pow, e, Nat.mul_div_cancel _ (by decide)]

theorem xorL_turn : ∀ (l : List UInt8) (m p : Nat), p / 8 < l.length →
    xorL l (leN l.length (m ^^^ 2 ^ p)) = (xorL l (leN l.length m)).set (p / 8) ((xorL l (leN l.length m)).getD (p / 8) 0 ^^^ UInt8.ofNat (2 ^ (p % 8)))
  | [], m, p, h => absurd h (Nat.not_lt_zero _)
  | a :: l, m, p, h => by
    by_cases hp : p < 8
    · have h0 : p / 8 = 0 := by omega
      have h1 : p % 8 = p := by omega
      have hx := low_xor m p hp
      simp only [List.length_cons, leN, xorL, hx.1, hx.2, h0, h1, List.getD_cons_zero, List.set_cons_zero]
      congr 1
      rw [UInt8.xor_assoc]
      congr 1
      apply UInt8.toNat_inj.1
      rw [UInt8.toNat_xor]
      have hp2 : 2 ^ p < 2 ^ 8 := Nat.pow_lt_pow_right (by decide) hp
      simp [Nat.mod_eq_of_lt hp2]
    · have h0 : p / 8 = (p - 8) / 8 + 1 := by omega
      have h1 : p % 8 = (p - 8) % 8 := by omega
      have hx := high_xor m p (by omega)
      have ih := xorL_turn l (m / 256) (p - 8) (by simp at h; omega)
      simp only [List.length_cons, leN, xorL, hx.1, hx.2, h0, h1, List.getD_cons_succ, List.set_cons_succ]
      rw [ih]

/-- the mask behind i rounds -/
def mask (x from' i : Nat) : Nat := (x % 2 ^ i) * 2 ^ from'

theorem mod_bit (x i : Nat) : x % 2 ^ (i + 1) = if x / 2 ^ i % 2 = 1 then x % 2 ^ i ^^^ 2 ^ i else x % 2 ^ i := by
  apply Nat.eq_of_testBit_eq
  intro j
  have hb : x.testBit i = decide (x / 2 ^ i % 2 = 1) := Nat.testBit_eq_decide_div_mod_eq
  split
  · rename_i h
    rw [Nat.testBit_xor, Nat.testBit_mod_two_pow, Nat.testBit_mod_two_pow, Nat.testBit_two_pow]
    by_cases e : i = j
    · subst e; simp [hb, h]
    · by_cases h1 : j < i
      · simp [h1, e, show j < i + 1 by omega]
      · simp [h1, e, show ¬ j < i + 1 by omega]
  · rename_i h
    rw [Nat.testBit_mod_two_pow, Nat.testBit_mod_two_pow]
    by_cases e : i = j
    · subst e; simp [hb, h]
    · by_cases h1 : j < i
      · simp [h1, show j < i + 1 by omega]
      · simp [h1, show ¬ j < i + 1 by omega]

theorem mul_xor (a b k : Nat) : (a ^^^ b) * 2 ^ k = a * 2 ^ k ^^^ b * 2 ^ k := by
  apply Nat.eq_of_testBit_eq
  intro j
  simp only [Nat.testBit_xor, Nat.testBit_mul_two_pow]
  cases decide (k ≤ j) <;> simp

theorem mask_on (x f i : Nat) (h : x / 2 ^ i % 2 = 1) : mask x f (i + 1) = mask x f i ^^^ 2 ^ (f + i) := by
  unfold mask
  rw [mod_bit, if_pos h, mul_xor, ← Nat.pow_add, Nat.add_comm i f]
theorem mask_off (x f i : Nat) (h : ¬ x / 2 ^ i % 2 = 1) : mask x f (i + 1) = mask x f i := by
  unfold mask
  rw [mod_bit, if_neg h]

def turned (l : List UInt8) (x f i : Nat) : List UInt8 := xorL l (leN l.length (mask x f i))

theorem turned_len (l : List UInt8) (x f i : Nat) : (turned l x f i).length = l.length := xorL_len _ _ (leN_len _ _).symm

theorem xorL_zero : ∀ l : List UInt8, xorL l (leN l.length 0) = l
  | [] => rfl
  | a :: l => by
    show (a ^^^ _) :: xorL l (leN l.length _) = _
    rw [show (0 : Nat) / 256 = 0 from rfl, xorL_zero l]
    simp

theorem turned_zero (l : List UInt8) (x f : Nat) : turned l x f 0 = l := by
  unfold turned mask
  rw [show x % 2 ^ 0 = 0 by omega, Nat.zero_mul, xorL_zero]

theorem turned_on (l : List UInt8) (x f i : Nat) (h : x / 2 ^ i % 2 = 1) (hf : (f + i) / 8 < l.length) :
    turned l x f (i + 1) = (turned l x f i).set ((f + i) / 8) ((turned l x f i).getD ((f + i) / 8) 0 ^^^ UInt8.ofNat (2 ^ ((f + i) % 8))) := by
  unfold turned
  rw [mask_on x f i h, xorL_turn l _ _ hf]
theorem turned_off (l : List UInt8) (x f i : Nat) (h : ¬ x / 2 ^ i % 2 = 1) : turned l x f (i + 1) = turned l x f i := by
  unfold turned
  rw [mask_off x f i h]

theorem turned_sum (l : List UInt8) (x f : Nat) (hx : x < 2 ^ 32) (h0 : x ≠ 0) (hf : f + 32 ≤ 8 * l.length) : moreN 0 (turned l x f 32) ≠ moreN 0 l := by
  have hm : mask x f 32 = x * 2 ^ f := by unfold mask; rw [Nat.mod_eq_of_lt hx]
  have hlt : x * 2 ^ f < 2 ^ (8 * l.length) := by
    calc x * 2 ^ f < 2 ^ 32 * 2 ^ f := Nat.mul_lt_mul_of_pos_right hx (Nat.pow_pos (by decide))
      _ = 2 ^ (32 + f) := by rw [Nat.pow_add]
      _ ≤ 2 ^ (8 * l.length) := Nat.pow_le_pow_right (by decide) (by omega)
  have e1 := runN_xor l (leN l.length (x * 2 ^ f)) 4294967295 0 (leN_len _ _).symm
  rw [Nat.xor_zero, runN_le _ _ _ hlt, Nat.zero_xor, show 8 * l.length = f + (8 * l.length - f) by omega, advN_add, advN_pow] at e1
  have h1 := advN_ne (8 * l.length - f) hx h0
  have hs : 4294967295 < 2 ^ 32 := by decide
  intro h
  have l1 := runN_lt (turned l x f 32) hs
  have l2 := runN_lt l hs
  unfold moreN at h
  rw [Nat.sub_zero] at h
  have h2 : runN 4294967295 (turned l x f 32) = runN 4294967295 l := by omega
  unfold turned at h2
  rw [hm, e1] at h2
  have h3 : runN 4294967295 l ^^^ (runN 4294967295 l ^^^ advN (8 * l.length - f) x) = runN 4294967295 l ^^^ runN 4294967295 l := by rw [h2]
  rw [← Nat.xor_assoc, Nat.xor_self, Nat.zero_xor] at h3
  exact h1 h3

theorem and_shift (x k : Nat) (hx : x < 4294967296) : bits .and .u32 ((x : Int) / 2 ^ k) 1 = ((x / 2 ^ k % 2 : Nat) : Int) := by
  have := u32_and_one (x / 2 ^ k) (Nat.lt_of_le_of_lt (Nat.div_le_self _ _) hx)
  rw [← this]
  simp

theorem turn_byte (old : UInt8) (p : Nat) : bits .xor .u8 (old.toNat : Int) ((2 : Int) ^ (p % 8) % 256) = (((old ^^^ UInt8.ofNat (2 ^ (p % 8))).toNat : Nat) : Int) := by
  have h : 2 ^ (p % 8) < 2 ^ 8 := Nat.pow_lt_pow_right (by decide) (Nat.mod_lt _ (by decide))
  have e := u8_xor_nat old.toNat (2 ^ (p % 8)) old.toNat_lt h
  have e2 : ((2 : Int) ^ (p % 8)) % 256 = ((2 ^ (p % 8) : Nat) : Int) := by
    have h3 : ((2 : Int) ^ (p % 8)) = ((2 ^ (p % 8) : Nat) : Int) := by simp
    rw [h3]
    generalize 2 ^ (p % 8) = d at h
    omega
  rw [UInt8.toNat_xor, UInt8.toNat_ofNat_of_lt' h, ← e, e2]

set_option maxHeartbeats 400000 in
theorem crcTurned_long (a : Option Addr) (la ca : Nat) (t : Nat) (x : Nat) (w : World) (h : 300 < la ∨ (la ≤ 300 ∧ la < 5) ∨ (la ≤ 300 ∧ 5 ≤ la ∧ x = 0)) (hla : la ≤ maxLen) :
    Calls Try.prog 4 #[.slice a la ca, .int .u16 t, .int .u32 x] w fun e w' => e = .returned (.bool true) ∧ Below w.heap.size w w' := by
  unfold maxLen at hla
  rcases h with h | ⟨h, h'⟩ | ⟨h, h', rfl⟩
  all_goals
    go_enter Try.func4, Try.ntmps4
    go_wp2_with fail
    refine (lives_any _).mono ?_
    rintro e w1 ⟨rfl, hb1⟩
    have h1 := hb1.size
    go_wp2_with fail
    refine (lives_any _).mono ?_
    rintro e w2 ⟨rfl, hb2⟩
    go_wp2_with fail
    go_ret
    exact ⟨rfl, hb1.trans (hb2.mono h1)⟩

set_option maxHeartbeats 1000000 in
theorem crcTurned_walk (a : Option Addr) (la ca : Nat) (l : List UInt8) (t x : Nat) (w : World) (hla : l.length = la) (h300 : la ≤ 300) (h5 : 5 ≤ la) (hA : Bytes w a l) (na : a = none → la = 0 ∧ ca = 0) (ht : t < 65536) (hx : x < 4294967296) (hx0 : x ≠ 0) :
    Calls Try.prog 4 #[.slice a la ca, .int .u16 t, .int .u32 x] w fun e w' => e = .returned (.bool true) ∧ Below w.heap.size w w' := by
  obtain ⟨i0, hi, hz0, hz1, hz2⟩ := info_parts Try.infoB
  have HLA := Lib.hid hla
  have HA := Lib.hid hA
  have NA := Lib.hid na
  have h0x : ((x : Int) == 0) = false := beq_eq_false_iff_ne.2 (by omega)
  clear hla hA na
  go_enter Try.func4, Try.ntmps4
  go_wp2_with fail
  refine (lives_any _).mono ?_
  rintro e w1 ⟨rfl, hb1⟩
  have h1 := hb1.size
  have HA1 := Lib.hid (HA.out.below hb1)
  go_wp2_with (at_builtin; refine wpList_append_own_any rfl (.tmp 27) (.tmp 28) 22 rfl w1.heap.size 5 i0 (.int .u8 0) 1 1 Try.underlying22 hi hz0 hz1 hz2 rfl (by decide) _ 0 [] rfl (World.ownsRow_made _ _ 0 (Nat.le_refl _) (Nat.zero_le _) rfl) a la ca (l.map byteVal) rfl NA.out (by simp [HLA.out]) ((HA1.out.below ((Below.refl _ _).alloc (Nat.le_refl _) _)).news) (byteVals_cell _) (by unfold maxLen; omega) (by omega) (by simp) ?_)
  intro v2 w2 hown2 hg2
  have hb2 : Below w1.heap.size w1 w2 := ((Below.refl _ _).alloc (Nat.le_refl _) _).grown hg2 (by simp) (by intro k hk; cases hk; exact Nat.le_refl _)
  have h2 := hb2.size
  obtain ⟨g, cg, rfl, hgb, hgw, hgc, hgm⟩ := owns_form hown2 (by omega)
  have HO2 := Lib.hid hown2
  clear hown2 hg2 HA1
  go_wp2_with fail
  obtain ⟨F, hF⟩ : ∃ F : Nat, F = t % (8 * la - 31) := ⟨_, rfl⟩
  have hFl : F + 32 ≤ 8 * la := by
    have := Nat.mod_lt t (show 0 < 8 * la - 31 by omega)
    omega
  rw [show ((t : Int) % (8 * (la : Int) - 31)) = (F : Int) by rw [hF, ← show ((8 * la - 31 : Nat) : Int) = 8 * (la : Int) - 31 by omega]; rfl]
  clear hF
  go_loopw [9, 37] (fun _ i wr => ∃ k : Nat, k ≤ 32 ∧ i = .int .i64 k ∧ Below w1.heap.size w1 wr ∧ wr.ownsRow w1.heap.size 5 1 (.slice (some ⟨g, 0, none⟩) la cg) la ((turned l x F k).map byteVal)) (fun _ i _ => 32 - (intOf i).toNat)
  case atStart => exact ⟨0, Nat.zero_le _, rfl, hb2, by rw [turned_zero]; exact HO2.out⟩
  case round =>
    obtain ⟨k, hk, rfl, hbr, hown⟩ := hrel
    have HO := Lib.hid hown
    clear hown HO2
    have hbw := hb1.trans (hbr.mono h1)
    by_cases hlt : k < 32
    · have hj : (F + k) / 8 < la := by omega
      have hcx := owns_byte HO.out _ hj
      have hfx := HO.out.frozenAt ((F + k) / 8)
      by_cases hbit : x / 2 ^ k % 2 = 1
      · have HT := Lib.hid (turned_on l x F k hbit (by rw [HLA.out]; exact hj))
        have htest : (bits .and .u32 ((x : Int) / 2 ^ k) 1 == 1) = true := by rw [and_shift x k hx, hbit]; rfl
        clear hbit
        generalize (turned l x F k).getD ((F + k) / 8) 0 = old at *
        have HV := Lib.hid (turn_byte old (F + k))
        go_wp2
        go_region
        go_wp2
        go_roundw
        case rel =>
          refine ⟨k + 1, by omega, by go_num, (hbr.setCell hgb _).drew, ?_⟩
          rw [HV.out, HT.out]
          exact (stored_byte HO.out _ _).drew
        case measure => simp [intOf]; omega
      · have htest : (bits .and .u32 ((x : Int) / 2 ^ k) 1 == 1) = false := by rw [and_shift x k hx]; exact beq_eq_false_iff_ne.2 (by omega)
        have HT := Lib.hid (turned_off l x F k hbit)
        clear hbit
        go_wp2
        go_roundw
        case rel => exact ⟨k + 1, by omega, by go_num, hbr, by rw [HT.out]; exact HO.out⟩
        case measure => simp [intOf]; omega
    · obtain rfl : k = 32 := by omega
      obtain ⟨a3, c3, ha3, hl3, hm3, _, hB3, _, _⟩ := owns_bytes HO.out
      cases ha3
      have H3 := Lib.hid hB3
      have HL3 := Lib.hid hl3
      have HA3 := Lib.hid (HA.out.below hbw)
      have HS := Lib.hid (turned_sum l x F hx hx0 (by rw [HLA.out]; exact hFl))
      clear hB3 hl3 HO
      go_wp2_with fail
      refine (sum_any _ la cg _ _ HL3.out hm3 H3.out).mono ?_
      rintro e w3 ⟨rfl, rfl⟩
      go_wp2_with fail
      refine (sum_any a la ca l _ HLA.out hm3 HA3.out).mono ?_
      rintro e w3 ⟨rfl, rfl⟩
      have hne : ((((moreN 0 (turned l x F 32) : Nat) : Int) == ((moreN 0 l : Nat) : Int))) = false := beq_eq_false_iff_ne.2 (by have := HS.out; omega)
      generalize ((moreN 0 (turned l x F 32) : Nat) : Int) = p at *
      generalize ((moreN 0 l : Nat) : Int) = q at *
      go_wp2_with fail
      go_ret
      exact ⟨ret_bool (show (p != q) = true by simp only [bne, hne]; rfl), hbw⟩
end Go.Proofs.Ytgmpbhhlpnkcpaa
