/- CrcLinear: the walk of the law. -/
import Derived.Test.YtgmpbhhlpnkcpaaCrcRef
import Derived.RegionTactic
import Derived.BigRegion
namespace Go.Proofs.Ytgmpbhhlpnkcpaa
set_option linter.unusedVariables false
open Go.RowKit

def xor3 : List UInt8 → List UInt8 → List UInt8 → List UInt8
  | a :: l, b :: m, c :: n => (a ^^^ b ^^^ c) :: xor3 l m n
  | _, _, _ => []

theorem xor3_len : ∀ (l m n : List UInt8), l.length = m.length → l.length = n.length → (xor3 l m n).length = l.length
  | [], _, _, _, _ => by simp [xor3]
  | _ :: _, [], _, h, _ => by simp at h
  | _ :: _, _ :: _, [], _, h => by simp at h
  | a :: l, b :: m, c :: n, h, h' => by simp [xor3, xor3_len l m n (by simpa using h) (by simpa using h')]

theorem xor3_at : ∀ (l m n : List UInt8) (k : Nat), l.length = m.length → l.length = n.length → k < l.length → (xor3 l m n).getD k 0 = l.getD k 0 ^^^ m.getD k 0 ^^^ n.getD k 0
  | [], _, _, _, _, _, h => absurd h (Nat.not_lt_zero _)
  | _ :: _, [], _, _, h, _, _ => by simp at h
  | _ :: _, _ :: _, [], _, _, h, _ => by simp at h
  | a :: l, b :: m, c :: n, 0, _, _, _ => rfl
  | a :: l, b :: m, c :: n, k + 1, h, h', hk => by
    simp only [xor3, List.getD_cons_succ]
    exact xor3_at l m n k (by simpa using h) (by simpa using h') (by simpa using hk)

theorem run_xor3 : ∀ (l m n : List UInt8) (s t u : Nat), l.length = m.length → l.length = n.length → runN (s ^^^ t ^^^ u) (xor3 l m n) = runN s l ^^^ runN t m ^^^ runN u n
  | [], [], [], _, _, _, _, _ => rfl
  | [], _ :: _, _, _, _, _, h, _ => by simp at h
  | [], [], _ :: _, _, _, _, _, h => by simp at h
  | _ :: _, [], _, _, _, _, h, _ => by simp at h
  | _ :: _, _ :: _, [], _, _, _, _, h => by simp at h
  | a :: l, b :: m, c :: n, s, t, u, h, h' => by
    show runN (stepN (s ^^^ t ^^^ u) (a ^^^ b ^^^ c).toNat) (xor3 l m n) = _
    rw [UInt8.toNat_xor, UInt8.toNat_xor, stepN_xor, stepN_xor]
    exact run_xor3 l m n _ _ _ (by simpa using h) (by simpa using h')

theorem not_xor (x : Nat) (h : x < 2 ^ 32) : 4294967295 - x = 4294967295 ^^^ x := (not_eq x h).symm

theorem sum_xor3 (l m n : List UInt8) (h : l.length = m.length) (h' : l.length = n.length) : moreN 0 (xor3 l m n) = moreN 0 l ^^^ moreN 0 m ^^^ moreN 0 n := by
  have e := run_xor3 l m n 4294967295 4294967295 4294967295 h h'
  rw [Nat.xor_self, Nat.zero_xor] at e
  have hs : 4294967295 < 2 ^ 32 := by decide
  have l0 := runN_lt (xor3 l m n) hs
  have l1 := runN_lt l hs
  have l2 := runN_lt m hs
  have l3 := runN_lt n hs
  unfold moreN
  rw [Nat.sub_zero, not_xor _ l0, not_xor _ l1, not_xor _ l2, not_xor _ l3, e]
  generalize runN 4294967295 l = x
  generalize runN 4294967295 m = y
  generalize runN 4294967295 n = z
  rw [show 4294967295 ^^^ x ^^^ (4294967295 ^^^ y) ^^^ (4294967295 ^^^ z) = (4294967295 ^^^ 4294967295) ^^^ 4294967295 ^^^ (x ^^^ y ^^^ z) by ac_rfl, Nat.xor_self, Nat.zero_xor]

/-- what stands in the new row behind k rounds -/
def filled (x : List UInt8) (k : Nat) : List UInt8 := x.take k ++ List.replicate (x.length - k) 0

theorem filled_len (x : List UInt8) (k : Nat) (h : k ≤ x.length) : (filled x k).length = x.length := by simp [filled]; omega
theorem filled_zero (x : List UInt8) : filled x 0 = List.replicate x.length 0 := by simp [filled]
theorem filled_all (x : List UInt8) : filled x x.length = x := by simp [filled]
theorem filled_set (x : List UInt8) (k : Nat) (h : k < x.length) : (filled x k).set k (x.getD k 0) = filled x (k + 1) := by
  apply List.ext_getElem?
  intro i
  rw [List.getElem?_set]
  have hl := filled_len x k (by omega)
  by_cases e : k = i
  · subst e
    simp [filled, h, List.getElem?_append, List.getD, show k < min (k + 1) x.length by omega]
    omega
  · rw [if_neg e]
    unfold filled
    rw [List.getElem?_append, List.getElem?_append]
    simp only [List.length_take, List.getElem?_take, List.getElem?_replicate]
    by_cases h1 : i < k
    · simp [show i < min k x.length by omega, show i < min (k + 1) x.length by omega, h1, show i < k + 1 by omega]
    · have h2 : ¬ i < min k x.length := by omega
      have h3 : ¬ i < min (k + 1) x.length := by omega
      rw [if_neg h2, if_neg h3]
      have e1 : min k x.length = k := by omega
      have e2 : min (k + 1) x.length = k + 1 := by omega
      rw [e1, e2]
      by_cases h4 : i < x.length
      · rw [if_pos (by omega), if_pos (by omega)]
      · rw [if_neg (by omega), if_neg (by omega)]

theorem u8_xor3 (a b c : UInt8) : bits .xor .u8 (bits .xor .u8 (a.toNat : Int) (b.toNat : Int)) (c.toNat : Int) = (((a ^^^ b ^^^ c).toNat : Nat) : Int) := by
  have ha := a.toNat_lt; have hb := b.toNat_lt; have hc := c.toNat_lt
  rw [u8_xor_nat _ _ ha hb, u8_xor_nat _ _ (Nat.xor_lt_two_pow ha hb) hc, UInt8.toNat_xor, UInt8.toNat_xor]

set_option maxHeartbeats 400000 in
theorem crcLinear_long (a b c : Option Addr) (la ca lb cb lc cc : Nat) (w : World) (h : 300 < la ∨ (la ≤ 300 ∧ lb < la) ∨ (la ≤ 300 ∧ la ≤ lb ∧ lc < la)) (hla : la ≤ maxLen) (hlb : lb ≤ maxLen) (hlc : lc ≤ maxLen) :
    Calls Try.prog 5 #[.slice a la ca, .slice b lb cb, .slice c lc cc] w fun e w' => e = .returned (.bool true) ∧ Below w.heap.size w w' := by
  unfold maxLen at hla hlb hlc
  rcases h with h | ⟨h, h'⟩ | ⟨h, h', h''⟩
  all_goals
    go_enter Try.func5, Try.ntmps5
    go_wp2_with fail
    refine (lives_any _).mono ?_
    rintro e w1 ⟨rfl, hb1⟩
    have h1 := hb1.size
    go_wp2_with fail
    refine (lives_any _).mono ?_
    rintro e w2 ⟨rfl, hb2⟩
    go_wp2_with fail
    go_ret
    exact ⟨rfl, hb1.trans (hb2.mono h1)⟩

set_option maxHeartbeats 1000000 in
theorem crcLinear_walk (a b c : Option Addr) (la ca lb cb lc cc : Nat) (l m n : List UInt8) (w : World) (hla : l.length = la) (hlb : m.length = lb) (hlc : n.length = lc) (h300 : la ≤ 300) (h301 : la ≤ lb) (h302 : la ≤ lc)
    (hmb : lb ≤ maxLen) (hmc : lc ≤ maxLen) (hA : Bytes w a l) (hB : Bytes w b m) (hC : Bytes w c n) (hcb : lb ≤ cb) (hcc : lc ≤ cc) :
    Calls Try.prog 5 #[.slice a la ca, .slice b lb cb, .slice c lc cc] w fun e w' => e = .returned (.bool true) ∧ Below w.heap.size w w' := by
  obtain ⟨i0, hi, hz0, hz1, hz2⟩ := info_parts Try.infoB
  have HLA := Lib.hid hla
  have HLB := Lib.hid hlb
  have HLC := Lib.hid hlc
  have HA := Lib.hid hA
  have HB := Lib.hid hB
  have HC := Lib.hid hC
  clear hla hlb hlc hA hB hC
  unfold maxLen at hmb hmc
  have HX0 : (xor3 l (m.take la) (n.take la)).length = la := by
    rw [xor3_len l _ _ (by rw [HLA.out, List.length_take]; have := HLB.out; omega) (by rw [HLA.out, List.length_take]; have := HLC.out; omega)]
    exact HLA.out
  have HX0 := Lib.hid HX0
  go_enter Try.func5, Try.ntmps5
  go_wp2_with fail
  refine (lives_any _).mono ?_
  rintro e w1 ⟨rfl, hb1⟩
  have h1 := hb1.size
  go_wp2_with (refine wpList_make_full w1 rfl (.tmp 32) (.tmp 32) 22 rfl w1.heap.size 5 i0 (.int .u8 0) 1 Try.underlying22 hi hz0 hz1 .i64 .i64 (la : Int) (la : Int) la rfl rfl rfl rfl (by rw [hz2]; omega) (by unfold maxLen; omega) (Nat.le_refl _) ?_)
  intro w2 hown2 hg2
  have hb2 : Below w1.heap.size w1 w2 := (Below.refl _ _).grown hg2 (Nat.le_refl _) (by intro k hk; cases hk)
  have hs2 := hg2.size
  have hown2' : w2.ownsRow w1.heap.size 5 1 (.slice (some ⟨w1.heap.size, 0, none⟩) la la) la ((filled (xor3 l (m.take la) (n.take la)) 0).map byteVal) := by
    rw [filled_zero, HX0.out]
    exact made_bytes (by simpa using hown2)
  have HO2 := Lib.hid hown2'
  clear hown2 hown2' hg2
  go_wp2
  go_loopw [8, 36] (fun _ i wr => ∃ k : Nat, k ≤ la ∧ i = .int .i64 k ∧ Below w1.heap.size w1 wr ∧ wr.ownsRow w1.heap.size 5 1 (.slice (some ⟨w1.heap.size, 0, none⟩) la la) la ((filled (xor3 l (m.take la) (n.take la)) k).map byteVal)) (fun _ i _ => la - (intOf i).toNat)
  case atStart => exact ⟨0, Nat.zero_le _, rfl, hb2, HO2.out⟩
  case round =>
    obtain ⟨k, hk, rfl, hbr, hown⟩ := hrel
    have HO := Lib.hid hown
    clear hown HO2
    have hbw := hb1.trans (hbr.mono h1)
    by_cases hlt : k < la
    · obtain ⟨b1, o1, rfl, _, hc1⟩ := HA.out.below hbw k (by rw [HLA.out]; exact hlt)
      obtain ⟨b2, o2, rfl, _, hc2⟩ := HB.out.below hbw k (by rw [HLB.out]; omega)
      obtain ⟨b3, o3, rfl, _, hc3⟩ := HC.out.below hbw k (by rw [HLC.out]; omega)
      have hcx := owns_byte HO.out k hlt
      have hfx := HO.out.frozenAt k
      have hx := xor3_at l (m.take la) (n.take la) k (by rw [HLA.out, List.length_take]; have := HLB.out; omega) (by rw [HLA.out, List.length_take]; have := HLC.out; omega) (by rw [HLA.out]; exact hlt)
      rw [getD_take _ _ _ _ hlt, getD_take _ _ _ _ hlt] at hx
      have HV := Lib.hid (u8_xor3 (l.getD k 0) (m.getD k 0) (n.getD k 0))
      rw [← hx] at HV
      have HX := Lib.hid hx
      clear hx
      generalize ((filled (xor3 l (m.take la) (n.take la)) k).getD k 0).toNat = old at hcx
      generalize l.getD k 0 = x1 at *
      generalize m.getD k 0 = x2 at *
      generalize n.getD k 0 = x3 at *
      go_wp2
      go_region
      go_wp2
      go_roundw
      case rel =>
        refine ⟨k + 1, by omega, by go_num, (hbr.setCell (Nat.le_refl _) _).drew, ?_⟩
        rw [HV.out, ← filled_set _ _ (by rw [HX0.out]; exact hlt)]
        exact (stored_byte HO.out k _).drew
      case measure => simp [intOf]; omega
    · obtain rfl : k = la := by omega
      have HO3 := HO.out
      rw [show filled (xor3 l (m.take k) (n.take k)) k = xor3 l (m.take k) (n.take k) by conv => { lhs; arg 2; rw [← HX0.out] }; exact filled_all _] at HO3
      obtain ⟨a3, c3, ha3, hl3, hm3, _, hB3, _, _⟩ := owns_bytes HO3
      cases ha3
      have H3 := Lib.hid hB3
      have HLM : Hid ((m.take k).length = k) := Lib.hid (by rw [List.length_take]; have := HLB.out; omega)
      have HLN : Hid ((n.take k).length = k) := Lib.hid (by rw [List.length_take]; have := HLC.out; omega)
      have HS := Lib.hid (sum_xor3 l (m.take k) (n.take k) (by rw [HLA.out, HLM.out]) (by rw [HLA.out, HLN.out]))
      have HA3 := Lib.hid (HA.out.below hbw)
      have HB3 := Lib.hid (HB.out.below hbw)
      have HC3 := Lib.hid (HC.out.below hbw)
      clear HO3 hB3 hl3 HO
      go_wp2
      go_quiet ((first
        | (go_at_call_of 8 (some (⟨w1.heap.size, 0, none⟩ : Addr)); exact quiet_same (sum_any _ _ _ _ _ HX0.out hm3 (H3.out.drewN _)))
        | (go_at_call_of 8 a; exact quiet_same (sum_any _ _ _ _ _ HLA.out hm3 (HA3.out.drewN _)))
        | (go_at_call_of 8 b; exact quiet_same (sum_any _ _ _ _ _ HLM.out hm3 ((HB3.out.take _).drewN _)))
        | (go_at_call_of 8 c; exact quiet_same (sum_any _ _ _ _ _ HLN.out hm3 ((HC3.out.take _).drewN _)))))
      go_wp2
      go_ret
      refine ⟨ret_bool ?_, Below.trans hbw ⟨rfl, rfl, rfl, Nat.le_refl _, fun _ _ => rfl⟩⟩
      rw [u32_xor_nat _ _ (moreN_lt _ _) (moreN_lt _ _), u32_xor_nat _ _ (Nat.xor_lt_two_pow (moreN_lt _ _) (moreN_lt _ _)) (moreN_lt _ _), HS.out]
      simp
end Go.Proofs.Ytgmpbhhlpnkcpaa
