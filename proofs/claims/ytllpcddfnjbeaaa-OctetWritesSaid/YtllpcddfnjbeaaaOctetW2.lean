/- octet.Writer: fold, Int, Raw, Text, Flag, Bytes. -/
import Derived.Test.YtllpcddfnjbeaaaOctetW
import Derived.Lib.ConvBytes
namespace Go.Proofs.Ytllpcddfnjbeaaa
set_option linter.unusedVariables false
open Go.RowKit

def foldN (x : Int) : Nat := if 0 ≤ x then 2 * x.toNat else (-(2 * x) - 1).toNat

theorem not64 (s : Nat) (h : s < 2 ^ 64) : s ^^^ 18446744073709551615 = 18446744073709551615 - s := by
  apply Nat.eq_of_testBit_eq
  intro i
  rw [Nat.testBit_xor, show 18446744073709551615 - s = 2 ^ 64 - (s + 1) by omega, Nat.testBit_two_pow_sub_succ h, show (18446744073709551615 : Nat) = 2 ^ 64 - 1 from rfl, Nat.testBit_two_pow_sub_one]
  by_cases hi : i < 64
  · simp [hi]
  · simp [hi, Nat.testBit_lt_two_pow (Nat.lt_of_lt_of_le h (Nat.pow_le_pow_right (by decide) (show 64 ≤ i by omega)))]

/-- an int64, its bounds behind a name -/
def I64 (x : Int) : Prop := -9223372036854775808 ≤ x ∧ x ≤ 9223372036854775807

theorem fold_eq (x : Int) (h : I64 x) : bits .xor .u64 (IntKind.u64.wrap (IntKind.u64.wrap x * 2)) (IntKind.u64.wrap (x / 9223372036854775808)) = ((foldN x : Nat) : Int) := by
  unfold I64 at h
  rw [IntKind.wrap_u64, IntKind.wrap_u64, IntKind.wrap_u64]
  unfold foldN
  by_cases h0 : 0 ≤ x
  · rw [if_pos h0]
    have e1 : x % 18446744073709551616 * 2 % 18446744073709551616 = ((2 * x.toNat : Nat) : Int) := by omega
    have e2 : x / 9223372036854775808 % 18446744073709551616 = ((0 : Nat) : Int) := by omega
    rw [e1, e2, u64_xor_nat _ _ (by omega) (by decide), Nat.xor_zero]
  · rw [if_neg h0]
    have e1 : x % 18446744073709551616 * 2 % 18446744073709551616 = (((2 * x + 18446744073709551616).toNat : Nat) : Int) := by omega
    have e2 : x / 9223372036854775808 % 18446744073709551616 = ((18446744073709551615 : Nat) : Int) := by omega
    rw [e1, e2, u64_xor_nat _ _ (by omega) (by decide), not64 _ (by omega)]
    omega

theorem foldN_lt (x : Int) (h : I64 x) : foldN x < M64 := by
  unfold I64 at h
  unfold foldN M64
  split <;> omega

set_option maxHeartbeats 400000 in
theorem fold_any (x : Int) (w : World) (h : I64 x) :
    Calls Try.prog 24 #[.int .i64 x] w fun e w' => e = .returned (.int .u64 (foldN x : Nat)) ∧ w = w' := by
  go_enter Try.func24, Try.ntmps24
  go_wp2
  go_ret
  exact ⟨ret_int (fold_eq x h), rfl⟩

set_option maxHeartbeats 400000 in
theorem wint_any (base pb : Nat) (v : Value) (bs : List UInt8) (x : Int) (w : World) (hW : Wr w base pb v bs) (hx : I64 x) (hlen : bs.length ≤ 35184372088832) :
    Calls Try.prog 8 #[.pointer (some ⟨pb, 0, none⟩), .int .i64 x] w (Wrote base pb v (bs ++ numB (foldN x)) w) := by
  have HN := Lib.hid (num_any base pb v bs (foldN x) w hW (foldN_lt x hx) hlen)
  have HX := Lib.hid hx
  clear hW hx hlen
  go_enter Try.func8, Try.ntmps8
  go_wp2_with fail
  refine (fold_any _ _ HX.out).mono ?_
  rintro e w1 ⟨rfl, rfl⟩
  go_wp2_with fail
  refine HN.out.mono ?_
  rintro e w1 ⟨rfl, hw⟩
  go_wp2_with fail
  go_end0
  exact ⟨rfl, hw⟩

set_option maxHeartbeats 1000000 in
theorem raw_any (base pb : Nat) (v : Value) (bs : List UInt8) (a : Option Addr) (cap : Nat) (l : List UInt8) (w : World) (hW : Wr w base pb v bs) (hn : a = none → l.length = 0 ∧ cap = 0) (hB : Bytes w a l) (hlen : bs.length + l.length ≤ 35184372088832) :
    Calls Try.prog 10 #[.pointer (some ⟨pb, 0, none⟩), .slice a l.length cap] w (Wrote base pb v (bs ++ l) w) := by
  obtain ⟨i0, hi, hz0, hz1, hz2⟩ := info_parts Try.infoB
  have hc0 := hW.blk.cell 0
  have hf0 := hW.blk.free 0
  simp at hc0
  have HR := Lib.hid hW
  have HB := Lib.hid hB
  have HN := Lib.hid hn
  clear hW hB hn
  go_enter Try.func10, Try.ntmps10
  go_wp2_with (at_builtin; refine wpList_append_sep rfl (.tmp 10) (.tmp 11) 25 rfl base 5 i0 (.int .u8 0) 1 1 Try.underlying25 hi hz0 hz1 hz2 rfl (by decide) _ bs.length (bs.map byteVal) rfl HR.out.own a l.length cap (l.map byteVal) rfl HN.out (by simp) HB.out.news (byteVals_cell _) (by unfold maxLen; omega) (by omega) (by have h1 := HR.out.low; have h2 := HR.out.blk.lt; omega) ?_)
  intro v2 w2 hown2 hg2 hf2
  have hs2 : Step (foot v) w w2 := (Step.refl _ _).grown hg2 (fun k hk => .inl (mem_foot.2 hk))
  have hc2 : w2.cell? ⟨pb, 0, none⟩ = some v := by rw [hs2.cell HR.out.blk.lt HR.out.apart]; exact hc0
  have hf2' : w2.frozen? ⟨pb, 0, none⟩ = false := by rw [hs2.frozen HR.out.blk.lt HR.out.apart]; exact hf0
  have HP := Lib.hid (HR.out.put hs2 hown2 (Nat.le_refl _) hf2)
  have hfm : ∃ g n cg, v2 = .slice g n cg := by
    rcases hown2.2 with ⟨h, _⟩ | ⟨g, cg, cur, h, _⟩
    · exact ⟨_, _, _, h⟩
    · exact ⟨_, _, _, h⟩
  obtain ⟨g, n, cg, rfl⟩ := hfm
  clear hown2 hg2 hf2 hs2 hc0 hf0
  go_wp2_with fail
  go_end0
  have hp := HP.out
  exact ⟨rfl, _, hp.1, hp.2.1, hp.2.2⟩

set_option maxHeartbeats 400000 in
theorem wflag_any (base pb : Nat) (v : Value) (bs : List UInt8) (x : Bool) (w : World) (hW : Wr w base pb v bs) (hlen : bs.length ≤ 35184372088832) :
    Calls Try.prog 18 #[.pointer (some ⟨pb, 0, none⟩), .bool x] w (Wrote base pb v (bs ++ numB (if x then 1 else 0)) w) := by
  have HN := Lib.hid (fun x hx => num_any base pb v bs x w hW hx hlen)
  clear hW hlen
  cases x
  · go_enter Try.func18, Try.ntmps18
    go_wp2_with fail
    refine (HN.out 0 (by decide)).mono ?_
    rintro e w1 ⟨rfl, hw⟩
    go_wp2_with fail
    go_end0
    exact ⟨rfl, hw⟩
  · go_enter Try.func18, Try.ntmps18
    go_wp2_with fail
    refine (HN.out 1 (by decide)).mono ?_
    rintro e w1 ⟨rfl, hw⟩
    go_wp2_with fail
    go_end0
    exact ⟨rfl, hw⟩

set_option maxHeartbeats 400000 in
theorem wbytes_any (base pb : Nat) (v : Value) (bs : List UInt8) (w : World) (hW : Wr w base pb v bs) (hlen : bs.length ≤ 35184372088832) :
    Calls Try.prog 9 #[.pointer (some ⟨pb, 0, none⟩)] w (NewBytes bs w) := by
  obtain ⟨a, cap, rfl, hl, hm, hnc, hB, hn, _⟩ := owns_bytes hW.own
  have hc0 := hW.blk.cell 0
  simp at hc0
  have HC := Lib.hid (clone_bytes a cap bs w hn hB (by omega))
  clear hW hB hn
  go_enter Try.func9, Try.ntmps9
  go_wp2_with fail
  refine HC.out.mono ?_
  rintro e w1 ⟨v1, rfl, h1, h2⟩
  go_wp2_with fail
  go_ret
  exact ⟨_, rfl, h1, h2⟩
end Go.Proofs.Ytllpcddfnjbeaaa
