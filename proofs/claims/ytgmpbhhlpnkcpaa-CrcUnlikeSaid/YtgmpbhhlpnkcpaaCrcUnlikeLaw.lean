/- CrcUnlike: the walk of the law. -/
import Derived.Test.YtgmpbhhlpnkcpaaCrcRef
namespace Go.Proofs.Ytgmpbhhlpnkcpaa
set_option linter.unusedVariables false
open Go.RowKit

theorem four_inj (s a b : Nat) (ha : a < 2 ^ 32) (hb : b < 2 ^ 32) (h : moreN s (leN 4 a) = moreN s (leN 4 b)) : a = b := by
  have h1 := runN_le 4 (4294967295 - s) a (by simpa using ha)
  have h2 := runN_le 4 (4294967295 - s) b (by simpa using hb)
  have hs : 4294967295 - s < 2 ^ 32 := by omega
  have l1 := runN_lt (leN 4 a) hs
  have l2 := runN_lt (leN 4 b) hs
  unfold moreN at h
  have e : runN (4294967295 - s) (leN 4 a) = runN (4294967295 - s) (leN 4 b) := by omega
  rw [h1, h2] at e
  have e2 := advN_inj _ (Nat.xor_lt_two_pow hs ha) (Nat.xor_lt_two_pow hs hb) e
  have e3 : (4294967295 - s) ^^^ ((4294967295 - s) ^^^ a) = (4294967295 - s) ^^^ ((4294967295 - s) ^^^ b) := by rw [e2]
  rwa [← Nat.xor_assoc, ← Nat.xor_assoc, Nat.xor_self, Nat.zero_xor, Nat.zero_xor] at e3

def fourCells (x : Nat) : Array Value := #[.int .u8 ((x % 256 : Nat) : Int), .int .u8 ((x / 256 % 256 : Nat) : Int), .int .u8 ((x / 65536 % 256 : Nat) : Int), .int .u8 ((x / 16777216 % 256 : Nat) : Int)]

theorem four_bytes (w : World) (x : Nat) : Bytes (w.alloc (.cells (fourCells x) 5)) (some ⟨w.heap.size, 0, none⟩) (leN 4 x) := by
  intro i hi
  refine ⟨w.heap.size, 0, rfl, by simp, ?_⟩
  match i, hi with
  | 0, _ => simp [fourCells, leN]
  | 1, _ => simp [fourCells, leN]
  | 2, _ => simp [fourCells, leN]; omega
  | 3, _ => simp [fourCells, leN]; omega
  | n + 4, h => simp [leN] at h; omega

set_option maxHeartbeats 400000 in
theorem four_any (x : Nat) (w : World) (hx : x < 4294967296) :
    Calls Try.prog 11 #[.int .u32 x] w fun e w' => e = .returned (.slice (some ⟨w.heap.size, 0, none⟩) 4 4) ∧ w.alloc (.cells (fourCells x) 5) = w' := by
  go_enter Try.func11, Try.ntmps11
  go_wp2
  go_ret
  refine ⟨rfl, ?_⟩
  have e : x / 16777216 % 256 = x / 16777216 := by omega
  simp [fourCells, e]

set_option maxHeartbeats 400000 in
theorem crcUnlike_long (a : Option Addr) (la ca : Nat) (x y : Nat) (w : World) (h : 300 < la) (hla : la ≤ maxLen) :
    Calls Try.prog 6 #[.slice a la ca, .int .u32 x, .int .u32 y] w fun e w' => e = .returned (.bool true) ∧ Below w.heap.size w w' := by
  unfold maxLen at hla
  go_enter Try.func6, Try.ntmps6
  go_wp2_with fail
  refine (lives_any _).mono ?_
  rintro e w1 ⟨rfl, hb1⟩
  have h1 := hb1.size
  go_wp2_with fail
  refine (lives_any _).mono ?_
  rintro e w2 ⟨rfl, hb2⟩
  go_wp2_with fail
  go_ret
  exact ⟨rfl, hb1.trans (hb2.mono h1)⟩

set_option maxHeartbeats 400000 in
theorem crcUnlike_walk (a : Option Addr) (la ca : Nat) (l : List UInt8) (x y : Nat) (w : World) (hla : l.length = la) (h300 : la ≤ 300) (hA : Bytes w a l) (hx : x < 4294967296) (hy : y < 4294967296) :
    Calls Try.prog 6 #[.slice a la ca, .int .u32 x, .int .u32 y] w fun e w' => e = .returned (.bool true) ∧ Below w.heap.size w w' := by
  have HLA := Lib.hid hla
  have HA := Lib.hid hA
  have hfin : ((((moreN (moreN 0 l) (leN 4 x) : Nat) : Int) == ((moreN (moreN 0 l) (leN 4 y) : Nat) : Int)) == ((x : Int) == (y : Int))) = true := by
    by_cases hxy : x = y
    · subst hxy; simp
    · have : moreN (moreN 0 l) (leN 4 x) ≠ moreN (moreN 0 l) (leN 4 y) := fun h => hxy (four_inj _ _ _ hx hy h)
      rw [show (((moreN (moreN 0 l) (leN 4 x) : Nat) : Int) == ((moreN (moreN 0 l) (leN 4 y) : Nat) : Int)) = false from beq_eq_false_iff_ne.2 (by omega), show ((x : Int) == (y : Int)) = false from beq_eq_false_iff_ne.2 (by omega)]
      rfl
  have HF := Lib.hid hfin
  clear hfin hla hA
  go_enter Try.func6, Try.ntmps6
  go_wp2_with fail
  refine (lives_any _).mono ?_
  rintro e w1 ⟨rfl, hb1⟩
  have h1 := hb1.size
  have HA1 := Lib.hid (HA.out.below hb1)
  go_wp2_with fail
  refine (sum_any a la ca l _ HLA.out (by unfold maxLen; omega) HA1.out).mono ?_
  have HS := Lib.hid (moreN_lt 0 l)
  generalize moreN 0 l = s at *
  rintro e w4 ⟨rfl, rfl⟩
  go_wp2_with fail
  refine (four_any x _ hx).mono ?_
  rintro e w5 ⟨rfl, rfl⟩
  have HX := Lib.hid (four_bytes w1 x)
  generalize hwx : w1.alloc (.cells (fourCells x) 5) = wx at *
  have hbx : Below w1.heap.size w1 wx := by rw [← hwx]; exact (Below.refl _ _).alloc (Nat.le_refl _) _
  clear hwx
  go_wp2_with fail
  refine (more_any s _ 4 4 (leN 4 x) _ HS.out rfl (by decide) HX.out).mono ?_
  rintro e w5 ⟨rfl, rfl⟩
  have HY := Lib.hid (four_bytes wx y)
  go_wp2_with fail
  refine (four_any y _ hy).mono ?_
  rintro e w5 ⟨rfl, rfl⟩
  generalize hwy : wx.alloc (.cells (fourCells y) 5) = wy at *
  have hby : Below w1.heap.size w1 wy := by rw [← hwy]; exact hbx.alloc hbx.size _
  clear hwy hbx
  go_wp2_with fail
  refine (more_any s _ 4 4 (leN 4 y) _ HS.out rfl (by decide) HY.out).mono ?_
  rintro e w5 ⟨rfl, rfl⟩
  have hf := HF.out
  clear HF
  generalize ((moreN s (leN 4 x) : Nat) : Int) = p at *
  generalize ((moreN s (leN 4 y) : Nat) : Int) = q at *
  go_wp2_with fail
  go_ret
  exact ⟨rfl, hb1.trans (hby.mono h1)⟩
end Go.Proofs.Ytgmpbhhlpnkcpaa
