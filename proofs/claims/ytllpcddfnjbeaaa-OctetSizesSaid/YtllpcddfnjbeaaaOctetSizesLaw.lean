/- OctetSizes: the law's own walk. -/
import Derived.Test.YtllpcddfnjbeaaaOctetLives
namespace Go.Proofs.Ytllpcddfnjbeaaa
set_option linter.unusedVariables false
open Go.RowKit

theorem numF_more : ∀ (k x : Nat), x < 128 ^ (k + 1) → numF (k + 1) x = numF k x
  | 0, x, h => by
    have : x < 128 := by simpa using h
    simp [numF, this]
  | k + 1, x, h => by
    by_cases hx : x < 128
    · rw [numF_low _ _ hx, numF_low _ _ hx]
    · rw [numF_high _ _ hx, numF_high _ _ hx, numF_more k (x / 128)]
      rw [Nat.pow_succ] at h
      exact Nat.div_lt_of_lt_mul (by rw [Nat.mul_comm]; exact h)

theorem size_low (x : Nat) (h : x < 128) : (numB x).length = 1 := by
  unfold numB
  rw [numF_low _ _ h]
  rfl
theorem size_high (x : Nat) (h : ¬ x < 128) (hx : x < M64) : (numB x).length = (numB (x / 128)).length + 1 := by
  unfold numB M64 at *
  rw [numF_high 8 x h, List.length_cons, numF_more 8 (x / 128) (by omega)]

/-- the bytes behind the first one -/
def moreB (z : Nat) : Nat := if z = 0 then 0 else (numB z).length
theorem moreB_of (x : Nat) (hx : x < M64) : (numB x).length = 1 + moreB (x / 128) := by
  by_cases h : x < 128
  · rw [size_low x h, moreB, if_pos (by omega)]
  · rw [size_high x h hx, moreB, if_neg (by omega)]
    omega
theorem moreB_step (z : Nat) (hz : z < M64) (h0 : 0 < z) : moreB z = 1 + moreB (z / 128) := by
  rw [← moreB_of z hz, moreB, if_neg (by omega)]

theorem twice_pos (y : Int) (h : I64 y) (h0 : ¬ y < 0) : IntKind.u64.wrap (IntKind.u64.wrap y * 2) = ((foldN y : Nat) : Int) := by
  unfold I64 at h
  rw [IntKind.wrap_u64, IntKind.wrap_u64]
  unfold foldN
  rw [if_pos (by omega)]
  omega

theorem twice_neg (y : Int) (h : I64 y) (h0 : y < 0) : bits BinOp.xor IntKind.u64 IntKind.u64.max (IntKind.u64.wrap (IntKind.u64.wrap y * 2)) = ((foldN y : Nat) : Int) := by
  unfold I64 at h
  rw [IntKind.wrap_u64, IntKind.wrap_u64]
  have e1 : y % 18446744073709551616 * 2 % 18446744073709551616 = (((2 * y + 18446744073709551616).toNat : Nat) : Int) := by omega
  have e2 : IntKind.u64.max = ((18446744073709551615 : Nat) : Int) := by decide
  rw [e1, e2, u64_xor_nat _ _ (by decide) (by omega), Nat.xor_comm, not64 _ (by omega)]
  unfold foldN
  rw [if_neg (by omega)]
  omega

set_option maxRecDepth 100000 in
set_option maxHeartbeats 2000000 in
theorem octetSizes_any (x : Nat) (y : Int) (w : World) (hx : x < M64) (hy : I64 y) :
    Calls Try.prog 3 #[.int .u64 x, .int .i64 y] w fun e w' => e = .returned (.bool true) ∧ Below w.heap.size w w' := by
  have HY := Lib.hid hy
  have HX := Lib.hid hx
  clear hy hx
  go_enter Try.func3, Try.ntmps3
  go_wp2_with fail
  refine (lives_any w).mono ?_
  rintro e w1 ⟨rfl, hs⟩
  have HS := Lib.hid hs
  clear hs
  go_wp2_with fail
  have hV0 := Wr.new (w1.alloc (.cells #[.slice none 0 0] 27))
  have hW0 := (Wr.new w1).step (F := []) ((Step.refl _ _).alloc (.cells #[.slice none 0 0] 27)) (by simp) (fun k hk => by simp)
  rw [World.size_alloc] at hV0
  have hc1 := num_any _ _ _ [] x _ hW0 HX.out (by simp)
  refine Calls.mono hc1 ?_
  clear hc1
  rintro e w2 ⟨rfl, v2, hW2, hs2, hf2⟩
  have hV2 := hV0.step hs2 (by simp [foot, Value.ownBlock]) (by simp [foot, Value.ownBlock])
  have HS2 : Step [] w w2 := ((HS.out.alloc _).alloc _).then hs2 (hW0.new_blocks (HS.out.size))
  have hb := HS.out.size
  have HV := Lib.hid hV2
  have HW := Lib.hid hW2
  have HT := Lib.hid HS2
  have HF := Lib.hid hf2
  clear hV0 hs2 hV2 HS2 hW2 hW0 hf2 HS
  go_wp2_with fail
  refine (wint_any _ _ _ [] y _ HV.out HY.out (by simp)).mono ?_
  rintro e w3 ⟨rfl, v3, hV3, hs3, -⟩
  have hW3 := HW.out.step hs3 (by simp [foot, Value.ownBlock]) (fun k hk => by
    have := HF.out k hk
    simp [foot, Value.ownBlock] at this ⊢
    omega)
  have HT3 := Lib.hid (HT.out.then hs3 (HV.out.new_blocks (by omega)))
  have HW3 := Lib.hid hW3
  have HV3 := Lib.hid hV3
  clear hW3 hV3 hs3 HV HW HT HF
  go_wp2_with fail
  go_loop [7, 8] (fun n z => ∃ (k m : Nat), n = .int .i64 k ∧ z = .int .u64 m ∧ m < M64 ∧ k + moreB m = (numB x).length) (fun _ z => (intOf z).toNat)
  case atStart =>
    have := HX.out
    refine ⟨1, x / 128, rfl, by simp, by unfold M64 at *; omega, (moreB_of x this).symm⟩
  case round =>
    obtain ⟨k, m, rfl, rfl, hm, hkm⟩ := hrel
    have HM := Lib.hid hm
    have HK := Lib.hid hkm
    clear hm hkm
    have hk10 : k ≤ 10 := by
      have h1 := HK.out
      have h2 := numB_len x
      omega
    by_cases h0 : 0 < m
    · go_wp2_with fail
      go_round
      case rel =>
        have h1 := moreB_step m HM.out h0
        have h2 := HK.out
        have h3 := HM.out
        exact ⟨k + 1, m / 128, by go_num, by simp, by unfold M64 at *; omega, by omega⟩
      case measure => simp [intOf]; omega
    · have hm0 : m = 0 := by omega
      subst hm0
      have hkl : k = (numB x).length := by have := HK.out; simpa [moreB] using this
      clear HK HM h0 hk10
      go_wp2_with fail
      all_goals first | rw [twice_neg y HY.out (by assumption)] | rw [twice_pos y HY.out (by omega)]
      all_goals
        go_loop [10, 11] (fun n z => ∃ (k m : Nat), n = .int .i64 k ∧ z = .int .u64 m ∧ m < M64 ∧ k + moreB m = (numB (foldN y)).length) (fun _ z => (intOf z).toNat)
        case atStart =>
          have := foldN_lt y HY.out
          refine ⟨1, foldN y / 128, rfl, by simp, by unfold M64 at *; omega, (moreB_of _ this).symm⟩
        case round =>
          obtain ⟨j, m, rfl, rfl, hm, hkm⟩ := hrel
          have HM := Lib.hid hm
          have HK := Lib.hid hkm
          clear hm hkm
          have hk10 : j ≤ 10 := by
            have h1 := HK.out
            have h2 := numB_len (foldN y)
            omega
          by_cases h0 : 0 < m
          · go_wp2_with fail
            go_round
            case rel =>
              have h1 := moreB_step m HM.out h0
              have h2 := HK.out
              have h3 := HM.out
              exact ⟨j + 1, m / 128, by go_num, by simp, by unfold M64 at *; omega, by omega⟩
            case measure => simp [intOf]; omega
          · have hm0 : m = 0 := by omega
            subst hm0
            have hkl2 : j = (numB (foldN y)).length := by have := HK.out; simpa [moreB] using this
            clear HK HM h0 hk10
            have HA := Lib.hid (wbytes_any _ _ _ _ _ HW3.out (by have := numB_len x; simp; omega))
            go_wp2_with fail
            refine HA.out.mono ?_
            rintro e w4 hb4
            obtain ⟨a4, cap4, rfl, -, -, hst4⟩ := hb4.slb
            have hV4 := HV3.out.step hst4 (by simp) (by simp)
            have HT4 := Lib.hid (HT3.out.then hst4 (fun k hk => by cases hk))
            have HB := Lib.hid (wbytes_any _ _ _ _ _ hV4 (by have := numB_len (foldN y); simp; omega))
            have hb1 : (((([] : List UInt8) ++ numB x).length : Int) == (k : Int)) = true := by simp [hkl]
            clear hb4 hst4 hV4 HA
            go_wp2_with fail
            refine HB.out.mono ?_
            rintro e w5 hb5
            obtain ⟨a5, cap5, rfl, -, -, hst5⟩ := hb5.slb
            have HT5 := Lib.hid (HT4.out.then hst5 (fun k hk => by cases hk))
            clear hb5 hst5
            have hb2 : (((([] : List UInt8) ++ numB (foldN y)).length : Int) == (j : Int)) = true := by simp [hkl2]
            go_wp2_with fail
            go_ret
            refine ⟨ret_bool ?_, HT5.out.below'⟩
            subst hkl hkl2
            simp
end Go.Proofs.Ytllpcddfnjbeaaa
