/- complineref01.Read: the number at a text's beginning. -/
import Derived.Test.YtkogchmnpffiaaaOctetG
import Derived.Test.YtkogchmnpffiaaaRefN
namespace Go.Proofs.Ytkogchmnpffiaaa
set_option linter.unusedVariables false
open Go.RowKit

/-- the number of seven bits each, the lowest first -/
def valF : List UInt8 → Nat
  | [] => 0
  | b :: r => b.toNat % 128 + 128 * valF r
theorem valF_snoc : ∀ (a : List UInt8) (b : UInt8), valF (a ++ [b]) = valF a + b.toNat % 128 * 128 ^ a.length
  | [], b => by simp [valF]
  | x :: a, b => by
    show x.toNat % 128 + 128 * valF (a ++ [b]) = x.toNat % 128 + 128 * valF a + b.toNat % 128 * 128 ^ (a.length + 1)
    rw [valF_snoc a b, Nat.pow_succ, Nat.mul_add, ← Nat.mul_assoc, Nat.mul_comm 128 (b.toNat % 128), Nat.mul_assoc (b.toNat % 128), Nat.mul_comm 128 (128 ^ a.length)]
    omega
theorem valF_lt : ∀ (l : List UInt8), valF l < 128 ^ l.length
  | [] => by simp [valF]
  | b :: r => by
    have h := valF_lt r
    show b.toNat % 128 + 128 * valF r < 128 ^ (r.length + 1)
    rw [Nat.pow_succ]
    omega
theorem valF_cons_le (b : UInt8) (r : List UInt8) : valF r ≤ valF (b :: r) := by
  show valF r ≤ b.toNat % 128 + 128 * valF r
  omega
theorem valF_drop_le : ∀ (l : List UInt8) (i : Nat), valF (l.drop i) ≤ valF l
  | l, 0 => Nat.le_refl _
  | [], i + 1 => by simp
  | b :: r, i + 1 => Nat.le_trans (valF_drop_le r i) (valF_cons_le b r)
theorem valF_drop {l : List UInt8} {i : Nat} (h : i < l.length) : valF (l.drop i) = (l.getD i 0).toNat % 128 + 128 * valF (l.drop (i + 1)) := by
  rw [List.drop_eq_getElem_cons h]
  simp [valF, List.getD, h]
/-- what Read answers -/
def refR (l : List UInt8) : Nat × Nat × Int := if (numR l 0).2.2 = 0 then ((numR l 0).1, l.length - (numR l 0).2.1.length, 0) else (0, 0, (numR l 0).2.2)

theorem pow7 (k : Nat) : 2 ^ (7 * k) = 128 ^ k := by rw [Nat.pow_mul]
theorem valF_small {l : List UInt8} {k : Nat} {c : UInt8} (hk : k ≤ 9) (hl : l.length = k) (hc : k = 9 → c.toNat ≤ 1) : valF (l ++ [c]) < 18446744073709551616 := by
  rw [valF_snoc, hl]
  have h := valF_lt l
  rw [hl] at h
  rcases Nat.lt_or_ge k 9 with h9 | h9
  · have h2 : 128 ^ k ≤ 128 ^ 8 := Nat.pow_le_pow_right (by decide) (by omega)
    have h3 : c.toNat % 128 * 128 ^ k ≤ 127 * 128 ^ 8 := Nat.mul_le_mul (by omega) h2
    omega
  · obtain rfl : k = 9 := by omega
    have h3 : c.toNat % 128 * 128 ^ 9 ≤ 1 * 128 ^ 9 := Nat.mul_le_mul_right _ (by have := hc rfl; omega)
    omega

theorem horner {X Y c : Nat} (h : Y = c % 128 + 128 * X) (hy : Y < 18446744073709551616) : IntKind.u64.wrap (IntKind.u64.wrap ((X : Int) * 128) + (c : Int) % 128) = (Y : Int) := by
  rw [IntKind.wrap_u64, IntKind.wrap_u64]
  omega
theorem getD_byte (s : ByteArray) (k : Nat) (h : k < s.size) : s.data.toList.getD k 0 = s[k] := by
  have h2 : k < s.data.toList.length := by rw [size_list]; exact h
  rw [List.getD, List.getElem?_eq_getElem h2]
  rfl
section
variable {l : List UInt8} {k : Nat}
theorem read_head (h : readF k (valF (l.take k)) (l.drop k) = numR l 0) (hk : k < l.length) : numR l 0 = if 9 < k ∨ (k = 9 ∧ 1 < (l.getD k 0).toNat) ∨ ((l.getD k 0).toNat = 0 ∧ 0 < k) then (0, [], 2)
    else if (l.getD k 0).toNat < 128 then (valF (l.take k) + (l.getD k 0).toNat * 2 ^ (7 * k), l.drop (k + 1), 0) else readF (k + 1) (valF (l.take k) + (l.getD k 0).toNat % 128 * 2 ^ (7 * k)) (l.drop (k + 1)) := by
  rw [← h, List.drop_eq_getElem_cons hk]
  have : l.getD k 0 = l[k] := by simp [List.getD, hk]
  rw [this]
  rfl
theorem valF_take (hk : k < l.length) : valF (l.take (k + 1)) = valF (l.take k) + (l.getD k 0).toNat % 128 * 2 ^ (7 * k) := by
  have : l.getD k 0 = l[k] := by simp [List.getD, hk]
  rw [List.take_succ_eq_append_getElem hk, valF_snoc, pow7, this, List.length_take, Nat.min_eq_left (by omega)]
theorem read_bad (h : readF k (valF (l.take k)) (l.drop k) = numR l 0) (hk : k < l.length) (hb : (k = 9 ∧ 1 < (l.getD k 0).toNat) ∨ ((l.getD k 0).toNat = 0 ∧ 0 < k)) : refR l = (0, 0, 2) := by
  have h2 := read_head h hk
  rw [if_pos (.inr hb)] at h2
  unfold refR
  rw [h2]
  rfl
theorem read_small (h : readF k (valF (l.take k)) (l.drop k) = numR l 0) (hk : k < l.length) (hk9 : k ≤ 9) (hb : ¬ ((k = 9 ∧ 1 < (l.getD k 0).toNat) ∨ ((l.getD k 0).toNat = 0 ∧ 0 < k))) (hc : (l.getD k 0).toNat < 128) : refR l = (valF (l.take (k + 1)), k + 1, 0) := by
  have h2 := read_head h hk
  rw [if_neg (by omega), if_pos hc] at h2
  unfold refR
  rw [h2, valF_take hk, Nat.mod_eq_of_lt hc]
  simp only [if_pos, List.length_drop]
  rw [show l.length - (l.length - (k + 1)) = k + 1 by omega]
theorem read_more (h : readF k (valF (l.take k)) (l.drop k) = numR l 0) (hk : k < l.length) (hk9 : k ≤ 9) (hb : ¬ ((k = 9 ∧ 1 < (l.getD k 0).toNat) ∨ ((l.getD k 0).toNat = 0 ∧ 0 < k))) (hc : ¬ (l.getD k 0).toNat < 128) : readF (k + 1) (valF (l.take (k + 1))) (l.drop (k + 1)) = numR l 0 := by
  have h2 := read_head h hk
  rw [if_neg (by omega), if_neg hc] at h2
  rw [h2, valF_take hk]
theorem read_short (h : readF k (valF (l.take k)) (l.drop k) = numR l 0) (hk : k = l.length) : refR l = (0, 0, 4) := by
  subst hk
  rw [List.drop_length] at h
  have h2 : numR l 0 = (0, [], 4) := by rw [← h]; rfl
  unfold refR
  rw [h2]
  rfl
end

set_option maxRecDepth 100000 in
set_option maxHeartbeats 2000000 in
theorem refRead_any (s : ByteArray) (w : World) (hl : s.size ≤ 1000000) :
    Calls Try.prog 27 #[.string s] w fun e w' => e = .returned (.tuple #[.int .u64 ((refR s.data.toList).1 : Int), .int .i64 ((refR s.data.toList).2.1 : Int), .int .i64 (refR s.data.toList).2.2]) ∧ w = w' := by
  obtain ⟨⟨R1, R2, R3⟩, hR⟩ : ∃ r, refR s.data.toList = r := ⟨_, rfl⟩
  rw [hR]
  have HR := Lib.hid hR
  clear hR
  simp only
  go_enter Try.func27, Try.ntmps27
  go_wp2_with fail
  go_loop [5] (fun n => ∃ k : Nat, k ≤ 9 ∧ k ≤ s.size ∧ n = .int .i64 ((k : Int) + 1) ∧ readF k (valF (s.data.toList.take k)) (s.data.toList.drop k) = numR s.data.toList 0) (fun n => 11 - (intOf n).toNat)
  case atStart => exact ⟨0, by omega, by omega, rfl, by simp [valF, numR]⟩
  case round =>
    obtain ⟨k, hk9, hks, rfl, hF⟩ := hrel
    have HF := Lib.hid hF
    clear hF
    by_cases hlt : k < s.size
    · have p0 : (k : Int) + 1 ≤ 10 := by omega
      have p1 : ¬ (s.size : Int) < (k : Int) + 1 := by omega
      have hkl : k < s.data.toList.length := by rw [size_list]; exact hlt
      have HG := Lib.hid (And.intro hkl (getD_byte s k hlt))
      have hval : ¬ ((k = 9 ∧ 1 < (s.data.toList.getD k 0).toNat) ∨ ((s.data.toList.getD k 0).toNat = 0 ∧ 0 < k)) → ∀ m, valF ((s.data.toList.take (k + 1)).drop m) < 18446744073709551616 := fun hb m => by
        refine Nat.lt_of_le_of_lt (valF_drop_le _ _) ?_
        rw [List.take_succ_eq_append_getElem hkl]
        have h2 : s.data.toList.getD k 0 = s.data.toList[k] := by rw [List.getD, List.getElem?_eq_getElem hkl]; rfl
        rw [h2] at hb
        exact valF_small hk9 (by rw [List.length_take]; omega) (fun h => by omega)
      have hstep : ∀ m, m < k + 1 → valF ((s.data.toList.take (k + 1)).drop m) = (s.data.toList.getD m 0).toNat % 128 + 128 * valF ((s.data.toList.take (k + 1)).drop (m + 1)) := fun m hm => by
        rw [valF_drop (by rw [List.length_take]; omega)]
        rw [getD_take _ _ _ _ hm]
      have HV := Lib.hid (And.intro hval hstep)
      clear hkl hval hstep
      go_wp2_with fail
      rotate_left 1
      · have hr := read_bad HF.out HG.out.1 (by rw [HG.out.2]; omega)
        rw [HR.out] at hr
        simp only [Prod.mk.injEq] at hr
        obtain ⟨rfl, rfl, rfl⟩ := hr
        go_ret3
        exact ⟨rfl, rfl⟩
      · have hr := read_bad HF.out HG.out.1 (by rw [HG.out.2]; omega)
        rw [HR.out] at hr
        simp only [Prod.mk.injEq] at hr
        obtain ⟨rfl, rfl, rfl⟩ := hr
        go_ret3
        exact ⟨rfl, rfl⟩
      rotate_left 2
      · have hm := read_more HF.out HG.out.1 hk9 (by rw [HG.out.2]; omega) (by rw [HG.out.2]; omega)
        exact ⟨⟨k + 1, by omega, by omega, by go_num, hm⟩, by simp [intOf]; omega⟩
      all_goals
        have hb : ¬ ((k = 9 ∧ 1 < (s.data.toList.getD k 0).toNat) ∨ ((s.data.toList.getD k 0).toNat = 0 ∧ 0 < k)) := by rw [HG.out.2]; omega
        have hr := read_small HF.out HG.out.1 hk9 hb (by rw [HG.out.2]; omega)
        have HB := Lib.hid (And.intro (HV.out.1 hb) HV.out.2)
        rw [HR.out] at hr
        simp only [Prod.mk.injEq] at hr
        obtain ⟨rfl, rfl, rfl⟩ := hr
        clear hb
        obtain ⟨T, hT⟩ : ∃ T, s.data.toList.take (k + 1) = T := ⟨_, rfl⟩
        rw [hT] at HB
        have HT := Lib.hid hT
        clear hT
        go_loop [7, 8] (fun x i => (i = .int .i64 (-1) ∧ x = .int .u64 (valF T : Int)) ∨ ∃ m : Nat, m ≤ k ∧ i = .int .i64 (m : Int) ∧ x = .int .u64 (valF (T.drop (m + 1)) : Int)) (fun _ i => (intOf i + 1).toNat)
        case atStart => exact .inr ⟨k, Nat.le_refl _, by go_num, by rw [← HT.out, List.drop_eq_nil_of_le (by rw [List.length_take]; omega)]; rfl⟩
        case round =>
          rcases hrel with ⟨rfl, rfl⟩ | ⟨m, hm, rfl, rfl⟩
          · go_wp2_with fail
            go_ret3
            exact ⟨by rw [HT.out]; rfl, rfl⟩
          · have hms : m < s.size := by omega
            have HE := Lib.hid (getD_byte s m hms)
            go_wp2_with fail
            have hst := HB.out.2 m (by omega)
            rw [HE.out] at hst
            have hlt2 := HB.out.1 m
            have e := horner hst hlt2
            rw [e]
            refine ⟨?_, by simp [intOf] <;> omega⟩
            cases m with
            | zero => exact .inl ⟨rfl, rfl⟩
            | succ m => exact .inr ⟨m, by omega, by go_num, rfl⟩
    · obtain rfl : k = s.size := by omega
      have p0 : (s.size : Int) + 1 ≤ 10 := by omega
      have p1 : (s.size : Int) < (s.size : Int) + 1 := by omega
      have hr := read_short HF.out (size_list s).symm
      rw [HR.out] at hr
      simp only [Prod.mk.injEq] at hr
      obtain ⟨rfl, rfl, rfl⟩ := hr
      go_wp2_with fail
      go_ret3
      exact ⟨rfl, rfl⟩
end Go.Proofs.Ytkogchmnpffiaaa
