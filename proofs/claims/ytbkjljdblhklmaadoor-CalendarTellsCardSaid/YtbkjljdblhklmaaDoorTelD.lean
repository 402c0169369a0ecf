/- calendar: the law's own digits. -/
import Derived.Test.YtbkjljdblhklmaaDoorTelI
import Derived.Test.YtbkjljdblhklmaaDoorLoopM
namespace Go.Proofs.YtbkjljdblhklmaaDoor
set_option linter.unusedVariables false
open Go.RowKit
/-- no digit of 0 -/
def decZ (m : Nat) : List UInt8 := if m = 0 then [] else Lib.decDigits m
def padG (least m : Nat) (out : List UInt8) : List UInt8 := List.replicate (least - (decZ m).length - out.length) 48 ++ decZ m ++ out
theorem decZ_step (m : Nat) (h : 0 < m) : decZ m = decZ (m / 10) ++ [UInt8.ofNat (48 + m % 10)] := by
  unfold decZ
  rw [if_neg (by omega)]
  rw [Lib.decDigits]
  split
  · rename_i h10
    rw [if_pos (by omega), Nat.mod_eq_of_lt h10]
    rfl
  · rw [if_neg (by omega)]
theorem padG_step (least m : Nat) (out : List UInt8) (h : 0 < m ∨ out.length < least) : padG least (m / 10) (UInt8.ofNat (48 + m % 10) :: out) = padG least m out := by
  unfold padG
  by_cases hm : 0 < m
  · rw [decZ_step m hm]
    simp only [List.length_append, List.length_cons, List.length_nil, List.append_assoc, List.cons_append, List.nil_append]
    congr 2
    omega
  · obtain rfl : m = 0 := by omega
    have hl : out.length < least := by omega
    have e0 : decZ 0 = [] := rfl
    simp only [Nat.zero_div, Nat.zero_mod, e0, List.length_nil, Nat.sub_zero, List.append_nil, List.length_cons]
    rw [show least - out.length = (least - (out.length + 1)) + 1 from by omega, List.replicate_succ', List.append_assoc]
    rfl
theorem padG_end (least : Nat) (out : List UInt8) (h : ¬ out.length < least) : padG least 0 out = out := by
  unfold padG
  have e0 : decZ 0 = [] := rfl
  rw [e0, show least - ([] : List UInt8).length - out.length = 0 from by simp; omega]
  simp
theorem padG_start (n least : Nat) (h : 1 ≤ least) : padG least n [] = padL n least := by
  unfold padG padL decZ
  by_cases hn : n = 0
  · subst hn
    have : Lib.decDigits 0 = [48] := by rw [Lib.decDigits]; rfl
    rw [this]
    simp only [if_true, List.length_nil, Nat.sub_zero, List.append_nil, List.length_cons, Nat.zero_add]
    rw [show least = (least - 1) + 1 from by omega, List.replicate_succ']
    simp
  · rw [if_neg hn]
    simp
theorem dig_val (m : Nat) : strOfNums [48 + ((m : Int) % 10)] = ⟨#[UInt8.ofNat (48 + m % 10)]⟩ := by
  have h : (48 + (m : Int) % 10) = ((UInt8.ofNat (48 + m % 10)).toNat : Int) := by simp; omega
  rw [h, strOfNums_one]
theorem one_cat (b : UInt8) (out : List UInt8) : (⟨#[b]⟩ : ByteArray) ++ ⟨out.toArray⟩ = ⟨(b :: out).toArray⟩ := by
  have := cat_lists [b] out
  simpa using this
set_option maxHeartbeats 1000000 in
theorem lawdigits_any (n least : Nat) (h1 : n ≤ 3000000) (hl0 : 1 ≤ least) (hl : least ≤ 10) (w : World) :
    Calls Tryd.prog 8 #[.int .i64 n, .int .i64 least] w fun e w' => e = .returned (.string ⟨(padL n least).toArray⟩) ∧ Step [] w w' := by
  have HP := Lib.hid (padG_start n least hl0)
  go_enter Tryd.func8, Tryd.ntmps8
  go_wp2_with fail
  go_loopw [0, 5] (fun x y wr => ∃ (m : Nat) (out : List UInt8), x = .int .i64 (m : Int) ∧ y = .string ⟨out.toArray⟩ ∧ m ≤ n ∧ padG least m out = padL n least ∧ Step [] w wr) (fun x y _ => (intOf x).toNat + (least - (match y with | .string s => s.size | _ => 0)))
  case atStart => exact ⟨n, [], rfl, rfl, Nat.le_refl _, HP.out, Step.refl _ _⟩
  case round =>
    obtain ⟨m, out, rfl, rfl, hm, hg, hs⟩ := hrel
    have hlen : out.length ≤ 40 := by
      have h2 := congrArg List.length hg
      have h3 := dec_len n h1
      unfold padG padL at h2
      simp only [List.length_append, List.length_replicate] at h2
      omega
    have HG := Lib.hid hg
    have HS := Lib.hid hs
    obtain ⟨S, hS⟩ : ∃ S : ByteArray, (⟨out.toArray⟩ : ByteArray) = S := ⟨_, rfl⟩
    have hsz : S.size = out.length := by rw [← hS, str_len]
    have HSS := Lib.hid hS
    obtain ⟨D, hD⟩ : ∃ D, out.length = D := ⟨_, rfl⟩
    rw [hD] at hsz hlen
    have HD := Lib.hid hD
    rw [hS]
    clear hg hs hS hD
    have hcv := run_convert_bytes_arg (P := Tryd.prog) (wr.alloc (.cells #[.int .u8 (48 + (m : Int) % 10)] 5)) 38 5 Tryd.underlying38 Tryd.underlying5 wr.heap.size 0 1 1 [48 + (m : Int) % 10] rfl
        (fun i hi => by obtain rfl : i = 0 := by omega
                        simp) 9 Tryd.underlying9
    rw [dig_val] at hcv
    have hbr : 0 ≤ (m : Int) % 10 ∧ (m : Int) % 10 < 10 := by omega
    have g1 : (S.size : Int) ≤ 8388608 := by omega
    have m0 : (0 : Int) ≤ (m : Int) := by omega
    obtain ⟨T, hT⟩ : ∃ T : ByteArray, (⟨#[UInt8.ofNat (48 + m % 10)]⟩ : ByteArray) = T := ⟨_, rfl⟩
    have hTs : T.size = 1 := by rw [← hT]; rfl
    have g2 : (T.size : Int) ≤ 8388608 := by omega
    have HC := Lib.hid (show T ++ S = ⟨(UInt8.ofNat (48 + m % 10) :: out).toArray⟩ from by rw [← hT, ← HSS.out]; exact one_cat _ _)
    rw [hT] at hcv
    by_cases hgo : 0 < m ∨ D < least
    · have HN := Lib.hid (show padG least (m / 10) (UInt8.ofNat (48 + m % 10) :: out) = padL n least from by rw [padG_step least m out (by rw [HD.out]; exact hgo)]; exact HG.out)
      have hTS : (T ++ S).size = D + 1 := by
        have : (T ++ S).size = T.size + S.size := ByteArray.size_append ..
        omega
      have HZ := Lib.hid (And.intro hTS hsz)
      by_cases hm0 : 0 < m
      · have p1 : (0 : Int) < (m : Int) := by omega
        clear hT hTS
        go_wp2_with fail
        go_roundw
        case rel => exact ⟨m / 10, _, by simp, by rw [HC.out], by omega, HN.out, HS.out.alloc _⟩
        case measure =>
          have h1 := HZ.out.1
          have h2 := HZ.out.2
          simp only [intOf]
          rw [h1, h2]
          omega
      · have p1 : ¬ (0 : Int) < (m : Int) := by omega
        have p2 : (D : Int) < (least : Int) := by omega
        clear hT hTS
        go_wp2_with fail
        go_roundw
        case rel => exact ⟨m / 10, _, by simp, by rw [HC.out], by omega, HN.out, HS.out.alloc _⟩
        case measure =>
          have h1 := HZ.out.1
          have h2 := HZ.out.2
          simp only [intOf]
          rw [h1, h2]
          omega
    · have hm0 : m = 0 := by omega
      have p1 : ¬ (0 : Int) < (m : Int) := by omega
      have p2 : ¬ (D : Int) < (least : Int) := by omega
      have hE := HG.out
      rw [hm0, padG_end least out (by rw [HD.out]; omega)] at hE
      have HE := Lib.hid (show S = ⟨(padL n least).toArray⟩ from by rw [← HSS.out, hE])
      clear hE hT
      go_wp2_with fail
      go_ret
      exact ⟨by rw [HE.out]; rfl, HS.out⟩
end Go.Proofs.YtbkjljdblhklmaaDoor
