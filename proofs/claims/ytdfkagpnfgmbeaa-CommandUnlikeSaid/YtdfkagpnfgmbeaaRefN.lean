/- complineref01.Num: the document's bytes of a number. -/
import Derived.Test.YtdfkagpnfgmbeaaOctetP
import Derived.Test.YtdfkagpnfgmbeaaOctetS
import Derived.Deep.RegionWith
namespace Go.Proofs.Ytdfkagpnfgmbeaa
set_option linter.unusedVariables false
open Go.RowKit

theorem one_conv (W : World) (b : Nat) (u : UInt8) (v : Int) (hv : v = (u.toNat : Int)) (hc : W.cell? ⟨b, 0, none⟩ = some (.int .u8 v)) :
    (convert 23 9 (.slice (some ⟨b, 0, none⟩) 1 1)).run Try.prog W = .ok (.string (bstr [u])) W := by
  subst hv
  have := run_convert_bytes_arg (P := Try.prog) W 23 5 Try.underlying23 Try.underlying5 b 0 1 1 [(u.toNat : Int)] rfl
      (fun i hi => by obtain rfl : i = 0 := by omega
                      simpa using hc) 9 Try.underlying9
  rw [strOfNums_one] at this
  exact this

theorem sees_one (w w2 : World) (v : Int) (T : TypeId) (hs : Step [] (w.alloc (.cells #[.int .u8 v] T)).drew w2) : w2.cell? ⟨w.heap.size, 0, none⟩ = some (.int .u8 v) := by
  have h1 : w.heap.size < (w.alloc (.cells #[.int .u8 v] T)).drew.heap.size := by
    show w.heap.size < (w.alloc (.cells #[.int .u8 v] T)).heap.size
    simp
  rw [hs.cell h1 (by simp)]
  exact (Blk.new w #[.int .u8 v] T).cell 0

set_option maxRecDepth 20000 in
set_option maxHeartbeats 1000000 in
theorem refnum_any : ∀ (k x : Nat) (w : World), k ≤ 1000 → x < 128 * 128 ^ k → x < M64 →
    Calls Try.prog 24 #[.int .u64 x] w fun e w' => e = .returned (.string (bstr (numF k x))) ∧ Step [] w w'
  | k, x, w, hk1, hk, hx => by
    by_cases h : x < 128
    · rw [numF_low k x h]
      have hv : ((x : Nat) : Int) % 256 = ((UInt8.ofNat x).toNat : Int) := by simp
      have hcv := one_conv (w.alloc (.cells #[.int .u8 (x : Int)] 5)) w.heap.size (UInt8.ofNat x) (x : Int) (by simp; omega) (by simp)
      have hx0 : (x : Int) < 128 := by omega
      clear hx
      go_enter Try.func24, Try.ntmps24
      go_wp2_with fail
      go_ret
      exact ⟨rfl, (Step.refl [] w).alloc _⟩
    · cases k with
      | zero => omega
      | succ k =>
        rw [numF_high k x h]
        have hk' : x / 128 < 128 * 128 ^ k := by
          rw [Nat.pow_succ] at hk
          exact Nat.div_lt_of_lt_mul (by rw [show 128 * (128 * 128 ^ k) = 128 * (128 ^ k * 128) by rw [Nat.mul_comm 128 (128 ^ k)]]; exact hk)
        have hx' : x / 128 < M64 := by unfold M64 at *; omega
        have IH := Lib.hid (fun W => refnum_any k (x / 128) W (by omega) hk' hx')
        have hx0 : ¬ (x : Int) < 128 := by omega
        have ea : IntKind.u64.wrap ((x : Int) / 128) = ((x / 128 : Nat) : Int) := by
          rw [IntKind.wrap_u64]
          unfold M64 at hx
          omega
        have ev : IntKind.u8.wrap (IntKind.u64.wrap ((x : Int).tmod 128 + 128)) = ((UInt8.ofNat (x % 128 + 128)).toNat : Int) := by
          rw [IntKind.wrap_u64, IntKind.wrap_u8, Int.tmod_eq_emod_of_nonneg (by omega)]
          simp
        rw [← ea] at IH
        generalize hu : UInt8.ofNat (x % 128 + 128) = u at *
        clear hx hk hk' hx' ea hu
        have hcv1 : (convert 23 9 (.slice (some ⟨w.heap.size, 0, none⟩) 1 1)).run Try.prog (w.alloc (.cells #[.int .u8 (IntKind.u8.wrap (IntKind.u64.wrap ((x : Int).tmod 128 + 128)))] 5)).drew = _ := one_conv _ w.heap.size u _ ev (by simp)
        have EV := Lib.hid ev
        clear ev
        have hln := numF_len k (x / 128)
        have hsz : (bstr [u]).size + (bstr (numF k (x / 128))).size ≤ 9223372036854775807 := by
          rw [bstr_size, bstr_size]
          simp
          omega
        go_enter Try.func24, Try.ntmps24
        go_wp2_with fail
        go_region_with (first
          | (go_at_call 24; refine (IH.out (w.alloc (.cells #[.int .u8 (IntKind.u8.wrap (IntKind.u64.wrap ((x : Int).tmod 128 + 128)))] 5)).drew).mono ?_; rintro e w2 ⟨rfl, hs⟩; have hcv2 := one_conv w2 w.heap.size u _ EV.out (sees_one w w2 _ _ hs))
          | (go_at_call 24; refine (IH.out w.drew).mono ?_; rintro e w2 ⟨rfl, hs⟩; have hcv3 := one_conv (w2.alloc (.cells #[.int .u8 (IntKind.u8.wrap (IntKind.u64.wrap ((x : Int).tmod 128 + 128)))] 5)) w2.heap.size u _ EV.out (by simp)))
        all_goals
          go_wp2
          go_ret
        all_goals
          refine ⟨congrArg (fun s => Ending.returned (.string s)) (bstr_app [u] _), ?_⟩
          first
            | exact (((Step.refl [] w).alloc _).drew).then hs (fun _ h => by cases h)
            | exact (((Step.refl [] w).drew).then hs (fun _ h => by cases h)).alloc _

theorem refNum_any (x : Nat) (w : World) (hx : x < M64) :
    Calls Try.prog 24 #[.int .u64 x] w fun e w' => e = .returned (.string (bstr (numB x))) ∧ Step [] w w' :=
  refnum_any 9 x w (by omega) (by unfold M64 at hx; omega) hx
end Go.Proofs.Ytdfkagpnfgmbeaa
