/- entry: the walks of follow, clone, and of the law's row. -/
import Derived.Test.YtjepglbolkbldaaEntB
import Derived.Laws.ResultCell
import Derived.Laws.Rows
namespace Go.Proofs.Ytjepglbolkbldaa
set_option linter.unusedVariables false
open Go.RowKit

/-- may entries follow an index of a term? -/
def followF : Nat → Nat → Bool → List En → Int
  | _, _, long, [] => if long then 15 else 0
  | i, t, long, x :: r => if x.ix = i + 1 ∧ ¬ x.tm < t then followF (i + 1) x.tm (long || decide (900 < x.dn)) r else 2

theorem drop_cons {l : List En} {k : Nat} (h : k < l.length) : l.drop k = l.getD k en0 :: l.drop (k + 1) := by
  rw [List.drop_eq_getElem_cons h]
  simp [List.getD, h]

set_option maxHeartbeats 1000000 in
theorem follow_any (a : Option Addr) (cap : Nat) (l : List En) (i0 t0 : Nat) (w : World) (hE : Ents w a l) (hi : i0 + l.length < 9223372036854775808) :
    Calls Try.prog 20 #[.int .u64 (i0 : Int), .int .u64 (t0 : Int), .slice a l.length cap] w fun e w' => e = .returned (.int .i64 (followF i0 t0 false l)) ∧ Step [] w w' := by
  obtain ⟨r0, hr0⟩ : ∃ r, followF i0 t0 false l = r := ⟨_, rfl⟩
  rw [hr0]
  have HR := Lib.hid hr0
  have HE := Lib.hid hE
  clear hr0 hE
  go_enter Try.func20, Try.ntmps20
  go_wp2_with fail
  go_loopw [0, 1, 7, 9, 12] (fun i t lg _ j wr => ∃ (k t' : Nat) (g : Bool), k ≤ l.length ∧ i = .int .u64 ((i0 + k : Nat) : Int) ∧ t = .int .u64 (t' : Int) ∧ lg = .bool g ∧ j = .int .i64 k ∧ followF (i0 + k) t' g (l.drop k) = r0 ∧ Step [] w wr) (fun _ _ _ _ j _ => l.length - (intOf j).toNat)
  case atStart => exact ⟨0, t0, false, Nat.zero_le _, rfl, rfl, rfl, rfl, HR.out, Step.refl _ _⟩
  case round =>
    obtain ⟨k, t, g, hk, rfl, rfl, rfl, rfl, hF, hs⟩ := hrel
    have HF := Lib.hid hF
    have HS := Lib.hid hs
    clear hF hs
    by_cases hkl : k < l.length
    · obtain ⟨b1, off, rfl, hlt, c0, c1, c2, c3⟩ := HE.out.step HS.out (by simp) k hkl
      have hkm : (k : Int) < (l.length : Int) := by omega
      have hd := drop_cons hkl
      rw [hd] at HF
      clear hd
      generalize l.getD k en0 = x at *
      obtain ⟨xi, xt, xc, xa, xn, xk⟩ := x
      simp only at c0 c1 c2 c3
      obtain ⟨I, hI⟩ : ∃ I, i0 + k = I := ⟨_, rfl⟩
      have hI2 : i0 + (k + 1) = I + 1 := by omega
      have hIs : I + 1 < 9223372036854775808 := by omega
      have HF2 := Lib.hid (show r0 = if xi = I + 1 ∧ ¬ xt < t then followF (I + 1) xt (g || decide (900 < xn)) (l.drop (k + 1)) else 2 from by rw [← hI]; exact HF.out.symm)
      rw [hI]
      clear hI HF
      have e1 : IntKind.u64.wrap ((I : Int) + 1) = (I : Int) + 1 := u64_self _ (by omega) (by omega)
      by_cases q1 : xi = I + 1
      · subst q1
        by_cases q2 : xt < t
        · have p2 : decide ((xt : Int) < (t : Int)) = true := by simp; omega
          have hr := Lib.hid (HF2.out.trans (if_neg (by omega)))
          clear HF2
          go_wp2_with fail
          go_ret
          cases hr.out
          exact ⟨rfl, HS.out.alloc _⟩
        · have p2 : decide ((xt : Int) < (t : Int)) = false := by simp; omega
          have hr := Lib.hid (HF2.out.trans (if_pos ⟨rfl, q2⟩))
          clear HF2
          cases g with
          | true =>
            go_wp2_with fail
            go_region
            go_wp2_with fail
            go_roundw
            case rel => exact ⟨k + 1, xt, true, by omega, by rw [hI2]; go_num, rfl, rfl, by go_num, by rw [hI2]; exact hr.out.symm, (HS.out.alloc _).drew⟩
            case measure => simp [intOf]; omega
          | false =>
            by_cases q3 : 900 < xn
            · have p3 : decide ((900 : Int) < (xn : Int)) = true := by simp; omega
              have p4 : decide (900 < xn) = true := by simpa using q3
              rw [p4] at hr
              go_wp2_with fail
              go_region
              go_wp2_with fail
              go_roundw
              case rel => exact ⟨k + 1, xt, true, by omega, by rw [hI2]; go_num, rfl, rfl, by go_num, by rw [hI2]; exact hr.out.symm, (HS.out.alloc _).drew⟩
              case measure => simp [intOf]; omega
            · have p3 : decide ((900 : Int) < (xn : Int)) = false := by simp; omega
              have p4 : decide (900 < xn) = false := by simpa using q3
              rw [p4] at hr
              go_wp2_with fail
              go_region
              go_wp2_with fail
              go_roundw
              case rel => exact ⟨k + 1, xt, false, by omega, by rw [hI2]; go_num, rfl, rfl, by go_num, by rw [hI2]; exact hr.out.symm, (HS.out.alloc _).drew⟩
              case measure => simp [intOf]; omega
      · have p1 : ((xi : Int) == (I : Int) + 1) = false := by simp; omega
        have hr := Lib.hid (HF2.out.trans (if_neg (by omega)))
        clear HF2
        go_wp2_with fail
        go_ret
        cases hr.out
        exact ⟨rfl, HS.out.alloc _⟩
    · have hke : k = l.length := by omega
      have hr : r0 = if g then 15 else 0 := by
        have := HF.out
        rw [hke, List.drop_length] at this
        exact this.symm
      have hr2 := Lib.hid hr
      clear hr HF
      have hkm : ¬ (k : Int) < (l.length : Int) := by omega
      cases g with
      | true =>
        go_wp2_with fail
        go_ret
        cases hr2.out
        exact ⟨rfl, HS.out⟩
      | false =>
        go_wp2_with fail
        go_ret
        cases hr2.out
        exact ⟨rfl, HS.out⟩
end Go.Proofs.Ytjepglbolkbldaa
