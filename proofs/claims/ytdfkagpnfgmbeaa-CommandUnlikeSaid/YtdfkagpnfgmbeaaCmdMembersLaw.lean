/- CommandMembers: the walk of the law. -/
import Derived.Test.YtdfkagpnfgmbeaaCmdR
import Derived.Deep.RegionHeld3
import Derived.Deep.RegionHeld
import Derived.Deep.RegionLaw
import Derived.Deep.QuietTactic
import Derived.BigQuiet
import Derived.Deep.DrawnRows
namespace Go.Proofs.Ytdfkagpnfgmbeaa
set_option linter.unusedVariables false
open Go.RowKit
attribute [local go_sem ↓] Go.wp_at_zero Go.wp_at_succ

theorem Bytes.str {P : Program} {w : World} {a : Option Addr} {l : List UInt8} (h : Bytes w a l) (hn : a = none → l.length = 0) (cap : Nat) (src dst e : TypeId) (hs : P.underlying src = some (.slice e)) (he : P.underlying e = some (.int .u8)) (hd : P.underlying dst = some .string) :
    (convert src dst (.slice a l.length cap)).run P w = .ok (.string (bstr l)) w := by
  cases a with
  | none =>
    have hl : l = [] := List.eq_nil_of_length_eq_zero (hn rfl)
    subst hl
    exact Lib.run_convert_nil_bytes w src dst e cap hs he hd
  | some ad =>
    refine run_convert_bytes_back w src dst e ad cap l hs he hd fun j hj => ?_
    obtain ⟨b, off, ha, _, hc⟩ := h j hj
    cases ha
    rw [add_plain, hc]
    simp [List.getD, hj]


theorem cmembers_good (a : Option Addr) (cap : Nat) (l : List Int) (w : World) (hl : Ints w a l) (hlen : l.length < 1000000) (hg : goodM l = true) :
    Calls Try.prog 10 #[.slice a l.length cap] w fun e w' => (∃ v, e = .returned (.tuple #[v, .int .i64 0]) ∧ w'.ownsRow w.heap.size 5 1 v (rowB l).length ((rowB l).map byteVal)) ∧ Step [] w w' :=
  (cmembers_any a cap l w hl hlen).mono fun e w' h => by rw [if_pos hg] at h; exact h
theorem cmembers_bad (a : Option Addr) (cap : Nat) (l : List Int) (w : World) (hl : Ints w a l) (hlen : l.length < 1000000) (hg : goodM l = false) :
    Calls Try.prog 10 #[.slice a l.length cap] w fun e w' => e = .returned (.tuple #[.slice none 0 0, .int .i64 1]) ∧ Step [] w w' :=
  (cmembers_any a cap l w hl hlen).mono fun e w' h => by rw [if_neg (by rw [hg]; decide)] at h; exact h
theorem row12 : rowB [1, 2] = [2, 1, 2] := by decide
theorem ints12 (w : World) : Ints (w.alloc (.cells #[.int .i64 1, .int .i64 2] 3)) (some ⟨w.heap.size, 0, none⟩) [1, 2] := by
  intro i hi
  refine ⟨w.heap.size, 0, rfl, by simp, ?_⟩
  match i, hi with
  | 0, _ => simp
  | 1, _ => simp
  | n + 2, h => simp at h; omega

set_option maxHeartbeats 1000000 in
theorem lives_any (w : World) : Calls Try.prog 6 #[] w fun e w' => e = .returned (.bool true) ∧ Step [] w w' := by
  have HC := Lib.hid (cmembers_good (some ⟨w.heap.size, 0, none⟩) 2 [1, 2] _ (ints12 w) (by decide) (by decide))
  rw [row12] at HC
  go_enter Try.func6, Try.ntmps6
  go_wp2_with fail
  refine HC.out.mono ?_
  rintro e w1 ⟨⟨v, rfl, hown⟩, hs⟩
  obtain ⟨g, c, rfl, -, -, -, hb, hn, -⟩ := owns_bytes hown
  have cv := hb.str (P := Try.prog) (fun h => (hn h).1) c 23 9 5 Try.underlying23 Try.underlying5 Try.underlying9
  have cv2 : (convert 23 9 (.slice g 3 c)).run Try.prog w1 = .ok (.string ⟨#[2, 1, 2]⟩) w1 := cv
  have HS := Lib.hid (((Step.refl [] w).alloc _).then hs (by simp))
  clear hown hb hn hs HC cv
  go_wp2_with fail
  go_ret
  exact ⟨rfl, HS.out⟩

theorem membersR_bad {b : List UInt8} {e : Int} (h : membersR b = (none, e)) : e ≠ 0 := by
  unfold membersR at h
  split at h
  · next hE =>
    simp only [Prod.mk.injEq] at h
    rw [← h.2]
    exact hE
  · split at h
    · cases h
    · simp only [Prod.mk.injEq] at h
      rw [← h.2]
      decide

/-- rows that are too long: the law's example alone -/
theorem cm_small (a b : Option Addr) (ca cb n m : Nat) (w : World) (h : 60 < n ∨ 60 < m) :
    Calls Try.prog 3 #[.slice a n ca, .slice b m cb] w fun e w' => e = .returned (.bool true) ∧ Step [] w w' := by
  obtain ⟨p1, p2, hp⟩ : ∃ p1 p2 : Bool, decide ((60 : Int) < (n : Int)) = p1 ∧ decide ((60 : Int) < (m : Int)) = p2 := ⟨_, _, rfl, rfl⟩
  obtain ⟨h1, h2⟩ := hp
  have hor : p1 = true ∨ p2 = true := by
    rw [← h1, ← h2]
    simp
    omega
  have HO := Lib.hid hor
  clear hor h
  go_enter Try.func3, Try.ntmps3
  go_wp2_with fail
  refine (lives_any _).mono ?_
  rintro e w1 ⟨rfl, hs⟩
  have HS := Lib.hid hs
  clear hs
  cases p1 with
  | true =>
    go_wp2_with fail
    refine (lives_any w1).mono ?_
    rintro e w2 ⟨rfl, hs⟩
    have HT := Lib.hid (HS.out.then hs (by simp))
    clear hs
    go_wp2_with fail
    go_ret
    exact ⟨rfl, HT.out⟩
  | false =>
    cases p2 with
    | true =>
      go_wp2_with fail
      refine (lives_any w1).mono ?_
      rintro e w2 ⟨rfl, hs⟩
      have HT := Lib.hid (HS.out.then hs (by simp))
      clear hs
      go_wp2_with fail
      go_ret
      exact ⟨rfl, HT.out⟩
    | false => rcases HO.out with h | h <;> cases h

set_option maxRecDepth 20000 in
set_option maxHeartbeats 4000000 in
theorem cm_main (a b : Option Addr) (ca cb : Nat) (l : List Int) (r : List UInt8) (w : World) (hl : Ints w a l) (hr : Bytes w b r) (hn : b = none → r.length = 0 ∧ cb = 0) (l1 : l.length ≤ 60) (l2 : r.length ≤ 60) :
    Calls Try.prog 3 #[.slice a l.length ca, .slice b r.length cb] w fun e w' => e = .returned (.bool true) ∧ Step [] w w' := by
  have p1 : decide ((60 : Int) < (l.length : Int)) = false := by simp; omega
  have p2 : decide ((60 : Int) < (r.length : Int)) = false := by simp; omega
  have HL := Lib.hid hl
  have HB := Lib.hid hr
  have HN := Lib.hid hn
  clear hl hr hn
  go_enter Try.func3, Try.ntmps3
  go_wp2_with fail
  refine (lives_any _).mono ?_
  rintro e w1 ⟨rfl, hs⟩
  have HS1 := Lib.hid hs
  clear hs
  have HC := Lib.hid (membersOf_any b cb r w1 HN.out (HB.out.step HS1.out (by simp)) (by omega))
  obtain ⟨⟨R1, R2⟩, hR⟩ : ∃ p, membersR r = p := ⟨_, rfl⟩
  rw [hR] at HC
  rcases R1 with _ | x
  case' none =>
    have hbad := membersR_bad hR
    have pe : (R2 == 0) = false := by simpa using hbad
    have pe2 : (R2 != 0) = true := by simpa using hbad
    clear hR
    go_wp2_with fail
    refine HC.out.mono ?_
    rintro e w2 ⟨rfl, hs⟩
    have HS2 := Lib.hid (HS1.out.then hs (by simp))
    clear hs HC HS1
    go_wp2_with fail
    go_quiet (fail)
    have HSX := Lib.hid (HS2.out.drewN nq)
    clear HS2
    generalize w2.drewN nq = W at *
  case' some =>
    obtain ⟨rfl, hg, hrow⟩ := membersR_ok hR
    clear hR
    go_wp2_with fail
    refine HC.out.mono ?_
    rintro e w2 ⟨⟨ax, rfl, hix⟩, hs⟩
    have hS2 := HS1.out.then hs (by simp)
    have HS2 := Lib.hid hS2
    have HIx := Lib.hid hix
    have HRt := Lib.hid (fun W hW => refright_any ax x.length x W (hix.step (hW : Step [] w2 W) (by simp)) (by have := good_len hg; omega))
    have HRm := Lib.hid (fun W hW => refMembers_any ax x.length x W (hix.step (hW : Step [] w2 W) (by simp)) (good_bounds hg) (by have := good_len hg; omega))
    rw [hg] at HRt
    rw [hrow] at HRm
    have HCv := Lib.hid (fun W (hW : Step [] w2 W) => (HB.out.step (hS2.then hW (by simp)) (by simp)).str (P := Try.prog) (fun h => (HN.out h).1) cb 23 9 5 Try.underlying23 Try.underlying5 Try.underlying9)
    have HG := Lib.hid hg
    have HRow := Lib.hid hrow
    clear hs hS2 hix HC HS1 hg hrow
    go_wp2_with fail
    first | (go_region_held (fun w' => (convert 23 9 (.slice b r.length cb)).run Try.prog w' = .ok (.string (bstr r)) w') (first | exact HCv.out _ (Step.refl [] w2).drew | exact HCv.out _ (Step.refl [] w2) | exact HCv.out _ HS5.out) (first
            | (go_at_call 8; refine (HRt.out _ (Step.refl [] w2).drew).mono ?_; rintro e5 w5 ⟨rfl, rfl⟩)
            | (go_at_call 9; refine (HRm.out _ (Step.refl [] w2).drew).mono ?_; rintro e5 w5 ⟨rfl, hst⟩
               have hst5 : Step [] w2 w5 := (Step.refl [] w2).drew.then hst (by simp)
               have HS5 := Lib.hid hst5
               clear hst hst5))) | fail
    have HSX := Lib.hid (HS2.out.then HS5.out (by simp))
    clear HS2 HS5
    generalize w5 = W at *
  all_goals
    have HLW := Lib.hid (HL.out.step HSX.out (by simp))
    have HRl := Lib.hid (fun W' hW => refright_any a ca l W' (HLW.out.step (hW : Step [] W W') (by simp)) (by omega))
    obtain ⟨G, hG⟩ : ∃ G, goodM l = G := ⟨_, rfl⟩
    rw [hG] at HRl
    cases G with
    | false =>
      have HM := Lib.hid (cmembers_bad a ca l W HLW.out (by omega) hG)
      go_wp2_with fail
      refine HM.out.mono ?_
      rintro e w6 ⟨rfl, hs⟩
      have HC6 := Lib.hid (HRl.out w6 hs)
      have HS6 := Lib.hid (HSX.out.then hs (by simp))
      clear hs HM
      go_wp2_with fail
      refine HC6.out.mono ?_
      rintro e w7 ⟨rfl, rfl⟩
      go_wp2_with fail
      go_ret
      exact ⟨rfl, HS6.out⟩
    | true =>
      have HM := Lib.hid (cmembers_good a ca l W HLW.out (by omega) hG)
      go_wp2_with fail
      refine HM.out.mono ?_
      rintro e w6 ⟨⟨v6, rfl, hown⟩, hs⟩
      obtain ⟨g6, c6, rfl, -, -, -, hb6, hn6, -⟩ := owns_bytes hown
      have HC6 := Lib.hid (HRl.out w6 hs)
      have HS6 := Lib.hid (HSX.out.then hs (by simp))
      have HB6 := Lib.hid hb6
      have HN6 := Lib.hid hn6
      have hrb : (rowB l).length ≤ 1000 := by
        have h1 := numB_len l.length
        have h2 := eachB_len l
        unfold rowB
        rw [List.length_append]
        omega
      have hM := membersOf_any g6 c6 (rowB l) w6 hn6 hb6 (by omega)
      rw [membersR_row hG] at hM
      have HMo := Lib.hid hM
      clear hs HM hown hb6 hn6 hM
      go_wp2_with fail
      refine HC6.out.mono ?_
      rintro e w7 ⟨rfl, rfl⟩
      go_wp2_with fail
      refine HMo.out.mono ?_
      rintro e w8 ⟨⟨ay, rfl, hiy⟩, hs⟩
      have HS68 := Lib.hid hs
      have HS8 := Lib.hid (HS6.out.then hs (by simp))
      have HIy := Lib.hid hiy
      have HRm2 := Lib.hid (fun W' hW => refMembers_any a ca l W' ((HL.out.step HS8.out (by simp)).step (hW : Step [] w8 W') (by simp)) (good_bounds hG) (by omega))
      have HCv2 := Lib.hid (fun W' (hW : Step [] w8 W') => (HB6.out.step (HS68.out.then hW (by simp)) (by simp)).str (P := Try.prog) (fun h => (HN6.out h).1) c6 23 9 5 Try.underlying23 Try.underlying5 Try.underlying9)
      clear hs hiy
      have HGl := Lib.hid hG
      clear hG
      go_wp2_with fail
      first | (go_region_held (fun w' => (convert 23 9 (.slice g6 (rowB l).length c6)).run Try.prog w' = .ok (.string (bstr (rowB l))) w') (first | exact HCv2.out _ (Step.refl [] w8).drew | exact HCv2.out _ (Step.refl [] w8) | exact HCv2.out _ HS9.out) (first
          | (go_at_call 9; refine (HRm2.out _ (Step.refl [] w8).drew).mono ?_; rintro e9 w9 ⟨rfl, hst⟩
             have hst9 : Step [] w8 w9 := (Step.refl [] w8).drew.then hst (by simp)
             have HS9 := Lib.hid hst9
             clear hst hst9))) | fail
      have HS9w := Lib.hid (HS8.out.then HS9.out (by simp))
      have HIy9 := Lib.hid (HIy.out.step HS9.out (by simp))
      clear HS8 HIy HRm2 HCv2 HMo HC6 HRl HLW HSX
      go_wp2_with fail
      go_loopw [95] (fun j wr => ∃ k : Nat, k ≤ l.length ∧ j = .int .i64 k ∧ Step [] w9 wr) (fun j _ => l.length - (intOf j).toNat)
      case atStart => exact ⟨0, Nat.zero_le _, rfl, Step.refl _ _⟩
      case round =>
        obtain ⟨k, hk, rfl, hs⟩ := hrel
        have HS := Lib.hid hs
        clear hs
        by_cases hkl : k < l.length
        · obtain ⟨b1, off1, rfl, _, c1⟩ := (HIy9.out.step HS.out (by simp)) k hkl
          obtain ⟨b2, off2, rfl, _, c2⟩ := (HL.out.step (HS9w.out.then HS.out (by simp)) (by simp)) k hkl
          have hkm : (k : Int) < (l.length : Int) := by omega
          have k0 : (0 : Int) ≤ (k : Int) := by omega
          generalize l.getD k 0 = y at *
          go_wp2_with fail
          go_region_held3 (fun w' => w'.cell? ⟨b1, off1 + k, none⟩ = some (.int .i64 y) ∧ w'.cell? ⟨b2, off2 + k, none⟩ = some (.int .i64 y)) (go_keep) (fail)
          go_wp2_with fail
          go_roundw
          case rel => exact ⟨k + 1, by omega, by go_num, HS.out.drew⟩
          case measure => simp [intOf]; omega
        · have hke : k = l.length := by omega
          subst hke
          go_wp2_with fail
          go_ret
          exact ⟨rfl, HS9w.out.then HS.out (by simp)⟩

theorem commandMembers_any (a b : Option Addr) (ca cb : Nat) (l : List Int) (r : List UInt8) (w : World) (hl : Ints w a l) (hr : Bytes w b r) (hn : b = none → r.length = 0 ∧ cb = 0) :
    Calls Try.prog 3 #[.slice a l.length ca, .slice b r.length cb] w fun e w' => e = .returned (.bool true) ∧ Below w.heap.size w w' := by
  refine Calls.mono (R := fun e w' => e = .returned (.bool true) ∧ Step [] w w') ?_ (fun e w' h => ⟨h.1, h.2.below'⟩)
  by_cases h : 60 < l.length ∨ 60 < r.length
  · exact cm_small a b ca cb _ _ w h
  · exact cm_main a b ca cb l r w hl hr hn (by omega) (by omega)
end Go.Proofs.Ytdfkagpnfgmbeaa
