/- CrcSums: the walk of the law. -/
import Derived.Test.YtgmpbhhlpnkcpaaCrcRef
namespace Go.Proofs.Ytgmpbhhlpnkcpaa
set_option linter.unusedVariables false
open Go.RowKit

set_option maxHeartbeats 400000 in
theorem crcSums_long (a b : Option Addr) (la ca lb cb : Nat) (w : World) (h : 300 < la ∨ (la ≤ 300 ∧ 300 < lb)) (hla : la ≤ maxLen) (hlb : lb ≤ maxLen) :
    Calls Try.prog 3 #[.slice a la ca, .slice b lb cb] w fun e w' => e = .returned (.bool true) ∧ Below w.heap.size w w' := by
  unfold maxLen at hla hlb
  rcases h with h | ⟨h, h'⟩
  all_goals
    go_enter Try.func3, Try.ntmps3
    go_wp2_with fail
    refine (lives_any _).mono ?_
    rintro e w1 ⟨rfl, hb1⟩
    have h1 := hb1.size
    go_wp2_with fail
    refine (lives_any _).mono ?_
    rintro e w2 ⟨rfl, hb2⟩
    go_wp2_with fail
    go_ret
    exact ⟨rfl, hb1.trans (hb2.mono h1)⟩

set_option maxHeartbeats 1000000 in
theorem crcSums_walk (a b : Option Addr) (la ca lb cb : Nat) (l m : List UInt8) (w : World) (hla : l.length = la) (hlb : m.length = lb) (h300 : la ≤ 300) (h301 : lb ≤ 300)
    (hA : Bytes w a l) (hB : Bytes w b m) (na : a = none → la = 0 ∧ ca = 0) (nb : b = none → lb = 0 ∧ cb = 0) :
    Calls Try.prog 3 #[.slice a la ca, .slice b lb cb] w fun e w' => e = .returned (.bool true) ∧ Below w.heap.size w w' := by
  obtain ⟨i0, hi, hz0, hz1, hz2⟩ := info_parts Try.infoB
  have HLA := Lib.hid hla
  have HLB := Lib.hid hlb
  have HA := Lib.hid hA
  have HB := Lib.hid hB
  have NA := Lib.hid na
  have NB := Lib.hid nb
  clear hla hlb hA hB na nb
  go_enter Try.func3, Try.ntmps3
  go_wp2_with fail
  refine (lives_any _).mono ?_
  rintro e w1 ⟨rfl, hb1⟩
  have h1 := hb1.size
  have HA1 := Lib.hid (HA.out.below hb1)
  have HB1 := Lib.hid (HB.out.below hb1)
  go_wp2_with (at_builtin; refine wpList_append_own_any rfl (.tmp 19) (.tmp 20) 22 rfl w1.heap.size 5 i0 (.int .u8 0) 1 1 Try.underlying22 hi hz0 hz1 hz2 rfl (by decide) _ 0 [] rfl (World.ownsRow_made _ _ 0 (Nat.le_refl _) (Nat.zero_le _) rfl) a la ca (l.map byteVal) rfl NA.out (by simp [HLA.out]) ((HA1.out.below ((Below.refl _ _).alloc (Nat.le_refl _) _)).news) (byteVals_cell _) (by unfold maxLen; omega) (by omega) (by simp) ?_)
  intro v2 w2 hown2 hg2
  have hb2 : Below w1.heap.size w1 w2 := ((Below.refl _ _).alloc (Nat.le_refl _) _).grown hg2 (by simp) (by intro k hk; cases hk; exact Nat.le_refl _)
  have h2 := hb2.size
  have HA2 := Lib.hid (HA1.out.below hb2)
  have HB2 := Lib.hid (HB1.out.below hb2)
  clear hg2 HA1 HB1
  have HO2 := Lib.hid hown2
  clear hown2
  go_wp2_with (at_builtin; refine wpList_append_own_any rfl (.tmp 21) (.tmp 22) 22 rfl w1.heap.size 5 i0 (.int .u8 0) 1 1 Try.underlying22 hi hz0 hz1 hz2 rfl (by decide) _ la (l.map byteVal) rfl HO2.out b lb cb (m.map byteVal) rfl NB.out (by simp [HLB.out]) HB2.out.news (byteVals_cell _) (by unfold maxLen; omega) (by omega) (by omega) ?_)
  intro v3 w3 hown3 hg3
  have hb3 : Below w1.heap.size w1 w3 := hb2.grown hg3 h2 (fun k hk => (HO2.out.lt k hk).1)
  have h3 := hb3.size
  rw [← List.map_append] at hown3
  obtain ⟨a3, c3, rfl, hl3, hm3, _, hB3, _, _⟩ := owns_bytes hown3
  have HA3 := Lib.hid (HA.out.below (hb1.trans (hb3.mono h1)))
  have HB3 := Lib.hid (HB.out.below (hb1.trans (hb3.mono h1)))
  have HC3 := Lib.hid hB3
  have HL3 := Lib.hid hl3
  clear hown3 hg3 HO2 HA2 HB2 hB3 hl3 hb2 h2
  go_wp2_with fail
  refine (sum_any a la ca l _ HLA.out (by unfold maxLen; omega) HA3.out).mono ?_
  rintro e w4 ⟨rfl, rfl⟩
  go_wp2_with fail
  refine (ref_any a la ca l _ HLA.out (by unfold maxLen; omega) HA3.out).mono ?_
  rintro e w4 ⟨rfl, rfl⟩
  go_wp2_with fail
  refine (sum_any a la ca l _ HLA.out (by unfold maxLen; omega) HA3.out).mono ?_
  rintro e w4 ⟨rfl, rfl⟩
  go_wp2_with fail
  refine (more_any _ b lb cb m _ (moreN_lt _ _) HLB.out (by unfold maxLen; omega) HB3.out).mono ?_
  rw [moreN_app 0 (by decide)]
  rintro e w4 ⟨rfl, rfl⟩
  go_wp2_with fail
  refine (ref_any a3 (la + lb) c3 (l ++ m) _ HL3.out hm3 HC3.out).mono ?_
  rintro e w4 ⟨rfl, rfl⟩
  go_wp2_with fail
  refine (sum_any none 0 0 [] _ rfl (Nat.zero_le _) (Bytes.nil _ _)).mono ?_
  rw [moreN_nil 0 (by decide)]
  rintro e w4 ⟨rfl, rfl⟩
  go_wp2_with fail
  go_ret
  exact ⟨rfl, hb1.trans (hb3.mono h1)⟩
end Go.Proofs.Ytgmpbhhlpnkcpaa
