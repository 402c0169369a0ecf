/- frame: the walk of Bytes; slices.Equal of bytes. -/
import Derived.Test.YtkogchmnpffiaaaFrameA
namespace Go.Proofs.Ytkogchmnpffiaaa
set_option linter.unusedVariables false
open Go.RowKit

set_option maxHeartbeats 1000000 in
theorem bytes_any (s : Nat) (k : UInt8) (a : Option Addr) (cap : Nat) (d : List UInt8) (w : World) (hs : s < 4294967296) (hn : a = none → d.length = 0 ∧ cap = 0) (hB : Bytes w a d) (hd : d.length ≤ 1024) :
    Calls Try.prog 7 #[.int .u32 (s : Int), .agg #[.int .u8 (k.toNat : Int), .slice a d.length cap]] w fun e w' => ∃ v, e = .returned (.tuple #[v, .int .u32 ((moreN s (headB k d) : Nat) : Int), .int .i64 0]) ∧ w'.ownsRow w.heap.size 5 1 v (frameB s k d).length ((frameB s k d).map byteVal) ∧ Step [] w w' := by
  obtain ⟨i0, hi, hz0, hz1, hz2⟩ := info_parts Try.infoB
  have hlong : ¬ (1024 : Int) < (d.length : Int) := by omega
  have HC := Lib.hid (head_any k a cap d (w.alloc (.cells #[.int .u8 (k.toNat : Int), .slice a d.length cap] 25)) hn (hB.step ((Step.refl [] w).alloc _) (by simp)) (by omega))
  have hln := numB_len d.length
  have hhl := headB_len k d
  clear hn hB
  go_enter Try.func7, Try.ntmps7
  go_wp2_with fail
  refine HC.out.mono ?_
  rintro e w1 ⟨v, rfl, hown, hst⟩
  have HS1 := Lib.hid (((Step.refl [] w).alloc _).then hst (by simp))
  obtain ⟨a1, cap1, rfl, -, hm1, hc1, hb1, hn1, -⟩ := owns_bytes hown
  have hown2 := owns_low (base' := w.heap.size) hown (by rw [World.size_alloc]; omega)
  have HO := Lib.hid hown2
  have HM := Lib.hid (more_any s a1 (headB k d).length cap1 (headB k d) w1 hs rfl hm1 hb1)
  clear hown hown2 hst hb1 hn1 HC
  obtain ⟨t, ht⟩ : ∃ t, moreN s (headB k d) = t := ⟨_, rfl⟩
  have htl := moreN_lt s (headB k d)
  rw [ht] at HM htl
  obtain ⟨H, hH⟩ : ∃ H, headB k d = H := ⟨_, rfl⟩
  rw [hH] at HO HM hhl hm1 ⊢
  have HT := Lib.hid ht
  have HHd := Lib.hid hH
  have hHl : H.length ≤ 2000 := by omega
  clear ht hH hhl
  have hsz1 := HS1.out.size
  have HF := Lib.hid (four_any t w1 (by omega))
  go_wp2_with fail
  refine HM.out.mono ?_
  rintro e w2 ⟨rfl, rfl⟩
  go_wp2_with fail
  refine HF.out.mono ?_
  rintro e w3 ⟨rfl, rfl⟩
  go_wp2_with (at_builtin; refine wpList_append_sep rfl (.tmp 17) (.tmp 19) 23 rfl w.heap.size 5 i0 (.int .u8 0) 1 1 Try.underlying23 hi hz0 hz1 hz2 rfl (by decide) _ H.length (H.map byteVal) rfl (owns_step HO.out ((Step.refl [] w1).alloc _) (by simp)) (some ⟨w1.heap.size, 0, none⟩) 4 4 ((leN 4 t).map byteVal) rfl (by intro h; cases h) rfl (four_bytes w1 t).news (byteVals_cell _) (by unfold maxLen; omega) (by omega) (by simp; omega) ?_)
  intro v2 w4 hown4 hg4 hf4
  have HO4 := Lib.hid hown4
  have HS4 := Lib.hid ((HS1.out.alloc (.cells (fourCells t) 5)).grown hg4 (fun r hr => .inr (owns_base HO.out r (mem_foot.2 hr))))
  clear hown4 hg4 hf4
  go_wp2_with fail
  go_ret3
  have h := HO4.out
  refine ⟨v2, by rw [HT.out]; rfl, ?_, HS4.out⟩
  unfold frameB
  rw [HT.out, HHd.out, List.map_append, List.length_append, leN4_len]
  exact h

theorem bytes_long (s : Nat) (k : Int) (a : Option Addr) (n cap : Nat) (w : World) (hd : 1024 < n) :
    Calls Try.prog 7 #[.int .u32 (s : Int), .agg #[.int .u8 k, .slice a n cap]] w fun e w' => e = .returned (.tuple #[.slice none 0 0, .int .u32 0, .int .i64 15]) ∧ Step [] w w' := by
  have hlong : (1024 : Int) < (n : Int) := by omega
  go_enter Try.func7, Try.ntmps7
  go_wp2_with fail
  go_ret3
  exact ⟨rfl, (Step.refl _ _).alloc _⟩

set_option maxHeartbeats 1000000 in
theorem equal_any (a b : Option Addr) (ca cb : Nat) (l r : List UInt8) (w : World) (hl : Bytes w a l) (hr : Bytes w b r) (hlen : l.length < 1000000) :
    Calls Try.prog 23 #[.slice a l.length ca, .slice b r.length cb] w fun e w' => e = .returned (.bool (decide (l = r))) ∧ Step [] w w' := by
  by_cases hlr : l.length = r.length
  · have HL := Lib.hid hl
    have HR := Lib.hid hr
    have HLR := Lib.hid hlr
    clear hl hr
    obtain ⟨n, hn⟩ : ∃ n, l.length = n := ⟨_, rfl⟩
    have hn2 : r.length = n := by omega
    rw [hn, hn2]
    rw [hn] at hlen
    clear hlr
    go_enter Try.func23, Try.ntmps23
    go_wp2_with fail
    go_loopw [13] (fun j wr => ∃ k : Nat, k ≤ n ∧ j = .int .i64 k ∧ l.take k = r.take k ∧ Step [] w wr) (fun j _ => n - (intOf j).toNat)
    case atStart => exact ⟨0, Nat.zero_le _, rfl, rfl, Step.refl _ _⟩
    case round =>
      obtain ⟨k, hk, rfl, ht, hs⟩ := hrel
      have HT := Lib.hid ht
      have HS := Lib.hid hs
      clear ht hs
      by_cases hkl : k < n
      · obtain ⟨b1, off1, rfl, _, c1⟩ := (HL.out.step HS.out (by simp)) k (by omega)
        obtain ⟨b2, off2, rfl, _, c2⟩ := (HR.out.step HS.out (by simp)) k (by omega)
        have hkm : (k : Int) < (n : Int) := by omega
        have k0 : (0 : Int) ≤ (k : Int) := by omega
        have hta : l.take (k + 1) = l.take k ++ [l.getD k 0] := by
          rw [List.take_succ_eq_append_getElem (by omega)]; simp [List.getD, show k < l.length by omega]
        have htb : r.take (k + 1) = r.take k ++ [r.getD k 0] := by
          rw [List.take_succ_eq_append_getElem (by omega)]; simp [List.getD, show k < r.length by omega]
        have hne : l.getD k 0 ≠ r.getD k 0 → l ≠ r := fun h h2 => h (by rw [h2])
        have HTA := Lib.hid hta
        have HTB := Lib.hid htb
        have HNE := Lib.hid hne
        clear hta htb hne
        generalize l.getD k 0 = x at *
        generalize r.getD k 0 = y at *
        by_cases hxy : x = y
        · subst hxy
          go_wp2_with fail
          go_region_held3 (fun w' => w'.cell? ⟨b1, off1 + k, none⟩ = some (.int .u8 (x.toNat : Int)) ∧ w'.cell? ⟨b2, off2 + k, none⟩ = some (.int .u8 (x.toNat : Int))) (go_keep) (fail)
          go_wp2_with fail
          go_roundw
          case rel => exact ⟨k + 1, by omega, by go_num, by rw [HTA.out, HTB.out, HT.out], HS.out.drew⟩
          case measure => simp [intOf]; omega
        · have hxn : ((x.toNat : Int) == (y.toNat : Int)) = false := by
            simp
            intro h
            exact hxy (UInt8.toNat_inj.1 (by omega))
          go_wp2_with fail
          go_region_held3 (fun w' => w'.cell? ⟨b1, off1 + k, none⟩ = some (.int .u8 (x.toNat : Int)) ∧ w'.cell? ⟨b2, off2 + k, none⟩ = some (.int .u8 (y.toNat : Int))) (go_keep) (fail)
          go_wp2_with fail
          go_ret
          exact ⟨by rw [decide_eq_false (HNE.out hxy)]; rfl, HS.out.drew⟩
      · have hke : k = n := by omega
        have heq : l = r := by
          have h := HT.out
          rw [List.take_of_length_le (by omega), List.take_of_length_le (by omega)] at h
          exact h
        have HEQ := Lib.hid heq
        have hkm : ¬ (k : Int) < (n : Int) := by omega
        clear heq
        go_wp2_with fail
        go_ret
        exact ⟨by rw [decide_eq_true HEQ.out]; rfl, HS.out⟩
  · have hne : l ≠ r := fun h => hlr (by rw [h])
    have hx : ((l.length : Int) == (r.length : Int)) = false := by simp; omega
    have HNE := Lib.hid hne
    clear hne hl hr
    generalize l.length = n at *
    generalize r.length = m at *
    go_enter Try.func23, Try.ntmps23
    go_wp2_with fail
    go_ret
    exact ⟨by rw [decide_eq_false HNE.out]; rfl, Step.refl _ _⟩
end Go.Proofs.Ytkogchmnpffiaaa
