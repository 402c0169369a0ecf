/- frame: the law's example. -/
import Derived.Test.YtkogchmnpffiaaaFrameD
import Derived.Laws.OwnMore
import Derived.Lib.SlBytesConst
namespace Go.Proofs.Ytkogchmnpffiaaa
set_option linter.unusedVariables false
open Go.RowKit

theorem one_byte (w : World) (b : UInt8) (T : TypeId) (fr : Nat × Nat) : Bytes (w.alloc (.cells #[.int .u8 (b.toNat : Int)] T fr)) (some ⟨w.heap.size, 0, none⟩) [b] := by
  intro i hi
  refine ⟨w.heap.size, 0, rfl, by simp, ?_⟩
  match i, hi with
  | 0, _ => exact World.cell?_alloc_mark w _ T fr 0
  | n + 1, h => simp at h

def exS : Nat := moreN 7 (headB 1 [97])
def exAll : List UInt8 := frameB 7 1 [97] ++ frameB exS 2 [98]
theorem ex_good : (goodR 7 (exAll.set 11 99)).1 = 8 := by decide +kernel
theorem ex_len1 : (frameB 7 1 [97]).length = 8 := by decide +kernel
theorem ex_len2 : (frameB exS 2 [98]).length = 8 := by decide +kernel
theorem ex_len : exAll.length = 16 := by decide +kernel
theorem ex_at : exAll[11]? = some 98 := by decide +kernel

set_option maxHeartbeats 2000000 in
theorem lives_any (w : World) : Calls Try.prog 6 #[] w fun e w' => e = .returned (.bool true) ∧ Step [] w w' := by
  obtain ⟨i0, hi, hz0, hz1, hz2⟩ := info_parts Try.infoB
  have kc := fun (W : World) (C : Array Value) => Lib.run_convert_bytes_const (P := Try.prog) W 23 5 C 1 1 Try.underlying23 Try.underlying5
  have HC := Lib.hid (bytes_any 7 1 (some ⟨w.heap.size, 0, none⟩) 1 [97] (w.alloc (.cells #[.int .u8 97] 5 (1, 2))) (by decide) (by intro h; cases h) (one_byte w 97 _ _) (by decide))
  rw [ex_len1] at HC
  go_enter Try.func6, Try.ntmps6
  go_wp2_with fail
  refine HC.out.mono ?_
  rintro e w1 ⟨v1, rfl, hown1, hs1⟩
  obtain ⟨g1, c1, rfl, -, hm1, hc1, hb1, hn1, hk1⟩ := owns_bytes hown1
  have hS1 : Step [] w w1 := ((Step.refl [] w).alloc _).then hs1 (by simp)
  have HO1 := Lib.hid (owns_low (base' := w.heap.size) hown1 (by rw [World.size_alloc]; omega))
  have HS1 := Lib.hid hS1
  have HC2 := Lib.hid (bytes_any exS 2 (some ⟨w1.heap.size, 0, none⟩) 1 [98] (w1.alloc (.cells #[.int .u8 98] 5 (1, 2))) (moreN_lt _ _) (by intro h; cases h) (one_byte w1 98 _ _) (by decide))
  rw [ex_len2] at HC2
  clear hown1 hs1 hb1 hn1 hS1 HC hm1 hc1 hk1
  have hsE : moreN 7 (headB 1 [97]) = exS := rfl
  rw [hsE]
  clear hsE
  obtain ⟨S, hS⟩ : ∃ S, exS = S := ⟨_, rfl⟩
  have HSe := Lib.hid hS
  obtain ⟨t2, ht2⟩ : ∃ t, moreN exS (headB 2 [98]) = t := ⟨_, rfl⟩
  rw [ht2] at HC2
  clear ht2
  rw [hS] at HC2 ⊢
  clear hS
  go_wp2_with fail
  refine HC2.out.mono ?_
  rintro e w2 ⟨v2, rfl, hown2, hs2⟩
  obtain ⟨g2, c2, rfl, -, hm2, hc2, hb2, hn2, hk2⟩ := owns_bytes hown2
  have hS2 : Step [] w1 w2 := ((Step.refl [] w1).alloc _).then hs2 (by simp)
  have HO2 := Lib.hid (owns_step HO1.out hS2 (by simp))
  have HS2 := Lib.hid (HS1.out.then hS2 (by simp))
  have HB2 := Lib.hid hb2
  have HN2 := Lib.hid hn2
  have hl2 : (frameB S 2 [98]).length = 8 := by rw [← HSe.out]; exact ex_len2
  have HL2 := Lib.hid hl2
  have hsz2 := HS2.out.size
  clear hown2 hs2 hb2 hn2 hS2 HC2 HO1 HS1 hm2 hc2 hk2 hl2
  go_wp2_with (at_builtin; refine wpList_append_sep rfl (.tmp 27) (.tmp 28) 23 rfl w.heap.size 5 i0 (.int .u8 0) 1 1 Try.underlying23 hi hz0 hz1 hz2 rfl (by decide) _ 8 _ rfl HO2.out g2 8 c2 ((frameB S 2 [98]).map byteVal) rfl HN2.out (by rw [List.length_map, HL2.out]) HB2.out.news (byteVals_cell _) (by decide) (by decide) hsz2 ?_)
  intro v3 w3 hown3 hg3 hf3
  have HS3 := Lib.hid (HS2.out.grown hg3 (fun r hr => .inr (owns_base HO2.out r (mem_foot.2 hr))))
  rw [← List.map_append, show frameB 7 1 [97] ++ frameB S 2 [98] = exAll from by rw [← HSe.out]; rfl] at hown3
  obtain ⟨g, c3, rfl, hgb⟩ := owns_form hown3 (by decide)
  have k11 := hown3.cellAt 11 (by decide)
  have f11 := hown3.frozenAt 11
  have k12 : w3.cell? ⟨g, 11, none⟩ = some (.int .u8 98) := by
    rw [k11, List.getElem?_map, ex_at]
    rfl
  have hst := (hown3.stored 11 (.int .u8 99)).1
  have hmap : ((exAll.map byteVal).set 11 (.int .u8 99)) = (exAll.set 11 99).map byteVal := by
    rw [List.map_set]
    rfl
  rw [hmap] at hst
  obtain ⟨a4, c4, hv4, hl4, hsl, -, -⟩ := owns_slb hst
  cases hv4
  have hlen : (exAll.set 11 99).length = 16 := by rw [List.length_set]; exact ex_len
  have HG := Lib.hid (good_any 7 _ c3 (exAll.set 11 99) _ (by decide) hsl (by rw [hlen]; decide))
  rw [hlen, ex_good] at HG
  obtain ⟨r2, hr2⟩ : ∃ r, (goodR 7 (exAll.set 11 99)).2 = r := ⟨_, rfl⟩
  rw [hr2] at HG
  have HS4 := Lib.hid (HS3.out.setCell (b := g) (.inr hgb.1) 11 (.int .u8 99))
  clear hown3 hg3 hf3 k11 hst hmap hsl hl4 hlen hr2 HS3 hgb HO2 HS2 HB2 HN2 HL2
  go_wp2_with fail
  refine HG.out.mono ?_
  rintro e w5 ⟨rfl, hs5⟩
  have HS5 := Lib.hid (HS4.out.then hs5 (by simp))
  clear hs5 HG HS4
  go_wp2_with fail
  go_ret
  exact ⟨rfl, HS5.out⟩
end Go.Proofs.Ytkogchmnpffiaaa
