/- heap E (string, uint64): swap. -/
import Derived.Test.YtebgojcecgimaaaHpBE
import Derived.Test.YtebgojcecgimaaaMapEnt
import Derived.Deep.RegionHeld3
namespace Go.Proofs.Ytebgojcecgimaaa
set_option linter.unusedVariables false
set_option linter.unusedSimpArgs false
open Go.RowKit
namespace HpE
theorem own_some {w : World} {base e size g n cap : Nat} {xs : List Value} (h : w.ownsRow base e size (.slice (some ⟨g, 0, none⟩) n cap) n xs) (j : Nat) (hj : j < n * size) : ∃ v, w.cell? ⟨g, j, none⟩ = some v := by
  rw [h.cellAt j hj]
  exact ⟨_, List.getElem?_eq_getElem (by rw [h.1]; exact hj)⟩
theorem few_max {n : Nat} (h : n ≤ 200000) : n < maxLen := by
  unfold maxLen
  omega
set_option maxRecDepth 20000 in
set_option maxHeartbeats 2000000 in
theorem swap_any (base hb mb gb cap : Nat) (l : List It) (f : ByteArray → Option Int) (i k : Nat) (w : World) (hi : i < l.length) (hk : k < l.length) (h : HR w base hb (.slice (some ⟨gb, 0, none⟩) l.length cap) mb l f) :
    Calls Try.prog 31 #[.pointer (some ⟨hb, 0, none⟩), .int .i64 (i : Int), .int .i64 (k : Int)] w fun e w' => e = .returned (.tuple #[]) ∧ HR w' base hb (.slice (some ⟨gb, 0, none⟩) l.length cap) mb (Hp.swap l i k) (upd (upd f (Hp.nth l k).1 (some (i : Int))) (Hp.nth l i).1 (some (k : Int))) ∧ Step [gb, mb] w w' := by
  have c0 : w.cell? ⟨hb, 0, none⟩ = some (.slice (some ⟨gb, 0, none⟩) l.length cap) := h.blk.cell 0
  have c1 : w.cell? ⟨hb, 1, none⟩ = some (.map (some mb)) := h.blk.cell 1
  obtain ⟨ci, ri⟩ := h.cell i hi
  obtain ⟨ck, rk⟩ := h.cell k hk
  obtain ⟨⟨ki, vi⟩, hxi⟩ : ∃ x, Hp.nth l i = x := ⟨_, rfl⟩
  obtain ⟨⟨kk, vk⟩, hxk⟩ : ∃ x, Hp.nth l k = x := ⟨_, rfl⟩
  rw [hxi] at ci ri
  rw [hxk] at ck rk
  simp only at ci ri ck rk
  obtain ⟨n, hn⟩ : ∃ n, l.length = n := ⟨_, rfl⟩
  have hfew := h.few
  rw [hn] at hi hk c0 hfew
  have hi2 : (i : Int) < (n : Int) := by omega
  have hk2 : (k : Int) < (n : Int) := by omega
  have hO := h.own
  have fz := fun j => hO.frozenAt j
  have o1 := (hO.stored (i * 2) (.string (kk))).1
  have o2 := (o1.stored (i * 2 + 1) (.int .u64 (vk))).1
  have o3 := (o2.stored (k * 2) (.string (ki))).1
  obtain ⟨x2, e2⟩ := own_some o2 (k * 2) (by omega)
  obtain ⟨x3, e3⟩ := own_some o3 (k * 2 + 1) (by omega)
  have g0 := fz (i * 2)
  have g1 := o1.frozenAt (i * 2 + 1)
  have g2 := o2.frozenAt (k * 2)
  have g3 := o3.frozenAt (k * 2 + 1)
  have hS := (((Step.refl [gb] w).setCell (b := gb) (.inl (by simp)) (i * 2) (.string (kk))).setCell (b := gb) (.inl (by simp)) (i * 2 + 1) (.int .u64 (vk))).setCell (b := gb) (.inl (by simp)) (k * 2) (.string (ki))
  have HO := Lib.hid (And.intro (o3.stored (k * 2 + 1) (.int .u64 (vi))).1 (hS.setCell (b := gb) (.inl (by simp)) (k * 2 + 1) (.int .u64 (vi))))
  clear hO fz o1 o2 o3 hS
  have HD := Lib.hid h
  have HN := Lib.hid hn
  have HXI := Lib.hid hxi
  have HXK := Lib.hid hxk
  clear h hn hxi hxk
  rw [HXI.out, HXK.out]
  dsimp only
  go_enter Try.func31, Try.ntmps31
  go_wp2_with fail
  go_region
  obtain ⟨W0, hW0⟩ : ∃ W0, (((w.setCell ⟨gb, i * 2, none⟩ (.string (kk))).setCell ⟨gb, i * 2 + 1, none⟩ (.int .u64 (vk))).setCell ⟨gb, k * 2, none⟩ (.string (ki))).setCell ⟨gb, k * 2 + 1, none⟩ (.int .u64 (vi)) = W0 := ⟨_, rfl⟩
  rw [hW0] at HO ⊢
  clear hW0 g0 g1 g2 g3 e2 e3 ci ri ck rk
  obtain ⟨hown, hst⟩ := HO.out
  have hsw : ((((flatI l).set (i * 2) (.string (kk))).set (i * 2 + 1) (.int .u64 (vk))).set (k * 2) (.string (ki))).set (k * 2 + 1) (.int .u64 (vi)) = flatI (Hp.swap l i k) := by
    have hxi := HXI.out
    have hxk := HXK.out
    have hn := HN.out
    have e1 := flat_set l i (kk, vk) (by omega)
    have e2 := flat_set (l.set i (kk, vk)) k (ki, vi) (by rw [List.length_set]; omega)
    simp only at e1 e2
    rw [e1, e2]
    unfold Hp.swap
    rw [hxi, hxk]
  rw [hsw] at hown
  obtain ⟨s, hs⟩ : ∃ s, Hp.swap l i k = s := ⟨_, rfl⟩
  have hsl : s.length = n := by rw [← hs, Hp.swap_len]; exact HN.out
  have hgood : ∀ x ∈ s, ((strKey Try.underlying9) : KeyT Try.prog _ _).good x.1 := fun x hx => HD.out.good x ((Hp.swap_perm l i k (by have := HN.out; omega) (by have := HN.out; omega)).mem_iff.1 (by rw [hs]; exact hx))
  have hat := Hp.at_swap HD.out.at' i k (by have := HN.out; omega) (by have := HN.out; omega)
  rw [HXI.out, HXK.out, hs] at hat
  dsimp only at hat
  rw [hs] at hown
  have hgm : mb ≠ gb := fun e => HD.out.ap2 (by subst e; simp [foot, Value.ownBlock])
  have hgh : hb ≠ gb := fun e => HD.out.ap1 (by subst e; simp [foot, Value.ownBlock])
  have hmap := HD.out.map.step hst (by simpa using hgm)
  have hblk := HD.out.blk.step hst (by simpa using hgh)
  obtain ⟨w2, hw2⟩ : ∃ w', W0.drew = w' := ⟨_, rfl⟩
  have hst2 : Step [gb] w w2 := hw2 ▸ hst.drew
  have hown2 : w2.ownsRow base 66 2 (.slice (some ⟨gb, 0, none⟩) l.length cap) l.length (flatI s) := hw2 ▸ hown.drew
  have hmap2 : MapF (strKey Try.underlying9) (intEl .i64) w2 mb l.length f := hw2 ▸ hmap
  have hblk2 : Blk w2 hb #[.slice (some ⟨gb, 0, none⟩) l.length cap, .map (some mb)] 71 := hw2 ▸ hblk
  rw [hw2]
  clear hown hst hmap hblk hw2 hsw
  have hnk : (Hp.nth s k).1 = ki := by rw [← hs, Hp.nth_swap l i k k (by have := HN.out; omega) (by have := HN.out; omega), if_pos rfl, HXI.out]
  have hni : (Hp.nth s i).1 = kk := by
    rw [← hs, Hp.nth_swap l i k i (by have := HN.out; omega) (by have := HN.out; omega)]
    by_cases e : i = k
    · subst e
      rw [if_pos rfl, HXK.out]
    · rw [if_neg e, if_pos rfl, HXK.out]
  have hci := (hown2.cellAt (i * 2) (by have := HN.out; omega)).trans (flat_get s i (by omega)).1
  have hck := (hown2.cellAt (k * 2) (by have := HN.out; omega)).trans (flat_get s k (by omega)).1
  rw [hni] at hci
  rw [hnk] at hck
  have d0 := hblk2.cell 0
  have d1 := hblk2.cell 1
  simp only [List.getElem?_toArray, List.getElem?_cons_zero, List.getElem?_cons_succ] at d0 d1
  rw [HN.out] at d0
  have hfk : f kk = some (k : Int) := by
    have := HD.out.at'.1 k (by have := HN.out; omega)
    rwa [HXK.out] at this
  have hfi : f ki = some (i : Int) := by
    have := HD.out.at'.1 i (by have := HN.out; omega)
    rwa [HXI.out] at this
  have hgk : ((strKey Try.underlying9) : KeyT Try.prog _ _).good kk := by
    have := HD.out.good _ (Hp.nth_mem l k (by have := HN.out; omega))
    rwa [HXK.out] at this
  have hgi : ((strKey Try.underlying9) : KeyT Try.prog _ _).good ki := by
    have := HD.out.good _ (Hp.nth_mem l i (by have := HN.out; omega))
    rwa [HXI.out] at this
  obtain ⟨st1, E1, E2⟩ := hmap2.entry (t := 68) Try.underlying68 (few_max (by have := HN.out; omega)) (0 : Int) (zeroN _) kk hgk (k : Int) hfk
  obtain ⟨w4, r4, map4, s4⟩ := E2 w2.drew rfl (i : Int)
  obtain ⟨v2, hv2⟩ : ∃ v, upd f kk (some (i : Int)) ki = some v := by
    unfold upd
    by_cases e : ki = kk
    · exact ⟨_, if_pos e⟩
    · exact ⟨_, (if_neg e).trans hfi⟩
  obtain ⟨st2, E3, E4⟩ := map4.entry (t := 68) Try.underlying68 (few_max (by have := HN.out; omega)) (0 : Int) (zeroN _) ki hgi v2 hv2
  obtain ⟨w5, r5, map5, s5⟩ := E4 w4 rfl (k : Int)
  have m1 := E1 w2 rfl
  have m1d := E1 w2.drew rfl
  have m2 := E3 w4 rfl
  have hmb : mb ∉ [gb] := by simpa using hgm
  have hfin : HR w5 base hb (.slice (some ⟨gb, 0, none⟩) l.length cap) mb s (upd (upd f kk (some (i : Int))) ki (some (k : Int))) := by
    have hs24 : Step [mb] w2 w5 := ((Step.refl [mb] w2).drew.then s4 (by simp)).then s5 (by simp)
    have hsl2 : s.length = l.length := hsl.trans HN.out.symm
    refine ⟨hblk2.step hs24 (by rw [List.mem_singleton]; exact HD.out.ap3), ?_, ?_, hat, hgood, HD.out.low, HD.out.ap1, HD.out.ap2, HD.out.ap3, by rw [hsl2]; exact HD.out.few⟩
    · rw [hsl2]
      exact owns_step hown2 hs24 (fun j hj hm => by
        simp only [List.mem_singleton] at hm
        subst hm
        exact HD.out.ap2 hj)
    · exact map_shrink map5 hat hgood
  have hstf : Step [gb, mb] w w5 := ((hst2.mono (by simp)).then (Step.refl [mb] w2).drew (by simp)).then ((s4.then s5 (by simp)).mono (G := [mb]) (by simp)) (by simp)
  have HF := Lib.hid (And.intro hfin hstf)
  have HS := Lib.hid hs
  have hk4 : w4.cell? ⟨hb, 0, none⟩ = some (.slice (some ⟨gb, 0, none⟩) n cap) ∧ w4.cell? ⟨hb, 1, none⟩ = some (.map (some mb)) ∧ w4.cell? ⟨gb, i * 2, none⟩ = some (.string (kk)) ∧ w4.cell? ⟨gb, k * 2, none⟩ = some (.string (ki)) :=
    ⟨(s4.cell hblk2.lt (by rw [List.mem_singleton]; exact HD.out.ap3)).trans d0, (s4.cell hblk2.lt (by rw [List.mem_singleton]; exact HD.out.ap3)).trans d1, (s4.cell (owns_live hown2 gb (by simp [foot, Value.ownBlock])) (by rw [List.mem_singleton]; exact fun e => hgm e.symm)).trans hci, (s4.cell (owns_live hown2 gb (by simp [foot, Value.ownBlock])) (by rw [List.mem_singleton]; exact fun e => hgm e.symm)).trans hck⟩
  have hk5 : w5.cell? ⟨hb, 0, none⟩ = some (.slice (some ⟨gb, 0, none⟩) n cap) ∧ w5.cell? ⟨hb, 1, none⟩ = some (.map (some mb)) ∧ w5.cell? ⟨gb, i * 2, none⟩ = some (.string (kk)) ∧ w5.cell? ⟨gb, k * 2, none⟩ = some (.string (ki)) :=
    ⟨(s5.cell (Nat.lt_of_lt_of_le hblk2.lt s4.size) (by rw [List.mem_singleton]; exact HD.out.ap3)).trans hk4.1, (s5.cell (Nat.lt_of_lt_of_le hblk2.lt s4.size) (by rw [List.mem_singleton]; exact HD.out.ap3)).trans hk4.2.1, (s5.cell (Nat.lt_of_lt_of_le (owns_live hown2 gb (by simp [foot, Value.ownBlock])) s4.size) (by rw [List.mem_singleton]; exact fun e => hgm e.symm)).trans hk4.2.2.1, (s5.cell (Nat.lt_of_lt_of_le (owns_live hown2 gb (by simp [foot, Value.ownBlock])) s4.size) (by rw [List.mem_singleton]; exact fun e => hgm e.symm)).trans hk4.2.2.2⟩
  have HK4 := Lib.hid hk4
  have HK5 := Lib.hid hk5
  have HK2 := Lib.hid (show w2.drew.cell? ⟨hb, 0, none⟩ = some (.slice (some ⟨gb, 0, none⟩) n cap) ∧ w2.drew.cell? ⟨hb, 1, none⟩ = some (.map (some mb)) ∧ w2.drew.cell? ⟨gb, i * 2, none⟩ = some (.string (kk)) ∧ w2.drew.cell? ⟨gb, k * 2, none⟩ = some (.string (ki)) from ⟨d0, d1, hci, hck⟩)
  clear hk4 hk5
  clear hfin hstf hmap2 hblk2 hown2 hst2 hnk hni hfk hfi hgk hgi E1 E2 E3 E4 map4 s4 map5 s5 hv2 hs hsl hgood hat HO c0 c1 hgm hgh hmb
  simp only [intEl, goInt, intKey, strKey] at r4 r5 m1 m1d m2
  go_wp2_with fail
  go_region_held3 (fun w' => w'.cell? ⟨hb, 0, none⟩ = some (.slice (some ⟨gb, 0, none⟩) n cap) ∧ w'.cell? ⟨hb, 1, none⟩ = some (.map (some mb)) ∧ w'.cell? ⟨gb, i * 2, none⟩ = some (.string (kk)) ∧ w'.cell? ⟨gb, k * 2, none⟩ = some (.string (ki)))
    (first | exact HK2.out | exact HK4.out | exact HK5.out) (fail)
  go_end0
  rw [HS.out]
  exact ⟨rfl, HF.out⟩
end HpE
end Go.Proofs.Ytebgojcecgimaaa
