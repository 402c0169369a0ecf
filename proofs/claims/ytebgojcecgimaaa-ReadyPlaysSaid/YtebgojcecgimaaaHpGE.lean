/- heap E (string, uint64): Put. -/
import Derived.Test.YtebgojcecgimaaaHpFE
import Derived.Test.YtebgojcecgimaaaSlEl
import Derived.Deep.AppendLies
namespace Go.Proofs.Ytebgojcecgimaaa
set_option linter.unusedVariables false
set_option linter.unusedSimpArgs false
open Go.RowKit
namespace HpE
theorem lv_some {w : World} {base hb mb : Nat} {lv : Value} {l : List It} {f : ByteArray → Option Int} (h : HR w base hb lv mb l f) (hl : 0 < l.length) : ∃ gb cap, lv = .slice (some ⟨gb, 0, none⟩) l.length cap := by
  rcases h.own.2 with ⟨_, h0⟩ | ⟨g, cap, cur, hv, _⟩
  · omega
  · exact ⟨g, cap, hv⟩
/-- another rank at a place -/
theorem HR.rank {w : World} {base hb mb gb cap : Nat} {l : List It} {f : ByteArray → Option Int} (h : HR w base hb (.slice (some ⟨gb, 0, none⟩) l.length cap) mb l f) (i : Nat) (hi : i < l.length) (v : Int) :
    HR (w.setCell ⟨gb, i * 2 + 1, none⟩ (.int .u64 (v))) base hb (.slice (some ⟨gb, 0, none⟩) l.length cap) mb (l.set i ((Hp.nth l i).1, v)) f ∧ Step [gb] w (w.setCell ⟨gb, i * 2 + 1, none⟩ (.int .u64 (v))) := by
  have hS : Step [gb] w (w.setCell ⟨gb, i * 2 + 1, none⟩ (.int .u64 (v))) := (Step.refl [gb] w).setCell (.inl (by simp)) _ _
  have hgm : mb ≠ gb := fun e => h.ap2 (by subst e; simp [foot, Value.ownBlock])
  have hgh : hb ≠ gb := fun e => h.ap1 (by subst e; simp [foot, Value.ownBlock])
  have ho := (h.own.stored (i * 2 + 1) (.int .u64 (v))).1
  rw [flat_set_rank l i v hi] at ho
  have hlen : (l.set i ((Hp.nth l i).1, v)).length = l.length := by simp
  refine ⟨⟨h.blk.step hS (by simpa using hgh), by rw [hlen]; exact ho, by rw [hlen]; exact h.map.step hS (by simpa using hgm), Hp.at_set h.at' i _ hi rfl, fun x hx => ?_, h.low, h.ap1, h.ap2, h.ap3, by rw [hlen]; exact h.few⟩, hS⟩
  rcases List.mem_or_eq_of_mem_set hx with hx | rfl
  · exact h.good x hx
  · exact (show ((strKey Try.underlying9) : KeyT Try.prog _ _).good (Hp.nth l i).1 from h.good _ (Hp.nth_mem l i hi))
/-- one more behind, and in the map -/
theorem HR.app {w w2 w4 : World} {base hb mb : Nat} {lv v2 : Value} {l : List It} {f : ByteArray → Option Int} (h : HR w base hb lv mb l f) (x : It) (hx : f x.1 = Option.none) (hg : ((strKey Try.underlying9) : KeyT Try.prog _ _).good x.1) (hfew : l.length + 1 ≤ 100000)
    (ho : w2.ownsRow base 66 2 v2 (l.length + 1) (flatI (l ++ [x]))) (hs : Step (foot lv) w w2) (hf : Fresh w (foot lv) (foot v2))
    (hm : MapF (strKey Try.underlying9) (intEl .i64) w4 mb (l.length + 1) (upd f x.1 (some (l.length : Int)))) (h4 : Step [mb] (w2.setCell ⟨hb, 0, none⟩ v2) w4) :
    HR w4 base hb v2 mb (l ++ [x]) (upd f x.1 (some (l.length : Int))) ∧ Step (footH hb lv mb) w w4 := by
  have hlen : (l ++ [x]).length = l.length + 1 := by simp
  have n1 : hb ∉ foot v2 := fun hk => (hf _ hk).elim h.ap1 (fun h' => by have := h.blk.lt; omega)
  have n2 : mb ∉ foot v2 := fun hk => (hf _ hk).elim h.ap2 (fun h' => by have := h.map.lt; omega)
  have h3 : Step [hb] w2 (w2.setCell ⟨hb, 0, none⟩ v2) := (Step.refl [hb] w2).setCell (.inl (by simp)) _ _
  have hst : Step (footH hb lv mb) w w4 := ((hs.mono (G := footH hb lv mb) (fun k hk => by simp [footH, hk])).then h3 (fun k hk => .inl (by simp at hk; simp [footH, hk]))).then h4 (fun k hk => .inl (by simp at hk; simp [footH, hk]))
  have hb2 := ((h.blk.step hs h.ap1).set 0 v2).step h4 (by simpa using h.ap3)
  refine ⟨⟨hb2, ?_, by rw [hlen]; exact hm, Hp.at_app (key := fun y : It => y.1) h.at' x hx, fun y hy => ?_, h.low, n1, n2, h.ap3, by rw [hlen]; exact hfew⟩, hst⟩
  · rw [hlen]
    exact owns_step (owns_step ho h3 (fun k hk hm => n1 (by simp at hm; rw [← hm]; exact hk))) h4 (fun k hk hm => n2 (by simp at hm; rw [← hm]; exact hk))
  · rcases List.mem_append.1 hy with hy | hy
    · exact h.good y hy
    · simp at hy
      rw [hy]
      exact hg
def PutPost (base hb : Nat) (lv : Value) (mb : Nat) (l : List It) (f : ByteArray → Option Int) (k : ByteArray) (r : Int) (w : World) (e : Ending) (w' : World) : Prop :=
  e = .returned (.bool (f k).isSome) ∧ ∃ lv' l' f', HR w' base hb lv' mb l' f' ∧ Hp.OK (Hp.ltI ltStr) l' ∧ l'.Perm ((k, r) :: Hp.wo (key := fun x : It => x.1) k l) ∧ Step (footH hb lv mb) w w' ∧ Fresh w (foot lv) (foot lv')

theorem Try.infoE : (Try.prog.info? 66).map (fun i => (i.zero, i.size, i.bytes)) = some (some (.agg #[.string ByteArray.empty, .int .u64 (0)]), 2, 24) := by kernel_rfl
set_option maxRecDepth 20000 in
set_option maxHeartbeats 4000000 in
theorem put_any (base hb mb : Nat) (lv : Value) (l : List It) (f : ByteArray → Option Int) (k : ByteArray) (r : Int) (w : World) (h : HR w base hb lv mb l f) (hok : Hp.OK (Hp.ltI ltStr) l) (hfew : l.length < 1000) (hg : ((strKey Try.underlying9) : KeyT Try.prog _ _).good k) :
    Calls Try.prog 22 #[.pointer (some ⟨hb, 0, none⟩), .string (k), .int .u64 (r)] w (PutPost base hb lv mb l f k r w) := by
  have hlk := h.map.run_ok (t := 68) Try.underlying68 (0 : Int) (zeroN w) k hg
  simp only [intEl, intKey, strKey] at hlk
  cases hf : f k with
  | some i0 =>
    obtain ⟨i, hi, rfl, hki⟩ := h.at'.2 k i0 hf
    dsimp only at hki
    obtain ⟨gb, cap, rfl⟩ := lv_some h (by omega)
    rw [hf] at hlk
    simp only [Option.getD_some, Option.isSome_some] at hlk
    obtain ⟨n, hn⟩ : ∃ n, l.length = n := ⟨_, rfl⟩
    have c0 : w.cell? ⟨hb, 0, none⟩ = some (.slice (some ⟨gb, 0, none⟩) n cap) := by rw [← hn]; exact h.blk.cell 0
    have c1 : w.cell? ⟨hb, 1, none⟩ = some (.map (some mb)) := h.blk.cell 1
    have gf := h.own.frozenAt (i * 2 + 1)
    have cr := (h.cell i hi).2
    have HN := Lib.hid hn
    obtain ⟨hR, hS⟩ := h.rank i hi r
    rw [hki] at hR
    have hX : HR (w.setCell ⟨gb, i * 2 + 1, none⟩ (.int .u64 (r))) base hb (.slice (some ⟨gb, 0, none⟩) n cap) mb (l.set i (k, r)) f := by rw [← hn]; exact hR
    have hM : Mv (w.setCell ⟨gb, i * 2 + 1, none⟩ (.int .u64 (r))) base hb mb gb cap n (l.set i (k, r)) (w.setCell ⟨gb, i * 2 + 1, none⟩ (.int .u64 (r))) (l.set i (k, r)) f := ⟨by simp [hn], hX, List.Perm.refl _, Step.refl _ _⟩
    have HU := Lib.hid (up_any base hb mb gb cap n _ f i _ _ (by omega) hM (Hp.hole_set (Hp.ordI Hp.ordStr) l i (k, r) hi hok))
    have hperm : (l.set i (k, r)).Perm ((k, r) :: Hp.wo (key := fun x : It => x.1) k l) := by
      have h1 := h.at'.split i hi
      rw [hki] at h1
      rw [h1]
      exact Hp.set_perm l i (k, r) hi
    have HP := Lib.hid (And.intro hperm (And.intro hS hf))
    have hin : (i : Int) < (n : Int) := by omega
    clear hM hX hR hS hperm h hok hn hki hf hfew
    go_enter Try.func22, Try.ntmps22
    go_wp2_with fail
    refine HU.out.mono ?_
    rintro e w1 ⟨i1, l1, f1, rfl, hi1, hM1, hD1⟩
    have HD := Lib.hid (down_any base hb mb gb cap n l1 f1 i1 w1 w1 hi1 ⟨hM1.len, hM1.hr, List.Perm.refl _, Step.refl _ _⟩ hD1)
    have HM1 := Lib.hid hM1
    clear hM1 hD1 HU
    go_wp2_with fail
    refine HD.out.mono ?_
    rintro e w2 ⟨l2, f2, rfl, hM2, hO2⟩
    have HM2 := Lib.hid hM2
    have HO2 := Lib.hid hO2
    clear hM2 hO2
    go_wp2_with fail
    go_ret
    obtain ⟨hp, hs, hf⟩ := HP.out
    refine ⟨by rw [hf]; rfl, _, l2, f2, ?_, HO2.out, (HM2.out.perm.trans HM1.out.perm).trans hp, ?_, fun k hk => .inl hk⟩
    · rw [HN.out]
      exact HM2.out.hr
    · refine ((hs.mono (G := footH hb (.slice (some ⟨gb, 0, none⟩) l.length cap) mb) ?_).then HM1.out.st ?_).then HM2.out.st ?_
      · simp [footH, foot, Value.ownBlock]
      · simp [footH, foot, Value.ownBlock]
      · simp [footH, foot, Value.ownBlock]
  | none =>
    rw [hf] at hlk
    simp only [Option.getD_none, Option.isSome_none] at hlk
    obtain ⟨n, hn⟩ : ∃ n, l.length = n := ⟨_, rfl⟩
    obtain ⟨ao, cap, hlv⟩ : ∃ ao cap, lv = .slice ao n cap := by
      rcases h.own.2 with ⟨hv, h0⟩ | ⟨g, cap, cur, hv, _⟩
      · exact ⟨none, 0, by rw [hv, ← hn, h0]⟩
      · exact ⟨_, cap, by rw [hv, hn]⟩
    have c0 : w.cell? ⟨hb, 0, none⟩ = some (.slice ao n cap) := by rw [← hlv]; exact h.blk.cell 0
    have c1 : w.cell? ⟨hb, 1, none⟩ = some (.map (some mb)) := h.blk.cell 1
    obtain ⟨i0, hi0, hz0, hz1, hz2⟩ : ∃ i : TypeInfo, Try.prog.info? 66 = some i ∧ i.zero = some (.agg #[.string ByteArray.empty, .int .u64 (0)]) ∧ i.size = 2 ∧ i.bytes = 24 := by
      have h1 := Try.infoE
      cases e : Try.prog.info? 66 with
      | none => rw [e] at h1; cases h1
      | some i =>
        rw [e] at h1
        simp at h1
        exact ⟨i, rfl, h1.1, h1.2.1, h1.2.2⟩
    have HLV := Lib.hid hlv
    have HN := Lib.hid hn
    have HH := Lib.hid (And.intro h (And.intro hok hf))
    have hown : w.ownsRow base 66 2 (.slice ao n cap) n (flatI l) := by rw [← hlv, ← hn]; exact h.own
    have HO := Lib.hid hown
    have hlt : base ≤ w.heap.size := by have := h.low; have := h.blk.lt; omega
    clear hown hlv h hok hf
    rw [hn] at hfew
    clear hn
    go_enter Try.func22, Try.ntmps22
    go_wp2_with (at_builtin; go_loud (refine wpList_append_sep rfl (.tmp 31) (.tmp 35) 69 rfl base 66 i0 _ 2 24 Try.underlying69 hi0 hz0 hz1 hz2 rfl (by decide) _ n (flatI l) rfl (HO.out.alloc _) (some ⟨w.heap.size, 0, none⟩) 1 1 [.string (k), .int .u64 (r)] rfl (by intro h; cases h) rfl (fun ad h => by cases h; exact World.news_of_block (Go.heap_alloc_new _ _)) (by intro u hu; simp at hu; rcases hu with rfl | rfl <;> rfl) (by unfold maxLen; omega) (by omega) (by simp; omega) ?_))
    intro v2 w2 hown2 hg2 hf2
    obtain ⟨g2, cap2, hv2⟩ : ∃ g2 cap2, v2 = .slice (some ⟨g2, 0, none⟩) (n + 1) cap2 := by
      rcases hown2.2 with ⟨_, h0⟩ | ⟨g, c, cur, hv, _⟩
      · omega
      · exact ⟨g, c, hv⟩
    subst hv2
    obtain ⟨h, hok, hf⟩ := HH.out
    have hs2 : Step (foot lv) w w2 := ((Step.refl (foot lv) w).alloc _).grown hg2 (fun r hr => .inl (mem_foot.2 (by rw [HLV.out]; exact hr)))
    have hfr : Fresh w (foot lv) (foot (.slice (some ⟨g2, 0, none⟩) (n + 1) cap2)) := fun k hk => (hf2 k hk).elim (fun h => .inl (by rw [HLV.out]; exact h)) (fun h => .inr (by rw [World.size_alloc] at h; omega))
    have hb2 := h.blk.step hs2 h.ap1
    have d0 := hb2.cell 0
    have f0 := hb2.free 0
    have hb3 := hb2.set 0 (.slice (some ⟨g2, 0, none⟩) (n + 1) cap2)
    have d3 := hb3.cell 0
    have d4 := hb3.cell 1
    simp only [List.getElem?_toArray, List.getElem?_cons_zero, List.getElem?_cons_succ, List.setIfInBounds_toArray, List.set_cons_zero] at d0 d3 d4
    have hm2 := (h.map.step hs2 h.ap2).step ((Step.refl [hb] w2).setCell (b := hb) (.inl (by simp)) 0 (.slice (some ⟨g2, 0, none⟩) (n + 1) cap2)) (by simpa using h.ap3.symm)
    have hfs := flat_app l [(k, r)]
    rw [show flatI [(k, r)] = [.string (k), .int .u64 (r)] from rfl] at hfs
    rw [← hfs] at hown2
    have HM2 := Lib.hid hm2
    have H2 := Lib.hid (And.intro hown2 (And.intro hs2 hfr))
    clear hown2 hg2 hf2 h hok hf hs2 hfr hb2 hb3 hm2 hfs c0 c1 hlk
    go_wp2_with (at_mapUpdate; refine wpList_store (strKey Try.underlying9) (intEl .i64) rfl _ _ _ 68 3 rfl Try.underlying68 rfl HM2.out (by have := HN.out; unfold maxLen; omega) k rfl hg (n : Int) rfl ?_)
    intro w4 hm4 hs4
    obtain ⟨h, hok, hf⟩ := HH.out
    obtain ⟨ho, hs2, hfr⟩ := H2.out
    have hN := HN.out
    rw [hN] at hm4
    rw [← hN] at ho hs4
    have hlen : (l ++ [(k, r)]).length = n + 1 := by simp [hN]
    obtain ⟨hR, hS⟩ := h.app (k, r) hf hg (by omega) ho hs2 (by rw [hN]; exact hfr) (by rw [hN]; exact hm4) hs4
    rw [hN] at hR
    have hR1 : HR w4 base hb (.slice (some ⟨g2, 0, none⟩) (l ++ [(k, r)]).length cap2) mb (l ++ [(k, r)]) (upd f k (some (n : Int))) := by rw [hlen]; exact hR
    have c0 : w4.cell? ⟨hb, 0, none⟩ = some (.slice (some ⟨g2, 0, none⟩) (n + 1) cap2) := hR.blk.cell 0
    have cr := (hR1.cell n (by omega)).2
    have gf := hR1.own.frozenAt (n * 2 + 1)
    obtain ⟨hX, hSX⟩ := hR1.rank n (by omega) r
    have hend : Hp.nth (l ++ [(k, r)]) n = (k, r) := by
      have := Hp.nth_end l (k, r)
      rwa [hN] at this
    have hset : (l ++ [(k, r)]).set n ((Hp.nth (l ++ [(k, r)]) n).1, r) = l ++ [(k, r)] := by
      rw [hend]
      apply list_set_self
      rw [Hp.nth_some _ _ (by omega), hend]
    rw [hset, hlen] at hX
    have hM : Mv (w4.setCell ⟨g2, n * 2 + 1, none⟩ (.int .u64 (r))) base hb mb g2 cap2 (n + 1) (l ++ [(k, r)]) (w4.setCell ⟨g2, n * 2 + 1, none⟩ (.int .u64 (r))) (l ++ [(k, r)]) (upd f k (some (n : Int))) := ⟨hlen, hX, List.Perm.refl _, Step.refl _ _⟩
    have hhole := Hp.hole_app (lt := Hp.ltI ltStr) l (k, r) hok
    rw [hN] at hhole
    have HU := Lib.hid (up_any base hb mb g2 cap2 (n + 1) _ _ n _ _ (by omega) hM hhole)
    have hperm : (l ++ [(k, r)]).Perm ((k, r) :: Hp.wo (key := fun x : It => x.1) k l) := by
      rw [Hp.wo_none (key := fun x : It => x.1) k l (h.at'.none hf)]
      exact List.perm_append_singleton _ _
    have HS := Lib.hid (hS.then hSX (G := [g2]) (fun j hj => by
      simp at hj
      subst hj
      rcases hfr j (by simp [foot, Value.ownBlock]) with h5 | h5
      · left
        simp [footH, h5]
      · exact .inr h5))
    have HP := Lib.hid (And.intro hperm (And.intro hf hfr))
    have hin : (n : Int) < ((n : Int) + 1) := by omega
    have HN2 := Lib.hid hN
    clear h hok hf ho hs2 hfr hN hlen hR hR1 hX hSX hend hset hM hhole hperm hm4 hs4 HN HM2 H2 HH d0 f0 d3 d4 HO hlt hi0 hz0 hz1 hz2 i0 hS
    go_wp2_with fail
    refine HU.out.mono ?_
    rintro e w1 ⟨i1, l1, f1, rfl, hi1, hM1, hD1⟩
    have HD := Lib.hid (down_any base hb mb g2 cap2 (n + 1) l1 f1 i1 w1 w1 hi1 ⟨hM1.len, hM1.hr, List.Perm.refl _, Step.refl _ _⟩ hD1)
    have HM1 := Lib.hid hM1
    clear hM1 hD1 HU
    go_wp2_with fail
    refine HD.out.mono ?_
    rintro e w2 ⟨l2, f2, rfl, hM2, hO2⟩
    have HM2 := Lib.hid hM2
    have HO2 := Lib.hid hO2
    clear hM2 hO2
    go_wp2_with fail
    go_ret
    obtain ⟨hp, hf, hfr⟩ := HP.out
    refine ⟨by rw [hf]; rfl, _, l2, f2, HM2.out.hr, HO2.out, (HM2.out.perm.trans HM1.out.perm).trans hp, ?_, hfr⟩
    have hin : ∀ j, j ∈ [g2, mb] → j ∈ footH hb lv mb ∨ w.heap.size ≤ j := by
      intro j hj
      simp at hj
      rcases hj with rfl | rfl
      · rcases hfr j (by simp [foot, Value.ownBlock]) with h5 | h5
        · left
          simp [footH, h5]
        · exact .inr h5
      · left
        simp [footH]
    exact (HS.out.then HM1.out.st hin).then HM2.out.st hin
end HpE
end Go.Proofs.Ytebgojcecgimaaa
