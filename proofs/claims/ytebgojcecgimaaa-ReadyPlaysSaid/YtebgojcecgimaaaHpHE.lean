/- heap E (string, uint64): Len, Cut. -/
import Derived.Test.YtebgojcecgimaaaHpGE
import Derived.Laws.ResultCell
namespace Go.Proofs.Ytebgojcecgimaaa
set_option linter.unusedVariables false
set_option linter.unusedSimpArgs false
open Go.RowKit
namespace HpE
theorem len_any (base hb mb : Nat) (lv : Value) (l : List It) (f : ByteArray → Option Int) (w : World) (h : HR w base hb lv mb l f) :
    Calls Try.prog 28 #[.pointer (some ⟨hb, 0, none⟩)] w fun e w' => e = .returned (.int .i64 (l.length : Int)) ∧ w = w' := by
  obtain ⟨ao, cap, rfl⟩ : ∃ ao cap, lv = .slice ao l.length cap := by
    rcases h.own.2 with ⟨hv, h0⟩ | ⟨g, cap, cur, hv, _⟩
    · exact ⟨none, 0, by rw [hv, h0]⟩
    · exact ⟨_, cap, hv⟩
  have c0 : w.cell? ⟨hb, 0, none⟩ = some (.slice ao l.length cap) := h.blk.cell 0
  generalize l.length = n at c0 ⊢
  clear h
  go_enter Try.func28, Try.ntmps28
  go_wp2_with fail
  all_goals
    go_ret
    exact ⟨rfl, rfl⟩
theorem owns_cut {w : World} {base e size g n m cap : Nat} {xs : List Value} (h : w.ownsRow base e size (.slice (some ⟨g, 0, none⟩) n cap) n xs) (hm : m ≤ n) : w.ownsRow base e size (.slice (some ⟨g, 0, none⟩) m cap) m (xs.take (m * size)) := by
  have hle : m * size ≤ n * size := Nat.mul_le_mul_right _ hm
  refine ⟨by rw [List.length_take, h.1, Nat.min_eq_left hle], ?_⟩
  rcases h.2 with ⟨hv, _⟩ | ⟨g', cap', cur, hv, hb, hh, h1, h2, h3, h4⟩
  · cases hv
  · cases hv
    exact .inr ⟨_, _, cur, rfl, hb, hh, by omega, h2, h3, by rw [← h4, List.take_take, Nat.min_eq_left hle]⟩
/-- the last one goes, and its key -/
theorem HR.last {w w3 : World} {base hb mb gb cap n : Nat} {l : List It} {f : ByteArray → Option Int} {k : ByteArray} (h : HR w base hb (.slice (some ⟨gb, 0, none⟩) l.length cap) mb l f) (hn : l.length = n + 1) (hk : (Hp.nth l n).1 = k)
    (hm : MapF (strKey Try.underlying9) (intEl .i64) w3 mb l.length (upd f k Option.none)) (h3 : Step [mb] (w.setCell ⟨hb, 0, none⟩ (.slice (some ⟨gb, 0, none⟩) n cap)) w3) :
    HR w3 base hb (.slice (some ⟨gb, 0, none⟩) n cap) mb (l.take n) (upd f k Option.none) ∧ Step [hb, mb] w w3 := by
  have hlen : (l.take n).length = n := by simp [hn]
  have hat := Hp.at_take (key := fun x : It => x.1) h.at' n hn
  rw [hk] at hat
  have hgood : ∀ x ∈ l.take n, ((strKey Try.underlying9) : KeyT Try.prog _ _).good x.1 := fun x hx => h.good x (List.mem_of_mem_take hx)
  have h1 : Step [hb] w (w.setCell ⟨hb, 0, none⟩ (.slice (some ⟨gb, 0, none⟩) n cap)) := (Step.refl [hb] w).setCell (.inl (by simp)) _ _
  have hst : Step [hb, mb] w w3 := (h1.mono (fun k hk => by simp at hk; simp [hk])).then h3 (fun k hk => .inl (by simp at hk; simp [hk]))
  have n1 : hb ∉ foot (.slice (some ⟨gb, 0, none⟩) n cap) := h.ap1
  have n2 : mb ∉ foot (.slice (some ⟨gb, 0, none⟩) n cap) := h.ap2
  have ho := owns_cut (m := n) h.own (by omega)
  rw [flat_take l n (by omega)] at ho
  refine ⟨⟨(h.blk.set 0 _).step h3 (by simpa using h.ap3), ?_, map_shrink hm hat hgood, hat, hgood, h.low, n1, n2, h.ap3, by rw [hlen]; have := h.few; omega⟩, hst⟩
  rw [hlen]
  exact owns_step (owns_step ho h1 (fun k hk hm => n1 (by simp at hm; rw [← hm]; exact hk))) h3 (fun k hk hm => n2 (by simp at hm; rw [← hm]; exact hk))
def CutPost (base hb : Nat) (lv : Value) (mb : Nat) (l : List It) (f : ByteArray → Option Int) (k : ByteArray) (w : World) (e : Ending) (w' : World) : Prop :=
  e = .returned (.bool (f k).isSome) ∧ ∃ lv' l' f', HR w' base hb lv' mb l' f' ∧ Hp.OK (Hp.ltI ltStr) l' ∧ l'.Perm (Hp.wo (key := fun x : It => x.1) k l) ∧ Step (footH hb lv mb) w w' ∧ Fresh w (foot lv) (foot lv')
set_option maxRecDepth 20000 in
set_option maxHeartbeats 4000000 in
theorem cut_any (base hb mb : Nat) (lv : Value) (l : List It) (f : ByteArray → Option Int) (k : ByteArray) (w : World) (h : HR w base hb lv mb l f) (hok : Hp.OK (Hp.ltI ltStr) l) (hg : ((strKey Try.underlying9) : KeyT Try.prog _ _).good k) :
    Calls Try.prog 24 #[.pointer (some ⟨hb, 0, none⟩), .string (k)] w (CutPost base hb lv mb l f k w) := by
  have hlk := h.map.run_ok (t := 68) Try.underlying68 (0 : Int) (zeroN w) k hg
  simp only [intEl, intKey, strKey] at hlk
  have c1 : w.cell? ⟨hb, 1, none⟩ = some (.map (some mb)) := h.blk.cell 1
  cases hf : f k with
  | none =>
    rw [hf] at hlk
    simp only [Option.getD_none, Option.isSome_none] at hlk
    have HF := Lib.hid (And.intro h (And.intro hok hf))
    clear h hok hf
    go_enter Try.func24, Try.ntmps24
    go_wp2_with fail
    go_ret
    obtain ⟨h, hok, hf⟩ := HF.out
    refine ⟨by rw [hf]; rfl, lv, l, f, h, hok, ?_, Step.refl _ _, fun k hk => .inl hk⟩
    rw [Hp.wo_none (key := fun x : It => x.1) k l (h.at'.none hf)]
  | some i0 =>
    obtain ⟨i, hi, rfl, hki⟩ := h.at'.2 k i0 hf
    dsimp only at hki
    obtain ⟨gb, cap, rfl⟩ := lv_some h (by omega)
    rw [hf] at hlk
    simp only [Option.getD_some, Option.isSome_some] at hlk
    obtain ⟨m, hm⟩ : ∃ m, l.length = m + 1 := ⟨l.length - 1, by omega⟩
    have hfew := h.few
    have c0 : w.cell? ⟨hb, 0, none⟩ = some (.slice (some ⟨gb, 0, none⟩) (m + 1) cap) := by rw [← hm]; exact h.blk.cell 0
    have HS := Lib.hid (swap_any base hb mb gb cap l f i m w hi (by omega) h)
    have HH := Lib.hid (And.intro h (And.intro hok (And.intro hf (And.intro hki hm))))
    rw [hm] at hi hfew
    have e1 : IntKind.i64.wrap (((m + 1 : Nat) : Int) - 1) = (m : Int) := by rw [wrapI (by omega) (by omega)]; omega
    have e2 : IntKind.i64.wrap ((m : Int) + 1 - 1) = (m : Int) := by rw [wrapI (by omega) (by omega)]; omega
    clear h hok hf hki hm
    go_enter Try.func24, Try.ntmps24
    go_wp2_with fail
    refine HS.out.mono ?_
    rintro e w1 ⟨rfl, hR1, hS1⟩
    obtain ⟨h, hok, hf, hki, hm⟩ := HH.out
    have hcap : (m : Int) ≤ (cap : Int) := by
      rcases h.own.2 with ⟨hv, _⟩ | ⟨g', cap', cur, hv, _, _, h1, _⟩
      · cases hv
      · cases hv
        omega
    have hLl := Hp.swap_len l i m
    have hLk : Hp.nth (Hp.swap l i m) m = Hp.nth l i := by rw [Hp.nth_swap l i m m (by omega) (by omega), if_pos rfl]
    have hp1 := Hp.cut_perm l i m hm (by omega)
    have hsp := h.at'.split i (by omega)
    rw [hki] at hsp
    rw [← hsp] at hp1
    have hhole : i < m → Hp.Hole (Hp.ltI ltStr) ((Hp.swap l i m).take m) i := fun him => Hp.hole_cut (Hp.ordI Hp.ordStr) l i m hm him hok
    have hokm : i = m → Hp.OK (Hp.ltI ltStr) ((Hp.swap l i m).take m) := fun him => by subst him; exact Hp.ok_cut l i hm hok
    generalize hL : Hp.swap l i m = L at *
    generalize hF1 : upd (upd f (Hp.nth l m).1 (some (i : Int))) (Hp.nth l i).1 (some (m : Int)) = f1 at *
    have hLk2 : (Hp.nth L m).1 = k := by rw [hLk, hki]
    rw [← hLl] at hR1
    have hLm : L.length = m + 1 := hLl.trans hm
    have c0 : w1.cell? ⟨hb, 0, none⟩ = some (.slice (some ⟨gb, 0, none⟩) (m + 1) cap) := by rw [← hLm]; exact hR1.blk.cell 0
    have f0 := hR1.blk.free 0
    have d1 := (hR1.blk.set 0 (.slice (some ⟨gb, 0, none⟩) m cap)).cell 1
    simp only [List.setIfInBounds_toArray, List.set_cons_zero, List.getElem?_toArray, List.getElem?_cons_succ, List.getElem?_cons_zero] at d1
    have hm1 := hR1.map.step ((Step.refl [hb] w1).setCell (b := hb) (.inl (by simp)) 0 (.slice (some ⟨gb, 0, none⟩) m cap)) (by simpa using hR1.ap3.symm)
    have HM := Lib.hid hm1
    have H1 := Lib.hid (And.intro hR1 (And.intro hS1 (And.intro hLm (And.intro hLk2 (And.intro hp1 (And.intro hhole (And.intro hokm (And.intro hf (And.intro hm h)))))))))
    clear h hok hf hki hm hLl hLk hp1 hsp hhole hokm hL hF1 hLk2 hR1 hLm hm1 HH HS hS1 c1 hlk
    go_wp2_with (at_delete; refine wpList_del (strKey Try.underlying9) (intEl .i64) rfl _ _ 68 3 rfl Try.underlying68 rfl HM.out k rfl hg ?_)
    intro w3 hm3 hs3
    obtain ⟨hR1, hS1, hLm, hLk2, hp1, hhole, hokm, hf, hm, h⟩ := H1.out
    obtain ⟨hR3, hS3⟩ := hR1.last hLm hLk2 hm3 hs3
    have hst : Step (footH hb (.slice (some ⟨gb, 0, none⟩) l.length cap) mb) w w3 := (hS1.mono (by simp [footH, foot, Value.ownBlock])).then hS3 (by simp [footH])
    by_cases him : i < m
    · have p1 : decide ((i : Int) < (m : Int)) = true := by simp; omega
      have hlen : (L.take m).length = m := by simp [hLm]
      have hM : Mv w3 base hb mb gb cap m (L.take m) w3 (L.take m) _ := ⟨hlen, hR3, List.Perm.refl _, Step.refl _ _⟩
      have HU := Lib.hid (up_any base hb mb gb cap m _ _ i _ _ him hM (hhole him))
      have HP := Lib.hid (And.intro hp1 (And.intro hst hf))
      clear hR1 hS1 hLm hLk2 hp1 hhole hokm hf hm h hR3 hS3 hst hlen hM HM H1 hm3 hs3 c0 f0 d1 e1 e2
      go_wp2_with fail
      refine HU.out.mono ?_
      rintro e w4 ⟨i1, l1, f4, rfl, hi1, hM1, hD1⟩
      have HD := Lib.hid (down_any base hb mb gb cap m l1 f4 i1 w4 w4 hi1 ⟨hM1.len, hM1.hr, List.Perm.refl _, Step.refl _ _⟩ hD1)
      have HM1 := Lib.hid hM1
      clear hM1 hD1 HU
      go_wp2_with fail
      refine HD.out.mono ?_
      rintro e w5 ⟨l2, f2, rfl, hM2, hO2⟩
      have HM2 := Lib.hid hM2
      have HO2 := Lib.hid hO2
      clear hM2 hO2
      go_wp2_with fail
      go_ret
      obtain ⟨hp, hs, hf⟩ := HP.out
      refine ⟨by rw [hf]; rfl, _, l2, f2, HM2.out.hr, HO2.out, (HM2.out.perm.trans HM1.out.perm).trans hp, (hs.then HM1.out.st ?_).then HM2.out.st ?_, fun k hk => .inl hk⟩
      · simp [footH, foot, Value.ownBlock]
      · simp [footH, foot, Value.ownBlock]
    · have p1 : decide ((i : Int) < (m : Int)) = false := by simp; omega
      have HP := Lib.hid (And.intro hp1 (And.intro hst (And.intro hf (And.intro hR3 (hokm (by omega))))))
      clear hR1 hS1 hLm hLk2 hp1 hhole hokm hf hm h hR3 hS3 hst HM H1 hm3 hs3 c0 f0 d1 e1 e2
      go_wp2_with fail
      go_ret
      obtain ⟨hp, hs, hf, hR3, hok3⟩ := HP.out
      exact ⟨by rw [hf]; rfl, _, _, _, hR3, hok3, hp, hs, fun k hk => .inl hk⟩
end HpE
end Go.Proofs.Ytebgojcecgimaaa
