/- entry: the walks of slices.Clone of entries, of Cut, and of Add at a full log. -/
import Derived.Test.YtjepglbolkbldaaEntG
import Derived.Deep.RegionHeld3
import Derived.Deep.RegionLaw
import Derived.Deep.DrawnRows
namespace Go.Proofs.Ytjepglbolkbldaa
set_option linter.unusedVariables false
open Go.RowKit
attribute [local go_sem ↓] Go.wp_at_zero Go.wp_at_succ

set_option maxHeartbeats 1000000 in
theorem cloneL (x : Addr) (m cap : Nat) (l : List En) (w : World) (hE : Ents w (some x) l) (hl : l.length = m) (hm : m ≤ 100000) :
    Calls Try.prog 24 #[.slice (some x) m cap] w fun e w' => (∃ a c, e = .returned (.slice a m c) ∧ w'.ownsRow w.heap.size 42 4 (.slice a m c) m (cellsL l)) ∧ Step [] w w' := by
  obtain ⟨i0, hi0, hz0, hz1, hz2⟩ := info_parts Try.infoE
  have he := fun w => Lib.run_eql_slice_nil (P := Try.prog) w 23 42 (some x) m cap 0 0 Try.underlying23
  simp at he
  have HE := Lib.hid hE
  clear hE
  go_enter Try.func24, Try.ntmps24
  go_wp2_with (at_builtin; refine wpList_append_own_any rfl (.tmp 5) (.tmp 6) 23 rfl w.heap.size 42 i0 _ 4 48 Try.underlying23 hi0 hz0 hz1 hz2 rfl (by decide) _ 0 [] rfl (World.ownsRow_made _ _ 0 (Nat.le_refl _) (Nat.zero_le _) rfl) (some x) m cap (cellsL l) rfl (by intro h; cases h) (by rw [cellsL_len, hl]) ((HE.out.step ((Step.refl [] w).alloc _) (by simp)).cells) (cellsL_one l) (by unfold maxLen; omega) (by omega) (by simp) ?_)
  intro v2 w2 hown2 hg2
  have hs2 : Step [] w w2 := ((Step.refl _ _).alloc _).grown hg2 (fun k hk => by cases hk; exact .inr (Nat.le_refl _))
  have hown3 : w2.ownsRow w.heap.size 42 4 v2 m (cellsL l) := by simpa using hown2
  have HO := Lib.hid hown3
  clear hown2 hg2 hown3
  go_wp2
  go_ret
  refine ⟨?_, hs2⟩
  rcases HO.out.2 with ⟨rfl, h0⟩ | ⟨g, c, cur, rfl, -⟩
  · subst h0
    exact ⟨_, _, rfl, HO.out⟩
  · exact ⟨_, _, rfl, HO.out⟩

theorem drop_keys {L : List En} {ix : Nat} {ts : List Nat} (h : L.map key = keysFrom ix ts) (k : Nat) (hk : k ≤ ts.length) : (L.drop k).map key = keysFrom (ix + k) (ts.drop k) := by
  rw [List.map_drop, h, keysFrom_drop _ _ _ hk]

set_option maxHeartbeats 1000000 in
theorem cut_any (base lb : Nat) (g cap ix tm : Nat) (ts : List Nat) (i T : Nat) (w : World) (h : Log w base lb (some ⟨g, 0, none⟩) cap ix tm ts) (hT : termAt ix tm ts i = (T, 0)) (hix : ix + ts.length < 4611686018427387904) :
    Calls Try.prog 13 #[.pointer (some ⟨lb, 0, none⟩), .int .u64 (i : Int)] w fun e w' => e = .returned (.int .i64 0) ∧ ∃ a2 c2, Log w' base lb a2 c2 i T (ts.drop (i - ix)) ∧ Step [lb] w w' ∧ ∀ k, k ∈ foot (.slice a2 (ts.length - (i - ix)) c2) → w.heap.size ≤ k := by
  have HC := Lib.hid (term_any base lb _ cap ix tm ts i w h)
  have hin := @termAt_in ix tm ts i (by rw [hT])
  rw [hT] at HC
  clear hT
  have HH := Lib.hid h
  clear h
  obtain ⟨k, hk⟩ : ∃ k, i - ix = k := ⟨_, rfl⟩
  rw [hk]
  obtain ⟨m, hm⟩ : ∃ m, ts.length - k = m := ⟨_, rfl⟩
  rw [hm]
  have hkn : k ≤ ts.length := by omega
  have e1 : IntKind.u64.wrap ((i : Int) - (ix : Int)) = (k : Int) := by rw [u64_self _ (by omega) (by omega)]; omega
  go_enter Try.func13, Try.ntmps13
  go_wp2_with fail
  refine HC.out.mono ?_
  rintro e w1 ⟨rfl, hs1⟩
  have HS1 := Lib.hid hs1
  have hL1 := HH.out.step0 hs1
  obtain ⟨c0, c1, c2⟩ := hL1.three
  have f2 := hL1.blk.free 2
  have hlt := hL1.blk.lt
  have hlow := hL1.low
  have hfew := hL1.few
  obtain ⟨L, hLk, hLo⟩ := hL1.own
  have hcap := (owns_cap hLo).1
  have hLl : L.length = ts.length := by have := hLo.1; rw [cellsL_len] at this; omega
  have HLK := Lib.hid hLk
  have hEd := (owns_ents hLo).drop k
  rw [Nat.zero_add] at hEd
  have HE := Lib.hid hEd
  clear hEd
  have HE0 := Lib.hid (owns_ents hLo)
  have HL1 := Lib.hid hL1
  clear hL1 hLk hLo hs1 HC HH
  have g1 : (0 : Int) ≤ (k : Int) := by omega
  have g2 : (k : Int) ≤ (ts.length : Int) := by omega
  have g3 : (ts.length : Int) ≤ (cap : Int) := by omega
  have hdl : (L.drop k).length = m := by simp; omega
  have hout : Hid (∀ (w7 w9 : World) (a7 : Option Addr) (k7 : Nat), Step [] w1 w7 → w7.ownsRow w1.heap.size 42 4 (.slice a7 (m) k7) (m) (cellsL (L.drop k)) → w9 = ((w7.setCell ⟨lb, 2, none⟩ (.slice a7 (m) k7)).setCell ⟨lb, 0, none⟩ (.int .u64 (i : Int))).setCell ⟨lb, 1, none⟩ (.int .u64 (T : Int)) →
      ∃ a2 c2, Log w9 base lb a2 c2 i T (ts.drop k) ∧ Step [lb] w w9 ∧ ∀ j, j ∈ foot (.slice a2 (m) c2) → w.heap.size ≤ j) := by
    refine Lib.hid (fun w7 w9 a7 k7 hs hown h9 => ?_)
    subst h9
    have hap : lb ∉ foot (.slice a7 (m) k7) := fun hm => by have := owns_base hown lb hm; omega
    have hst : Step [lb] w7 (((w7.setCell ⟨lb, 2, none⟩ (.slice a7 (m) k7)).setCell ⟨lb, 0, none⟩ (.int .u64 (i : Int))).setCell ⟨lb, 1, none⟩ (.int .u64 (T : Int))) :=
      (((Step.refl [lb] w7).setCell (.inl (by simp)) 2 _).setCell (.inl (by simp)) 0 _).setCell (.inl (by simp)) 1 _
    have hsz1 := HS1.out.size
    refine ⟨a7, k7, ⟨?_, ⟨L.drop k, ?_, ?_⟩, hlow, ?_, ?_, ?_⟩, ?_, fun j hj => by have := owns_base hown j hj; omega⟩
    · rw [List.length_drop, hm]
      exact (((HL1.out.blk.step hs (by simp)).set 2 _).set 0 _).set 1 _
    · rw [drop_keys HLK.out k hkn, show ix + k = i by omega]
    · rw [List.length_drop, hm]
      exact owns_low (owns_step hown hst (fun j hj hm => by simp at hm; subst hm; exact hap hj)) (by omega)
    · intro b off s e hb
      subst hb
      exact hap ((foot_slice _ _ _ lb).2 ⟨off, s, e⟩)
    · rw [List.length_drop]; omega
    · rw [List.length_drop]; omega
    · exact ((HS1.out.then hs (by simp)).mono (by simp)).then hst (fun j hj => .inl hj)
  by_cases hck : cap = k
  · have hm0 : m = 0 := by omega
    subst hm0
    go_wp2_with fail
    go_region_law (go_simp; go_at_call 24; refine (cloneL _ _ _ (L.drop k) _ ?hE ?h1 ?h2).mono ?_
                   case hE => intro j hj; omega
                   case h1 => omega
                   case h2 => omega
                   rintro e7 w7 ⟨⟨a7, k7, rfl, hown7⟩, hs7⟩
                   have hs8 : Step [] w1 w7 := (Step.refl [] w1).drew.then hs7 (by simp)
                   obtain ⟨b0, b1, b2⟩ := (HL1.out.step0 hs8).three
                   have f7 := (HL1.out.step0 hs8).blk.free
                   have HO7 := Lib.hid hown7
                   have HS8 := Lib.hid hs8
                   clear hown7 hs7 hs8)
    all_goals
      go_wp2_with fail
      go_ret
      exact ⟨rfl, hout.out w7 _ a7 k7 HS8.out HO7.out rfl⟩
  · have hck2 : ¬ k = cap := fun h => hck h.symm
    go_wp2_with fail
    go_region_law (go_simp; go_at_call 24; refine (cloneL _ _ _ (L.drop k) _ ?hE ?h1 ?h2).mono ?_
                   case hE => exact HE.out.step (Step.refl [] w1).drew (by simp)
                   case h1 => omega
                   case h2 => omega
                   rintro e7 w7 ⟨⟨a7, k7, rfl, hown7⟩, hs7⟩
                   have hs8 : Step [] w1 w7 := (Step.refl [] w1).drew.then hs7 (by simp)
                   obtain ⟨b0, b1, b2⟩ := (HL1.out.step0 hs8).three
                   have f7 := (HL1.out.step0 hs8).blk.free
                   have HO7 := Lib.hid hown7
                   have HS8 := Lib.hid hs8
                   clear hown7 hs7 hs8)
    all_goals
      go_wp2_with fail
      go_ret
      exact ⟨rfl, hout.out w7 _ a7 k7 HS8.out HO7.out rfl⟩

/-- Add at a log that is full -/
theorem add_full (base lb : Nat) (a : Option Addr) (cap ix tm : Nat) (ts : List Nat) (t : Nat) (c : Bool) (w : World) (h : Log w base lb a cap ix tm ts) (ht : ¬ t < lastT tm ts) (hf : ts.length = 1024) (hs : ix + ts.length + 1 < 4611686018427387904) :
    Calls Try.prog 11 #[.pointer (some ⟨lb, 0, none⟩), .int .u64 (t : Int), .bool c, .slice none 0 0] w fun e w' => e = .returned (.tuple #[.int .u64 0, .int .i64 6]) ∧ Step [] w w' := by
  have HL := Lib.hid (last_any _ _ _ _ _ _ _ _ h)
  have HH := Lib.hid h
  clear h
  have p1 : decide ((t : Int) < (lastT tm ts : Int)) = false := by simp; omega
  go_enter Try.func11, Try.ntmps11
  go_wp2_with fail
  refine HL.out.mono ?_
  rintro e w1 ⟨rfl, hs1⟩
  have HS := Lib.hid hs1
  have hL1 := HH.out.step0 hs1
  obtain ⟨c0, c1, c2⟩ := hL1.three
  rw [hf] at c2
  clear hs1 hL1 HL HH
  go_wp2_with fail
  go_ret2
  exact ⟨rfl, HS.out⟩
end Go.Proofs.Ytjepglbolkbldaa
