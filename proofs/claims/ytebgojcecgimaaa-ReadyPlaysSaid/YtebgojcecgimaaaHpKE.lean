/- heap E (string, uint64): Copy. -/
import Derived.Test.YtebgojcecgimaaaHpJE
import Derived.Shelf.SlMaps.Clone
import Derived.Lib.Hide
import Derived.Deep.RegionHeldLaw
import Derived.Deep.RegionLawGrows
namespace Go.Proofs.Ytebgojcecgimaaa
set_option linter.unusedVariables false
open Go.RowKit
namespace HpE
set_option maxRecDepth 20000 in
theorem mclone_any (mb n : Nat) (f : ByteArray → Option Int) (w : World) (h : MapF (strKey Try.underlying9) (intEl .i64) w mb n f) :
    Calls Try.prog 33 #[.map (some mb)] w fun e w' => e = .returned (.map (some w.heap.size)) ∧ MapF (strKey Try.underlying9) (intEl .i64) w' w.heap.size n f ∧ ∃ o, w' = w.alloc o := by
  obtain ⟨D, hown, hs⟩ := h
  obtain ⟨es, clock, hb, F, hn, hD⟩ := hown
  have hq := fun w => run_eql_map_nil_sl (P := Try.prog) w 68 _ _ (some mb) Try.underlying68
  simp only [Option.isNone_some] at hq
  have HF := Lib.hid (And.intro F (And.intro hn (And.intro hD hs)))
  clear F hn hD hs
  go_enter Try.func33, Try.ntmps33
  go_wp2
  rw [run_callFunc_extern Try.func37 (by kernel_rfl) (by kernel_rfl) (by kernel_rfl) (e := Extern.MapsClone.clone) (by kernel_rfl), run_maps_clone_sl w 68 hb]
  simp only [Result.andThen]
  rw [Oper.upon_value]
  go_wp2
  rw [run_typeAssert_map_sl _ 68 _ _ _ _ Try.underlying68]
  simp only [Result.andThen]
  rw [Oper.upon_value]
  go_wp2
  go_ret
  obtain ⟨F, hn, hD, hs⟩ := HF.out
  exact ⟨rfl, ⟨D, ⟨es, clock, (MapKept.heap_alloc w _).1, F, hn, hD⟩, hs⟩, _, rfl⟩
def NewRow (l : List It) (w : World) (e : Ending) (w' : World) : Prop :=
  ∃ ao cap, e = .returned (.slice ao l.length cap) ∧ w'.ownsRow w.heap.size 66 2 (.slice ao l.length cap) l.length (flatI l) ∧ Step [] w w'
set_option maxRecDepth 20000 in
set_option maxHeartbeats 1000000 in
theorem sclone_any (base : Nat) (lv : Value) (l : List It) (w : World) (h : w.ownsRow base 66 2 lv l.length (flatI l)) (hfew : l.length ≤ 100000) :
    Calls Try.prog 32 #[lv] w (NewRow l w) := by
  rcases h.2 with ⟨rfl, h0⟩ | ⟨g, cap, cur, rfl, hg, hh, hn, hcap, hsz, htake⟩
  · have : l = [] := List.eq_nil_of_length_eq_zero h0
    subst this
    have he := fun w => Lib.run_eql_slice_nil (P := Try.prog) w 69 66 none 0 0 0 0 Try.underlying69
    clear h
    go_enter Try.func32, Try.ntmps32
    go_wp2
    go_ret
    exact ⟨none, 0, rfl, World.ownsRow_nil _ _ _ _, Step.refl _ _⟩
  · obtain ⟨i0, hi0, hz0, hz1, hz2⟩ : ∃ i : TypeInfo, Try.prog.info? 66 = some i ∧ i.zero = some (.agg #[.string ByteArray.empty, .int .u64 (0)]) ∧ i.size = 2 ∧ i.bytes = 24 := by
      have h1 := Try.infoE
      cases e : Try.prog.info? 66 with
      | none => rw [e] at h1; cases h1
      | some i =>
        rw [e] at h1
        simp at h1
        exact ⟨i, rfl, h1.1, h1.2.1, h1.2.2⟩
    obtain ⟨n, hn0⟩ : ∃ n, l.length = n := ⟨_, rfl⟩
    have he := fun w => Lib.run_eql_slice_nil (P := Try.prog) w 69 66 (some ⟨g, 0, none⟩) n cap 0 0 Try.underlying69
    simp at he
    have hO : w.ownsRow base 66 2 (.slice (some ⟨g, 0, none⟩) n cap) n (flatI l) := by rw [← hn0]; exact h
    have HO := Lib.hid hO
    have HN := Lib.hid hn0
    rw [hn0] at hfew
    unfold NewRow
    rw [hn0]
    clear h hh hn hcap hsz htake hO hn0
    go_enter Try.func32, Try.ntmps32
    go_wp2_with (at_builtin; go_loud (refine wpList_append_own_any rfl (.tmp 5) (.tmp 6) 69 rfl w.heap.size 66 i0 _ 2 24 Try.underlying69 hi0 hz0 hz1 hz2 rfl (by decide) _ 0 [] rfl (World.ownsRow_made _ _ 0 (Nat.le_refl _) (Nat.zero_le _) rfl) (some ⟨g, 0, none⟩) n cap (flatI l) rfl (by intro h; cases h) HO.out.1 (fun ad had => by cases had; exact (HO.out.alloc _).cells rfl) (flat_one l) (by unfold maxLen; omega) (by omega) (by simp) ?_))
    intro v2 w2 hown2 hg2
    have hs2 : Step [] w w2 := ((Step.refl _ _).alloc _).grown hg2 (fun k hk => by cases hk; exact .inr (Nat.le_refl _))
    have HO2 := Lib.hid hown2
    clear hown2 hg2
    go_wp2
    go_ret
    have ho : w2.ownsRow w.heap.size 66 2 v2 n (flatI l) := by simpa using HO2.out
    rcases ho.2 with ⟨rfl, h0⟩ | ⟨g2, cap2, cur2, rfl, _⟩
    · subst h0
      exact ⟨none, 0, rfl, ho, hs2⟩
    · exact ⟨_, _, rfl, ho, hs2⟩
/-- a copy, apart -/
def CopyPost (l : List It) (f : ByteArray → Option Int) (w : World) (e : Ending) (w' : World) : Prop :=
  ∃ hb' mb' lv', e = .returned (.pointer (some ⟨hb', 0, none⟩)) ∧ HR w' w.heap.size hb' lv' mb' l f ∧ Step [] w w'
set_option maxRecDepth 20000 in
set_option maxHeartbeats 2000000 in
theorem copy_any (base hb mb : Nat) (lv : Value) (l : List It) (f : ByteArray → Option Int) (w : World) (h : HR w base hb lv mb l f) :
    Calls Try.prog 25 #[.pointer (some ⟨hb, 0, none⟩)] w (CopyPost l f w) := by
  have c0 : w.cell? ⟨hb, 0, none⟩ = some lv := h.blk.cell 0
  have c1 : w.cell? ⟨hb, 1, none⟩ = some (.map (some mb)) := h.blk.cell 1
  have HK := Lib.hid (fun (W : World) (hs : Step [] w W) => (show W.cell? ⟨hb, 0, none⟩ = some lv ∧ W.cell? ⟨hb, 1, none⟩ = some (.map (some mb)) from ⟨(h.blk.step hs (by simp)).cell 0, (h.blk.step hs (by simp)).cell 1⟩))
  have HSC := Lib.hid (fun (W : World) (hs : Step [] w W) => sclone_any base lv l W (owns_step h.own hs (by simp)) h.few)
  have HMC := Lib.hid (fun (W : World) (hs : Step [] w W) => mclone_any mb l.length f W (h.map.step hs (by simp)))
  have HD := Lib.hid ((Step.refl [] w).drew)
  have HH := Lib.hid h
  clear h
  go_enter Try.func25, Try.ntmps25
  go_wp2_with fail
  go_region_with (first
    | (go_at_call 32
       first
         | (refine (HSC.out _ HM9.out).mono ?_
            rintro e7 w7 ⟨a7, k7, rfl, ho7, hs7⟩
            have HS7 := Lib.hid (And.intro ho7 (HM9.out.then hs7 (by simp)))
            clear ho7)
         | (refine (HSC.out _ HD.out).mono ?_
            rintro e7 w7 ⟨a7, k7, rfl, ho7, hs7⟩
            have HS7 := Lib.hid (And.intro ho7 (HD.out.then hs7 (by simp)))
            have HM7 := Lib.hid (HD.out.then hs7 (by simp))
            have c7 := (HK.out _ HM7.out).1
            have d7 := (HK.out _ HM7.out).2
            clear ho7))
    | (go_at_call 33
       first
         | (refine (HMC.out _ HM7.out).mono ?_
            rintro e9 w9 ⟨rfl, hm9, o9, hw9⟩
            have HS9 := Lib.hid (And.intro hm9 hw9)
            clear hm9 hw9)
         | (refine (HMC.out _ HD.out).mono ?_
            rintro e9 w9 ⟨rfl, hm9, o9, hw9⟩
            have HM9 := Lib.hid (show Step [] w w9 from by rw [hw9]; exact HD.out.alloc _)
            have HS9 := Lib.hid (And.intro hm9 hw9)
            have c9 := (HK.out _ HM9.out).1
            have d9 := (HK.out _ HM9.out).2
            clear hm9 hw9)))
  all_goals
    obtain ⟨ho7, hs7⟩ := HS7.out
    obtain ⟨hm9, hw9⟩ := HS9.out
    have hH := HH.out
    have hl7 := owns_live ho7
    have hlow : w.heap.size ≤ w7.heap.size := hs7.size
    have hz9 : w9.heap.size = w7.heap.size + 1 := by rw [hw9, World.size_alloc]
    have s79 : Step [] w7 w9 := by rw [hw9]; exact (Step.refl [] w7).alloc _
    have sA := (Step.refl [] w9).alloc (.cells #[.slice a7 l.length k7, .map (some w7.heap.size)] 71)
    have hfin : HR (w9.alloc (.cells #[.slice a7 l.length k7, .map (some w7.heap.size)] 71)) w.heap.size w9.heap.size (.slice a7 l.length k7) w7.heap.size l f :=
      ⟨Blk.new w9 _ _, owns_step (owns_step ho7 s79 (by simp)) sA (by simp), hm9.step sA (by simp), hH.at', hH.good, ⟨by omega, hlow⟩, (fun hm => by have := hl7 _ hm; omega), (fun hm => by have := hl7 _ hm; omega), by omega, hH.few⟩
    have hst : Step [] w (w9.alloc (.cells #[.slice a7 l.length k7, .map (some w7.heap.size)] 71)) := (hs7.then s79 (by simp)).alloc _
    have HF := Lib.hid (And.intro hfin hst)
    clear hfin hst sA s79 hz9 hlow hl7 hH hm9 hw9 ho7 hs7 HS7 HS9 HH HD HK HSC HMC c0 c1
    go_simp
    go_wp2_with fail
    go_ret
    exact ⟨_, _, _, rfl, HF.out.1, HF.out.2⟩
theorem copy_hs {w : World} {base hb : Nat} {s : List It} {F : List Nat} (h : Hs w base hb s F) : Calls Try.prog 25 #[.pointer (some ⟨hb, 0, none⟩)] w fun e w' =>
    ∃ hb' F', e = .returned (.pointer (some ⟨hb', 0, none⟩)) ∧ Hs w' w.heap.size hb' s F' ∧ Step [] w w' := by
  obtain ⟨lv, mb, l, f, rfl, h1, h2, h3, h4⟩ := h
  refine (copy_any _ _ _ _ _ _ _ h1).mono ?_
  rintro e w' ⟨hb', mb', lv', rfl, hR, hs⟩
  exact ⟨_, _, rfl, ⟨_, _, _, _, rfl, hR, h2, h3, h4⟩, hs⟩
end HpE
end Go.Proofs.Ytebgojcecgimaaa
