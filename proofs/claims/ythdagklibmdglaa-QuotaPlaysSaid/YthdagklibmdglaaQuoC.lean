/- quota.Ledger: a copy, apart. -/
import Derived.Test.YthdagklibmdglaaQuoP
import Derived.Deep.RegionHeld3
namespace Go.Proofs.Ythdagklibmdglaa
set_option linter.unusedVariables false
set_option linter.unusedSimpArgs false
open Go.RowKit Go.Maps
theorem qclone_any (mb n : Nat) (f : ByteArray → Option Int) (w : World) (h : MapF (strKey Try.underlying9) elN w mb n f) :
    Calls Try.prog 18 #[.map (some mb)] w fun e w' => e = .returned (.map (some w.heap.size)) ∧ MapF (strKey Try.underlying9) elN w' w.heap.size n f ∧ ∃ o, w' = w.alloc o := by
  obtain ⟨D, hown, hs⟩ := h
  obtain ⟨es, clock, hb, F, hn, hD⟩ := hown
  have hq := fun w => run_eql_map_nil_sl (P := Try.prog) w 34 _ _ (some mb) Try.underlying34
  simp only [Option.isNone_some] at hq
  have HF := Lib.hid (And.intro F (And.intro hn (And.intro hD hs)))
  clear F hn hD hs
  go_enter Try.func18, Try.ntmps18
  go_wp2
  rw [run_callFunc_extern Try.func22 (by kernel_rfl) (by kernel_rfl) (by kernel_rfl) (e := Extern.MapsClone.clone) (by kernel_rfl), run_maps_clone_sl w 34 hb]
  simp only [Result.andThen]
  rw [Oper.upon_value]
  go_wp2
  rw [run_typeAssert_map_sl _ 34 _ _ _ _ Try.underlying34]
  simp only [Result.andThen]
  rw [Oper.upon_value]
  go_wp2
  go_ret
  obtain ⟨F, hn, hD, hs⟩ := HF.out
  exact ⟨rfl, ⟨D, ⟨es, clock, (MapKept.heap_alloc w _).1, F, hn, hD⟩, hs⟩, _, rfl⟩
def CopyP (n : Nat) (each : Int) (f g : ByteArray → Option Int) (w : World) (e : Ending) (w' : World) : Prop :=
  ∃ tc hc mc, e = .returned (.pointer (some ⟨tc, 0, none⟩)) ∧ Lg w' tc hc mc n each f g ∧ Step [] w w' ∧ w.heap.size ≤ tc ∧ w.heap.size ≤ hc ∧ w.heap.size ≤ mc
set_option maxRecDepth 20000 in
set_option maxHeartbeats 2000000 in
theorem lcopy_any (tb hb mb n : Nat) (each : Int) (f g : ByteArray → Option Int) (w : World) (h : Lg w tb hb mb n each f g) :
    Calls Try.prog 14 #[.pointer (some ⟨tb, 0, none⟩)] w (CopyP n each f g w) := by
  have c0 := h.cell0
  have c1 := h.cell1
  have c2 := h.cell2
  have HK := Lib.hid (fun (W : World) (hs : Step [] w W) => (show W.cell? ⟨tb, 0, none⟩ = some (.int .i64 each) ∧ W.cell? ⟨tb, 1, none⟩ = some (.map (some hb)) ∧ W.cell? ⟨tb, 2, none⟩ = some (.map (some mb)) from ⟨(h.step0 hs).cell0, (h.step0 hs).cell1, (h.step0 hs).cell2⟩))
  have HCH := Lib.hid (fun (W : World) (hs : Step [] w W) => qclone_any hb n f W (h.step0 hs).has)
  have HCM := Lib.hid (fun (W : World) (hs : Step [] w W) => qclone_any mb n g W (h.step0 hs).most)
  have HD := Lib.hid ((Step.refl [] w).drew)
  clear h
  go_enter Try.func14, Try.ntmps14
  go_wp2_with fail
  have hD0 := HD.out
  go_region_held3 (fun w' => w'.cell? ⟨tb, 0, none⟩ = some (.int .i64 each) ∧ w'.cell? ⟨tb, 1, none⟩ = some (.map (some hb)) ∧ w'.cell? ⟨tb, 2, none⟩ = some (.map (some mb))) (first | exact HK.out _ (HM9.out.alloc _) | exact HK.out _ HM9.out | exact HK.out _ HM7.out | exact HK.out _ HD.out) ((first
         | (go_at_call 18
            refine (HCM.out _ HM7.out).mono ?_
            rintro e9 w9 ⟨rfl, hm9, o9, hw9⟩
            have HM9 := Lib.hid (show Step [] w w9 from by rw [hw9]; exact HM7.out.alloc _)
            have HS9 := Lib.hid (And.intro hm9 hw9)
            clear hm9 hw9)
         | (go_at_call 18
            refine (HCH.out _ HD.out).mono ?_
            rintro e7 w7 ⟨rfl, hm7, o7, hw7⟩
            have HM7 := Lib.hid (show Step [] w w7 from by rw [hw7]; exact HD.out.alloc _)
            have HS7 := Lib.hid (And.intro hm7 hw7)
            clear hm7 hw7)))
  all_goals
    obtain ⟨hm7, hw7⟩ := HS7.out
    obtain ⟨hm9, hw9⟩ := HS9.out
    have z7 : w7.heap.size = w.heap.size + 1 := by rw [hw7]; exact World.size_alloc _ _
    have z9 : w9.heap.size = w7.heap.size + 1 := by rw [hw9]; exact World.size_alloc _ _
    have s79 : Step [] w7 w9 := by rw [hw9]; exact (Step.refl [] w7).alloc _
    have hz : w.drew.heap.size = w.heap.size := rfl
    have sA := (Step.refl [] w9).alloc (.cells #[.int .i64 each, .map (some w.heap.size), .map (some w7.heap.size)] 46)
    have hfin : Lg (w9.alloc (.cells #[.int .i64 each, .map (some w.heap.size), .map (some w7.heap.size)] 46)) w9.heap.size w.heap.size w7.heap.size n each f g :=
      ⟨Blk.new w9 _ _, (hm7.step s79 (by simp)).step sA (by simp), hm9.step sA (by simp), by omega, by omega, by omega⟩
    have hst : Step [] w (w9.alloc (.cells #[.int .i64 each, .map (some w.heap.size), .map (some w7.heap.size)] 46)) := HM9.out.alloc _
    have HF := Lib.hid (And.intro hfin (And.intro hst (And.intro (show w.heap.size ≤ w9.heap.size by omega) (show w.heap.size ≤ w7.heap.size by omega))))
    clear hfin hst sA s79 hm9 hw9 hm7 hw7 z7 z9 hz HS7 HS9 HD HK HCH HCM c0 c1 c2 hD0
    go_simp
    go_wp2_with fail
    go_ret
    exact ⟨_, _, _, rfl, HF.out.1, HF.out.2.1, HF.out.2.2.1, Nat.le_refl _, HF.out.2.2.2⟩
end Go.Proofs.Ythdagklibmdglaa
