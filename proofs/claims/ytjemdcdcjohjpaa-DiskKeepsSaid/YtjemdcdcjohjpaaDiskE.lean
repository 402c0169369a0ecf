/- disk: Copy. -/
import Derived.Test.YtjemdcdcjohjpaaDiskD
import Derived.Deep.RegionHeld
namespace Go.Proofs.Ytjemdcdcjohjpaa
set_option linter.unusedVariables false
open Go.RowKit

theorem flatS_one (S : List (List UInt8)) : ∀ u ∈ flatS S, u.oneCell' = true := by
  intro u hu
  simp only [flatS, List.mem_flatMap] at hu
  obtain ⟨s, _, hs⟩ := hu
  exact byteVals_cell _ u hs
theorem flatW_one (W : List (Nat × List UInt8)) : ∀ u ∈ flatW W, u.oneCell' = true := by
  intro u hu
  simp only [flatW, List.mem_flatMap] at hu
  obtain ⟨s, _, hs⟩ := hu
  rcases List.mem_cons.1 hs with rfl | hs
  · rfl
  · exact byteVals_cell _ u hs
/-- the cells of an own row, in later worlds -/
theorem owns_read {w w' : World} {base e size n cap : Nat} {x : Addr} {xs : List Value} (h : w.ownsRow base e size (.slice (some x) n cap) n xs) (hs : Step [] w w') : ∀ j u, xs[j]? = some u → w'.cell? (x.add j) = some u := by
  have h2 := owns_step h hs (by simp)
  have hx : x = ⟨x.block, 0, none⟩ := by
    rcases h.2 with ⟨e1, _⟩ | ⟨g, c, cur, e1, _⟩
    · cases e1
    · simp only [Value.slice.injEq, Option.some.injEq] at e1
      rw [e1.1]
  rw [hx] at h2
  intro j u hu
  rw [hx, Addr.add_mid, Nat.zero_add]
  have hj : j < n * size := by
    rw [← h.1]
    rcases Nat.lt_or_ge j xs.length with h | h
    · exact h
    · rw [List.getElem?_eq_none h] at hu
      cases hu
  rw [World.ownsRow.cellAt h2 j hj]
  exact hu
theorem owns_shape {w : World} {base e size n : Nat} {v : Value} {xs : List Value} (h : w.ownsRow base e size v n xs) : ∃ ao cap, v = .slice ao n cap ∧ (ao = none → n = 0 ∧ cap = 0) := by
  rcases h.2 with ⟨e1, e2⟩ | ⟨g, c, cur, e1, -⟩
  · exact ⟨none, 0, by rw [e1, e2], fun _ => ⟨e2, rfl⟩⟩
  · exact ⟨_, c, e1, fun h => by cases h⟩

set_option maxRecDepth 20000 in
set_option maxHeartbeats 2000000 in
theorem copy_any (base db : Nat) (lv wv : Value) (S : List (List UInt8)) (W : List (Nat × List UInt8)) (d : Bool) (w : World) (h : Dsk w base db lv wv S W d) :
    Calls Try.prog 16 #[.pointer (some ⟨db, 0, none⟩)] w fun e w' => ∃ db2 lv2 wv2, e = .returned (.pointer (some ⟨db2, 0, none⟩)) ∧ Dsk w' w.heap.size db2 lv2 wv2 S W d ∧ Step [] w w' := by
  obtain ⟨la, lcap, rfl, hl0⟩ := owns_shape h.own1
  obtain ⟨wa, wcap, rfl, hw0⟩ := owns_shape h.own2
  have c0 : ∀ W', Step [] w W' → W'.cell? ⟨db, 0, none⟩ = some (.slice la S.length lcap) ∧ W'.cell? ⟨db, 1, none⟩ = some (.slice wa W.length wcap) ∧ W'.cell? ⟨db, 2, none⟩ = some (.bool d) := fun W' hs => by
    have hb := h.blk.step hs (by simp)
    exact ⟨hb.cell 0, hb.cell 1, hb.cell 2⟩
  have HK := Lib.hid c0
  have h1 := fun W' (hs : Step [] w W') => (clone_S la S.length lcap (flatS S) W' hl0 h.own1.1 (by have := h.few; omega) (flatS_one S) (fun w' x hx hs2 => by subst hx; exact owns_read h.own1 (hs.then hs2 (by simp)))).mono (R' := fun e w' => ∃ a c, e = .returned (.slice a S.length c) ∧ w'.ownsRow w.heap.size 55 64 (.slice a S.length c) S.length (flatS S) ∧ Step [] w w' ∧ Step [] W' w' ∧ ∀ k, k ∈ foot (.slice a S.length c) → W'.heap.size ≤ k) (by
      rintro e w' ⟨v, rfl, ho, hs3⟩
      obtain ⟨a, c, rfl, -⟩ := owns_shape ho
      exact ⟨a, c, rfl, owns_low ho hs.size, hs.then hs3 (by simp), hs3, owns_base ho⟩)
  have h2 := fun W' (hs : Step [] w W') => (clone_W wa W.length wcap (flatW W) W' hw0 h.own2.1 (by have := h.few2; omega) (flatW_one W) (fun w' x hx hs2 => by subst hx; exact owns_read h.own2 (hs.then hs2 (by simp)))).mono (R' := fun e w' => ∃ a c, e = .returned (.slice a W.length c) ∧ w'.ownsRow w.heap.size 57 65 (.slice a W.length c) W.length (flatW W) ∧ Step [] w w' ∧ Step [] W' w' ∧ ∀ k, k ∈ foot (.slice a W.length c) → W'.heap.size ≤ k) (by
      rintro e w' ⟨v, rfl, ho, hs3⟩
      obtain ⟨a, c, rfl, -⟩ := owns_shape ho
      exact ⟨a, c, rfl, owns_low ho hs.size, hs.then hs3 (by simp), hs3, owns_base ho⟩)
  have H1 := Lib.hid h1
  have H2 := Lib.hid h2
  have HD := Lib.hid h
  clear h c0 h1 h2 hl0 hw0
  go_enter Try.func16, Try.ntmps16
  go_wp2_with fail
  go_region_held (fun w' => w'.cell? ⟨db, 0, none⟩ = some (.slice la S.length lcap) ∧ w'.cell? ⟨db, 1, none⟩ = some (.slice wa W.length wcap) ∧ w'.cell? ⟨db, 2, none⟩ = some (.bool d))
    (first | exact HK.out _ (Step.refl [] w).drew | exact HK.out _ hs8 | exact HK.out _ hs7 | exact HK.out _ (hs8.alloc _) | exact HK.out _ (hs7.alloc _))
    (first
      | (go_at_call 24; refine (H1.out _ (by first | exact (Step.refl [] w).drew | exact hs8)).mono ?_; rintro e7 w7 ⟨a7, k7, rfl, ho7, hs7, ht7, hb7⟩)
      | (go_at_call 25; refine (H2.out _ (by first | exact (Step.refl [] w).drew | exact hs7)).mono ?_; rintro e8 w8 ⟨a8, k8, rfl, ho8, hs8, ht8, hb8⟩))
  have hq := HD.out
  have ho7' := owns_step ho7 ht8 (by simp)
  have hst : Step [] w8 (w8.alloc (.cells #[.slice a7 S.length k7, .slice a8 W.length k8, .bool d] 53)) := (Step.refl [] w8).alloc _
  have hl7 := owns_live ho7'
  have hl8 := owns_live ho8
  have h7b := owns_live ho7
  have hdsk : Dsk (w8.alloc (.cells #[.slice a7 S.length k7, .slice a8 W.length k8, .bool d] 53)) w.heap.size w8.heap.size (.slice a7 S.length k7) (.slice a8 W.length k8) S W d :=
    ⟨Blk.new _ _ _, owns_step ho7' hst (by simp), owns_step ho8 hst (by simp), hq.len1, hq.len2, hs8.size, fun hm => by have := hl7 _ hm; omega, fun hm => by have := hl8 _ hm; omega, fun k h1 h2 => by have := hb8 k h2; have := h7b k h1; omega, hq.some1, hq.few, hq.few2⟩
  have HA := Lib.hid (And.intro hdsk (hs8.alloc (.cells #[.slice a7 S.length k7, .slice a8 W.length k8, .bool d] 53)))
  clear hq ho7' hst hl7 hl8 h7b hdsk
  go_wp2_with fail
  go_ret
  exact ⟨_, _, _, rfl, HA.out⟩
end Go.Proofs.Ytjemdcdcjohjpaa
