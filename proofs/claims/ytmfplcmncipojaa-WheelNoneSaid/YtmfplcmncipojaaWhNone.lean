/- The statement WheelNone. -/
import Derived.Test.YtmfplcmncipojaaWhL
import Derived.BigQuiet
namespace Go.Proofs.Ytmfplcmncipojaa
set_option linter.unusedVariables false
set_option linter.unusedSimpArgs false
open Go.RowKit Go.Shelf

set_option maxRecDepth 20000 in
set_option maxHeartbeats 1000000 in
theorem wheelNone_any (s : ByteArray) (n : Int) (w : World) : Calls Try.prog 6 #[.string s, .int .i64 n] w fun e w' => e = .returned (.bool true) ∧ Below w.heap.size w w' := by
  refine calls_of_wp_marks Try.func6 rfl ?_
  simp only [Try.ntmps6, List.size_toArray, List.length_cons, List.length_nil, Nat.reduceAdd, Nat.reduceSub, Array.replicate_succ, Array.replicate_zero, List.push_toArray, List.append_toArray, List.nil_append, List.cons_append]
  go_wp2_with fail
  refine (wlives_any _).mono ?_
  rintro e w1 ⟨rfl, hs⟩
  have HS := Lib.hid hs
  clear hs
  go_wp2_with (first
    | (go_at_call 11; refine (zturn_nil _ _).mono ?_; rintro e w7 ⟨rfl, rfl⟩)
    | (go_at_call 20; refine (zat_nil _ _).mono ?_; rintro e w7 ⟨rfl, rfl⟩))
  refine (znext_nil _).mono ?_
  rintro e w2 ⟨rfl, hb2⟩
  have HS2 := Lib.hid (HS.out.then (Step.of_below hb2 []) (by simp))
  clear hb2
  go_wp2_with fail
  refine (zall_any _ _).mono ?_
  rintro e w3 ⟨rfl, hw3⟩
  obtain ⟨w2b, X⟩ : ∃ x, x = w2.alloc (.cells #[.int .i64 0] 3) := ⟨_, rfl⟩
  have hA0 := Blk.new w2 #[.int .i64 0] 3
  rw [← X] at hA0 hw3
  have hsz : w2b.heap.size = w2.heap.size + 1 := by rw [X]; simp [World.size_alloc]
  have hS3 : Step [] w w2b := by rw [X]; exact HS2.out.alloc _
  have hc := (Blk.new w2b #[.pointer none] 25).cell 0
  rw [show (#[Value.pointer none] : Array Value)[0]? = some (.pointer none) from rfl] at hc
  rw [← hw3] at hc
  have hs3 : Step [] w2b w3 := by rw [hw3]; exact (Step.refl [] w2b).alloc _
  go_wp2_with fail
  refine wp_range_none (gf := 31) (lb := #[.pointer (some ⟨w2.heap.size + 1, 0, none⟩)]) rfl (enters_of Try.func31 (by kernel_rfl) rfl) ?_ ?_
  · intro l W hW
    rw [← X, ← hw3] at hW
    exact zall1_nil l _ W ((hW.cell (by rw [hw3, World.size_alloc]; omega) (by simp)).trans (hsz ▸ hc))
  · intro D W hD hW hK
    rw [← X, ← hw3] at hW hD
    have hA := (hA0.step hs3 (by simp)).step hW (by simp)
    have hac := hA.cell 0
    rw [show (#[Value.int .i64 0] : Array Value)[0]? = some (.int .i64 0) from rfl] at hac
    have hle := hs3.size
    have hle2 := HS2.out.size
    have hS : Step [] w W := (hS3.then hs3 (by simp)).then hW (by simp)
    have HS4 := Lib.hid hS
    clear hS hA hA0 hs3 hS3
    go_wp2_with fail
    go_quiet (first
      | (go_at_call 10; exact quiet_same (zadd_nil _ _ _))
      | (go_at_call 22; exact quiet_same (zcut_nil _ _))
      | (go_at_call 12; exact quiet_same (zlen_nil _))
      | (go_at_call 16; exact quiet_same (znow_nil _))
      | (go_at_call 13; exact quiet_same (zcopy_nil _)))
    go_wp2_with fail
    have hK' : (W.drewN nq).heap[D]? = some (.deferred (some [])) := hK
    have hle3 := HS4.out.size
    refine ⟨by simp, .inl ⟨_, _, rfl, run_takeDeferred hK', ?_⟩⟩
    refine ⟨.bool true, ?_, rfl, (Below.trans HS4.out.below' (⟨rfl, rfl, rfl, Nat.le_refl _, fun _ _ => rfl⟩ : Below w.heap.size W (W.drewN nq))).trans (belowK_b (w := w) (Nat.le_refl _) _ D _ _ (Nat.le_trans (by omega) hD) hK' rfl rfl)⟩
    simp [results, Try.f6, go_sem]
end Go.Proofs.Ytmfplcmncipojaa
