/- ReadyNone, but for the chapter's example. -/
import Derived.Test.YtebgojcecgimaaaRdyN
namespace Go.Proofs.Ytebgojcecgimaaa
set_option linter.unusedVariables false
open Go.RowKit Go.Shelf
namespace Rd
set_option maxRecDepth 20000 in
set_option maxHeartbeats 2000000 in
theorem none_any (hlv : ∀ W, Calls Try.prog 6 #[] W fun e w' => e = .returned (.bool true) ∧ Step [] W w') (k : ByteArray) (p : Int) (w : World) :
    Calls Try.prog 5 #[.string k, .int .i64 p] w fun e w' => e = .returned (.bool true) ∧ Step [] w w' := by
  have HL := Lib.hid hlv
  have hb := Blk.new w #[.bool false] 4
  have HS0 := Lib.hid ((Step.refl [] w).alloc (.cells #[.bool false] 4))
  obtain ⟨W0, hW0⟩ : ∃ W0, w.alloc (.cells #[.bool false] 4) = W0 := ⟨_, rfl⟩
  rw [hW0] at hb HS0
  have HW0 := Lib.hid hW0
  have HB := Lib.hid hb
  clear hlv hb hW0
  refine calls_of_wp_marks Try.func5 rfl ?_
  simp only [Try.ntmps5, List.size_toArray, List.length_cons, List.length_nil, Nat.reduceAdd, Nat.reduceSub, Array.replicate_succ, Array.replicate_zero, List.push_toArray, List.append_toArray, List.nil_append, List.cons_append]
  go_wp2_with (rw [HW0.out])
  refine (HL.out _).mono ?_
  rintro e w1 ⟨rfl, h1⟩
  have HS1 := Lib.hid (HS0.out.then h1 (by simp))
  have HB1 := Lib.hid (HB.out.step h1 (by simp))
  clear h1
  go_wp2_with fail
  refine (next_nil _).mono ?_
  rintro e w2 ⟨rfl, h2⟩
  have HS2 := Lib.hid (HS1.out.then h2 (by simp))
  have HB2 := Lib.hid (HB1.out.step h2 (by simp))
  clear h2
  go_wp2_with fail
  refine (take_nil _).mono ?_
  rintro e w3 ⟨rfl, h3⟩
  have HS3 := Lib.hid (HS2.out.then h3 (by simp))
  have HB3 := Lib.hid (HB2.out.step h3 (by simp))
  clear h3
  go_wp2_with fail
  refine (all_box _ _).mono ?_
  rintro e w4 ⟨rfl, hw4⟩
  have hc := (Blk.new w3 #[.pointer none] 24).cell 0
  rw [show (#[Value.pointer none] : Array Value)[0]? = some (.pointer none) from rfl] at hc
  have h4 : Step [] w3 w4 := by rw [hw4]; exact (Step.refl [] w3).alloc _
  have hsz : w4.heap.size = w3.heap.size + 1 := by rw [hw4, World.size_alloc]
  rw [← hw4] at hc
  have HS4 := Lib.hid (HS3.out.then h4 (by simp))
  have HB4 := Lib.hid (HB3.out.step h4 (by simp))
  clear hw4 h4
  go_wp2_with fail
  refine wp_range_nil (gf := 26) (lb := #[.pointer (some ⟨w3.heap.size, 0, none⟩)]) rfl (enters_of Try.func26 (by kernel_rfl) rfl) ?_ ?_
  · intro l W hW
    exact all1_nil l _ W ((hW.cell (by omega) (by simp)).trans hc)
  · intro D W hD hW hK
    have HK := Lib.hid (And.intro hK (And.intro hD hW))
    have HB5 := Lib.hid (HB4.out.step hW (by simp))
    have f0 := HB5.out.cell 0
    have g0 := HB5.out.free 0
    simp only [List.getElem?_toArray, List.getElem?_cons_zero] at f0
    clear hK hD hW hc hsz
    go_wp2_with (first
      | (go_at_call 9; refine (put_nil _ _ _ _).mono ?_; rintro e w7 ⟨rfl, rfl⟩)
      | (go_at_call 14; refine (cut_nil _ _).mono ?_; rintro e w7 ⟨rfl, rfl⟩)
      | (go_at_call 13; refine (has_nil _ _).mono ?_; rintro e w7 ⟨rfl, rfl⟩)
      | (go_at_call 19; refine (len_nil _ _).mono ?_; rintro e w7 ⟨rfl, rfl⟩)
      | (go_at_call 16; refine (copy_nil _).mono ?_; rintro e w7 ⟨rfl, rfl⟩))
    have m0 : Blk (W.setCell ⟨w.heap.size, 0, none⟩ (.bool true)) w.heap.size #[.bool true] 4 := HB5.out.set 0 _
    have s1 : Step [w.heap.size] W (W.setCell ⟨w.heap.size, 0, none⟩ (.bool true)) := (Step.refl _ W).setCell (.inl (by simp)) 0 _
    have hDW : D < W.heap.size := (Array.getElem?_eq_some_iff.1 HK.out.1).1
    have hD2 := HK.out.2.1
    have hlt := HB4.out.lt
    have hK' : (W.setCell ⟨w.heap.size, 0, none⟩ (.bool true)).heap[D]? = some (.deferred (some [])) := (s1.block D hDW (fun hm => by
      simp only [List.mem_cons, List.not_mem_nil, or_false] at hm
      omega)).trans HK.out.1
    refine ⟨by simp, .inl ⟨_, _, rfl, run_takeDeferred hK', ?_⟩⟩
    have s2 := step_put (W := (W.setCell ⟨w.heap.size, 0, none⟩ (.bool true))) (l := D) (.deferred none)
    have v0 := (m0.step s2 (by simp; omega)).cell 0
    simp only [List.getElem?_toArray, List.getElem?_cons_zero] at v0
    have hsz2 := HS4.out.size
    have hst : Step [] w ((W.setCell ⟨w.heap.size, 0, none⟩ (.bool true)).putObj D (.deferred none)) := ((HS4.out.then HK.out.2.2 (by simp)).then s1 (fun k hk => .inr (by
      simp only [List.mem_cons, List.not_mem_nil, or_false] at hk
      omega))).then s2 (fun k hk => .inr (by
      simp only [List.mem_cons, List.not_mem_nil, or_false] at hk
      omega))
    refine ⟨.bool true, ?_, rfl, hst⟩
    generalize (W.setCell ⟨w.heap.size, 0, none⟩ (.bool true)).putObj D (.deferred none) = V at v0
    simp [results, Try.f5, go_sem, v0]
end Rd
end Go.Proofs.Ytebgojcecgimaaa
