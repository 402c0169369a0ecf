/- HeapPlays: cut. -/
import Derived.Test.YtdbhldlgfchjpaaHpM
import Derived.Test.YtdbhldlgfchjpaaStepApp
import Derived.Deep.AppendLies
namespace Go.Proofs.Ytdbhldlgfchjpaa
set_option linter.unusedVariables false
open Go.RowKit HpB
attribute [local go_sem ↓] Go.wp_at_zero Go.wp_at_succ
theorem Try.infoP : (Try.prog.info? 44).map (fun i => (i.zero, i.size, i.bytes)) = some (some (.agg #[.int .u8 0, .int .i64 0]), 2, 16) := by kernel_rfl
theorem infoP_parts : ∃ i : TypeInfo, Try.prog.info? 44 = some i ∧ i.zero = some (.agg #[.int .u8 0, .int .i64 0]) ∧ i.size = 2 ∧ i.bytes = 16 := by
  have h1 := Try.infoP
  cases e : Try.prog.info? 44 with
  | none => rw [e] at h1; cases h1
  | some i =>
    rw [e] at h1
    simp at h1
    exact ⟨i, rfl, h1.1, h1.2.1, h1.2.2⟩
def CutR (m : List It) (i : Nat) (w : World) (e : Ending) (w' : World) : Prop :=
  ∃ v, e = .returned v ∧ Prs w' w.heap.size v (m.eraseIdx i) ∧ Step [] w w'
set_option maxRecDepth 20000 in
set_option maxHeartbeats 2000000 in
theorem cutm_any (base : Nat) (v : Value) (m : List It) (i : Nat) (w : World) (h : Prs w base v m) (hi : i < m.length) (hfew : m.length ≤ 100000) :
    Calls Try.prog 16 #[v, .int .i64 (i : Int)] w (CutR m i w) := by
  obtain ⟨g, cap, rfl⟩ := h.at0 (by omega)
  obtain ⟨i0, hi0, hz0, hz1, hz2⟩ := infoP_parts
  have hcap : m.length ≤ cap := by
    rcases h.2 with ⟨hv, _⟩ | ⟨g', cap', cur, hv, _, _, h1, _⟩
    · cases hv
    · cases hv
      exact h1
  have HH := Lib.hid h
  obtain ⟨n, hn⟩ : ∃ n, m.length = n := ⟨_, rfl⟩
  have HN := Lib.hid hn
  rw [hn] at hfew hi hcap ⊢
  have p1 : (i : Int) ≤ (cap : Int) := by omega
  have p2 : ((i : Int) + 1) ≤ (n : Int) := by omega
  have e1 : IntKind.i64.wrap ((i : Int) + 1) = (i : Int) + 1 := HpB.wrapI (by omega) (by omega)
  clear h hn
  go_enter Try.func16, Try.ntmps16
  go_wp2_with fail
  have hml : (flatI m).length = n * 2 := by rw [flat_len, HN.out]
  have HO := Lib.hid (show w.ownsRow base 44 2 (.slice (some ⟨g, 0, none⟩) n cap) n (flatI m) from by have := HH.out; unfold Prs at this; rw [HN.out] at this; exact this)
  have p3 : (0 : Int) ≤ (i : Int) + 1 := by omega
  by_cases hci : cap = i + 1
  · subst hci
    obtain rfl : n = i + 1 := by omega
    have p4 : (i : Int) ≤ (i : Int) + 1 := by omega
    go_region_law (first
      | (refine step_append_own rfl (.tmp 5) (.tmp 8) 37 rfl w.heap.size 44 i0 _ 2 16 Try.underlying37 hi0 hz0 hz1 hz2 rfl (by decide) _ 0 [] (by rfl) ((World.ownsRow_made w #[] 0 (Nat.le_refl _) (Nat.zero_le _) rfl).drew) ⟨g, 0, none⟩ i _ ((flatI m).take (i * 2)) (by rfl) ?h1 ?h2 ?h3 ?h4 ?h5 ?h6 ?_
         case h1 => rw [List.length_take, hml]; omega
         case h2 =>
           intro j u hu
           rw [List.getElem?_take] at hu
           split at hu
           · exact ((HO.out.alloc _).drew).cells rfl j u hu
           · cases hu
         case h3 => exact fun u hu => flat_one m u (List.mem_of_mem_take hu)
         case h4 => unfold maxLen; omega
         case h5 => omega
         case h6 => show w.heap.size ≤ (w.alloc _).heap.size; rw [World.size_alloc]; omega
         intro v3 w3 ho3 hs3 hf3
         have HO3 := Lib.hid (And.intro ho3 (And.intro hs3 hf3))
         clear ho3 hs3 hf3)
      | (refine step_append_own rfl (.tmp 9) (.tmp 13) 37 rfl w.heap.size 44 i0 _ 2 16 Try.underlying37 hi0 hz0 hz1 hz2 rfl (by decide) v3 i ((flatI m).take (i * 2)) (by rfl) ?h0 ⟨g, 0, none⟩ 0 0 ((flatI m).drop ((i + 1) * 2)) (by rfl) ?h1 ?h2 ?h3 ?h4 ?h5 ?h6 ?_
         case h0 => simpa using HO3.out.1
         case h1 => rw [List.length_drop, hml]; omega
         case h2 =>
           intro j u hu
           rw [List.drop_eq_nil_of_le (by rw [hml]; omega)] at hu
           cases hu
         case h3 => exact fun u hu => flat_one m u (List.mem_of_mem_drop hu)
         case h4 => unfold maxLen; omega
         case h5 => omega
         case h6 => exact Nat.le_trans (by rw [show (w.alloc (.cells #[] 44)).drew.heap.size = w.heap.size + 1 from World.size_alloc _ _]; omega) HO3.out.2.1.size
         intro v4 w4 ho4 hs4 hf4
         have HO4 := Lib.hid (And.intro ho4 (And.intro hs4 hf4))
         clear ho4 hs4 hf4))
    all_goals
      obtain ⟨ho3, hs3, hf3⟩ := HO3.out
      obtain ⟨ho4, hs4, hf4⟩ := HO4.out
      have hA : Step [] w (w.alloc (.cells #[] 44)).drew := ((Step.refl [] w).alloc _).drew
      have hfin : Prs w4 w.heap.size v4 (m.eraseIdx i) := by
        have e1 : i + 0 = (m.eraseIdx i).length := by rw [List.length_eraseIdx, HN.out, if_pos hi]; omega
        have e2 : (flatI m).take (i * 2) ++ (flatI m).drop ((i + 1) * 2) = flatI (m.eraseIdx i) := by
          rw [List.eraseIdx_eq_take_drop_succ, flat_app, flat_take m i (by have := HN.out; omega)]
          congr 1
          have h2 : flatI m = flatI (m.take (i + 1)) ++ flatI (m.drop (i + 1)) := by rw [← flat_app, List.take_append_drop]
          rw [h2]
          have h3 : (flatI (m.take (i + 1))).length = (i + 1) * 2 := by rw [flat_len, List.length_take]; have := HN.out; omega
          rw [← h3, List.drop_left]
        unfold Prs
        rw [← e1, ← e2]
        exact ho4
      have hb3 := owns_base ho3
      have h03 : ∀ k, k ∈ foot (.slice (some ⟨w.heap.size, 0, none⟩) 0 0) → w.heap.size ≤ k := by intro k hk; simp [foot, Value.ownBlock] at hk; omega
      have hst : Step [] w w4 := (hA.then hs3 (fun k hk => .inr (h03 k hk))).then hs4 (fun k hk => .inr (hb3 k hk))
      have HF := Lib.hid (And.intro hfin hst)
      clear hfin hst hb3 h03 hA ho3 hs3 hf3 ho4 hs4 hf4 HO3 HO4 HO HH
      go_simp
      go_wp2_with fail
      go_ret
      exact ⟨_, rfl, HF.out⟩
  · go_region_law (first
      | (refine step_append_own rfl (.tmp 5) (.tmp 8) 37 rfl w.heap.size 44 i0 _ 2 16 Try.underlying37 hi0 hz0 hz1 hz2 rfl (by decide) _ 0 [] (by rfl) ((World.ownsRow_made w #[] 0 (Nat.le_refl _) (Nat.zero_le _) rfl).drew) ⟨g, 0, none⟩ i _ ((flatI m).take (i * 2)) (by rfl) ?h1 ?h2 ?h3 ?h4 ?h5 ?h6 ?_
         case h1 => rw [List.length_take, hml]; omega
         case h2 =>
           intro j u hu
           rw [List.getElem?_take] at hu
           split at hu
           · exact ((HO.out.alloc _).drew).cells rfl j u hu
           · cases hu
         case h3 => exact fun u hu => flat_one m u (List.mem_of_mem_take hu)
         case h4 => unfold maxLen; omega
         case h5 => omega
         case h6 => show w.heap.size ≤ (w.alloc _).heap.size; rw [World.size_alloc]; omega
         intro v3 w3 ho3 hs3 hf3
         have HO3 := Lib.hid (And.intro ho3 (And.intro hs3 hf3))
         clear ho3 hs3 hf3)
      | (refine step_append_own rfl (.tmp 9) (.tmp 13) 37 rfl w.heap.size 44 i0 _ 2 16 Try.underlying37 hi0 hz0 hz1 hz2 rfl (by decide) v3 i ((flatI m).take (i * 2)) (by rfl) ?h0 ⟨g, (i + 1) * 2, none⟩ (n - (i + 1)) (cap - (i + 1)) ((flatI m).drop ((i + 1) * 2)) (by rfl) ?h1 ?h2 ?h3 ?h4 ?h5 ?h6 ?_
         case h0 => simpa using HO3.out.1
         case h1 => rw [List.length_drop, hml]; omega
         case h2 =>
           intro j u hu
           rw [List.getElem?_drop] at hu
           have h9 := (owns_step (owns_step HO.out (((Step.refl [] w).alloc (.cells #[] 44)).drew) (by simp)) HO3.out.2.1 (fun k hk hm => by
             have h5 := owns_live HO.out k hk
             simp [foot, Value.ownBlock] at hm
             omega)).cells rfl _ u hu
           rw [add_plain] at h9 ⊢
           rw [Nat.zero_add] at h9
           exact h9
         case h3 => exact fun u hu => flat_one m u (List.mem_of_mem_drop hu)
         case h4 => unfold maxLen; omega
         case h5 => omega
         case h6 => exact Nat.le_trans (by rw [show (w.alloc (.cells #[] 44)).drew.heap.size = w.heap.size + 1 from World.size_alloc _ _]; omega) HO3.out.2.1.size
         intro v4 w4 ho4 hs4 hf4
         have HO4 := Lib.hid (And.intro ho4 (And.intro hs4 hf4))
         clear ho4 hs4 hf4))
    all_goals
      obtain ⟨ho3, hs3, hf3⟩ := HO3.out
      obtain ⟨ho4, hs4, hf4⟩ := HO4.out
      have hA : Step [] w (w.alloc (.cells #[] 44)).drew := ((Step.refl [] w).alloc _).drew
      have hfin : Prs w4 w.heap.size v4 (m.eraseIdx i) := by
        have e1 : i + (n - (i + 1)) = (m.eraseIdx i).length := by rw [List.length_eraseIdx, HN.out, if_pos hi]; omega
        have e2 : (flatI m).take (i * 2) ++ (flatI m).drop ((i + 1) * 2) = flatI (m.eraseIdx i) := by
          rw [List.eraseIdx_eq_take_drop_succ, flat_app, flat_take m i (by have := HN.out; omega)]
          congr 1
          have h2 : flatI m = flatI (m.take (i + 1)) ++ flatI (m.drop (i + 1)) := by rw [← flat_app, List.take_append_drop]
          rw [h2]
          have h3 : (flatI (m.take (i + 1))).length = (i + 1) * 2 := by rw [flat_len, List.length_take]; have := HN.out; omega
          rw [← h3, List.drop_left]
        unfold Prs
        rw [← e1, ← e2]
        exact ho4
      have hb3 := owns_base ho3
      have h03 : ∀ k, k ∈ foot (.slice (some ⟨w.heap.size, 0, none⟩) 0 0) → w.heap.size ≤ k := by intro k hk; simp [foot, Value.ownBlock] at hk; omega
      have hst : Step [] w w4 := (hA.then hs3 (fun k hk => .inr (h03 k hk))).then hs4 (fun k hk => .inr (hb3 k hk))
      have HF := Lib.hid (And.intro hfin hst)
      clear hfin hst hb3 h03 hA ho3 hs3 hf3 ho4 hs4 hf4 HO3 HO4 HO HH
      go_simp
      go_wp2_with fail
      go_ret
      exact ⟨_, rfl, HF.out⟩
end Go.Proofs.Ytdbhldlgfchjpaa
