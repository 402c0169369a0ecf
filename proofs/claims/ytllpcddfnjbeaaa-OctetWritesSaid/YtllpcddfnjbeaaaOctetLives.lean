/- the chapter's example. -/
import Derived.Test.YtllpcddfnjbeaaaOctetR
namespace Go.Proofs.Ytllpcddfnjbeaaa
set_option linter.unusedVariables false
open Go.RowKit

/-- a new writer -/
theorem Wr.new (w : World) : Wr (w.alloc (.cells #[.slice none 0 0] 27)) w.heap.size w.heap.size (.slice none 0 0) [] :=
  ⟨Blk.new _ _ _, World.ownsRow_nil _ _ _ _, Nat.le_refl _, fun hk => by cases hk⟩

theorem num300 : numB 300 = [172, 2] := by decide

/-- what Bytes and NewBytes leave: the row, whole -/
theorem NewBytes.slb {l : List UInt8} {w : World} {e : Ending} {w' : World} (h : NewBytes l w e w') :
    ∃ a cap, e = .returned (.slice a l.length cap) ∧ SlB w' a l cap ∧ (∀ b, blkOf a = some b → w.heap.size ≤ b ∧ b < w'.heap.size) ∧ Step [] w w' := by
  obtain ⟨v, he, hown, hst⟩ := h
  obtain ⟨a, cap, rfl, _, hsl, _, hbk⟩ := owns_slb hown
  exact ⟨a, cap, he, hsl, hbk, hst⟩

set_option maxHeartbeats 1000000 in
theorem lives_any (w : World) : Calls Try.prog 6 #[] w fun e w' => e = .returned (.bool true) ∧ Step [] w w' := by
  have HN := Lib.hid (num_any _ _ _ _ 300 _ (Wr.new w) (by decide) (by decide))
  rw [num300] at HN
  go_enter Try.func6, Try.ntmps6
  go_wp2_with fail
  refine HN.out.mono ?_
  rintro e w1 ⟨rfl, v', hW, hst, hfr⟩
  have HW := Lib.hid hW
  have HS := Lib.hid hst
  clear hW hst hfr HN
  go_wp2_with fail
  refine (wbytes_any _ _ _ _ w1 HW.out (by decide)).mono ?_
  rintro e w2 hb
  obtain ⟨a, cap, rfl, hsl, -, hst2⟩ := hb.slb
  have HT := Lib.hid hst2
  have hconv := hsl.str (P := Try.prog) 25 9 5 Try.underlying25 Try.underlying5 Try.underlying9
  simp at hconv
  clear hsl hst2 hb
  go_wp2_with fail
  go_ret
  refine ⟨rfl, ?_⟩
  refine (((Step.refl [] w).alloc _).then HS.out fun k hk => ?_).then HT.out (fun k hk => by cases hk)
  simp [foot, Value.ownBlock] at hk
  exact .inr (by omega)

theorem Wr.new_blocks {w : World} {base pb : Nat} {v : Value} {bs : List UInt8} (h : Wr w base pb v bs) {G : List Nat} {B : Nat} (hB : B ≤ base) : ∀ k, k ∈ pb :: foot v → k ∈ G ∨ B ≤ k := fun k hk => by
  rcases List.mem_cons.1 hk with rfl | hk
  · exact .inr (Nat.le_trans hB h.low)
  · exact .inr (Nat.le_trans hB (owns_base h.own k hk))
end Go.Proofs.Ytllpcddfnjbeaaa
