/- heaps as rows in order. No program in sight. -/
import Derived.Test.YtebgojcecgimaaaHpO
namespace Go.Proofs.Ytebgojcecgimaaa
set_option linter.unusedVariables false
set_option linter.unusedSectionVars false
namespace Hp
section
variable {κ : Type} [Inhabited (κ × Int)] [DecidableEq κ] {lt : κ × Int → κ × Int → Bool} {l s : List (κ × Int)}
def wok (k : κ) (s : List (κ × Int)) : List (κ × Int) := wo (key := fun x : κ × Int => x.1) k s
theorem mem_wok {k : κ} {x : κ × Int} : x ∈ wok k s ↔ x ∈ s ∧ x.1 ≠ k := mem_wo (key := fun x : κ × Int => x.1)
theorem wok_perm (k : κ) (h : l.Perm s) : (wok k l).Perm (wok k s) := by
  unfold wok wo
  exact h.filter _
theorem wok_srt (k : κ) (h : Srt lt s) : Srt lt (wok k s) := by
  unfold wok wo
  exact List.Pairwise.filter _ h
theorem ins_wok (o : Ord lt) (k : κ) (r : Int) (h : Srt lt s) : Srt lt (ins lt (k, r) (wok k s)) :=
  ins_srt o _ _ (wok_srt k h) (fun hm => (mem_wok.1 hm).2 rfl)
theorem head_min (o : Ord lt) {x : κ × Int} {r : List (κ × Int)} (h : OK lt l) (hp : l.Perm (x :: r)) (hs : Srt lt (x :: r)) : nth l 0 = x := by
  have hl : 0 < l.length := by rw [hp.length_eq]; simp
  have h1 : nth l 0 ∈ x :: r := hp.mem_iff.1 (nth_mem l 0 hl)
  obtain ⟨i, hi, hx⟩ := mem_nth (hp.mem_iff.2 (List.mem_cons_self (a := x) (l := r)))
  have h2 := ok_min o l h i hi
  rw [hx] at h2
  rcases List.mem_cons.1 h1 with h3 | h3
  · exact h3
  · have h4 := (List.pairwise_cons.1 hs).1 _ h3
    rw [h2] at h4
    cases h4
theorem wok_head {x : κ × Int} {r : List (κ × Int)} (h : ((x :: r).map (fun y => y.1)).Nodup) : wok x.1 (x :: r) = r := by
  have h1 : ∀ a, a ∈ r → a.1 ≠ x.1 := by
    intro a ha e
    rw [List.map_cons, List.nodup_cons] at h
    exact h.1 (by rw [← e]; exact List.mem_map_of_mem ha)
  have h2 := wo_none (key := fun y : κ × Int => y.1) x.1 r h1
  unfold wok wo
  rw [List.filter_cons, if_neg (by simp)]
  exact h2
theorem ins_len (x : κ × Int) : ∀ s : List (κ × Int), (ins lt x s).length = s.length + 1
  | [] => rfl
  | y :: r => by
    unfold ins
    split
    · rfl
    · rw [List.length_cons, ins_len x r, List.length_cons]
theorem wok_len (k : κ) (s : List (κ × Int)) : (wok k s).length ≤ s.length := by
  unfold wok wo
  exact List.length_filter_le _ _
theorem mem_ins {x y : κ × Int} : y ∈ ins lt x s ↔ y = x ∨ y ∈ s := by
  rw [(ins_perm x s).mem_iff, List.mem_cons]
end
end Hp
end Go.Proofs.Ytebgojcecgimaaa
