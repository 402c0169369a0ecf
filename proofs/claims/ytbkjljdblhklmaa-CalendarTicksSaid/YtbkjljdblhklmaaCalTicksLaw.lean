/- CalendarTicks: the law, whatever the moment. -/
import Derived.Test.YtbkjljdblhklmaaCalTicksA
import Derived.Test.YtbkjljdblhklmaaCalTicksB
import Derived.Test.YtbkjljdblhklmaaCalTicksC
namespace Go.Proofs.Ytbkjljdblhklmaa
set_option linter.unusedVariables false
open Go.RowKit

theorem num_upper (Y M D : Int) (hY : 0 ≤ Y ∧ Y ≤ 3000000) (hM : 1 ≤ M ∧ M ≤ 12) (hD : 1 ≤ D ∧ D ≤ 31) : -400 ≤ num Y M D ∧ num Y M D ≤ 2000000000 := by
  simp [num, sm, sy]
  split <;> omega

theorem num_2000 (Y M D : Int) (hY : 2000 ≤ Y) (hM : 1 ≤ M ∧ M ≤ 12) (hD : 1 ≤ D) : 730425 ≤ num Y M D := by
  have h1 := num_start 0
  have h2 : num 2000 1 1 = 730425 := by simpa using h1
  have hs := @sy_mono 0 ((Y - 1) % 400) (by omega)
  have hs' := @sy_mono 0 (Y % 400) (by omega)
  have h0 : sy 0 = 0 := rfl
  have e1 : (Y - 1) / 400 = 4 → (Y - 1) % 400 = Y - 1601 := by omega
  have h399 : sy 399 = 145731 := rfl
  simp only [num]
  by_cases h : M ≤ 2
  · rw [if_pos h, if_pos h]
    unfold sm
    by_cases h5 : (Y - 1) / 400 = 4
    · have := @sy_mono 399 ((Y - 1) % 400) (by omega)
      omega
    · omega
  · rw [if_neg h, if_neg h]
    unfold sm
    omega

theorem ticks_any (Y M D W H I : Int) (w : World) :
    Calls Try.prog 7 #[inV Y M D W H I] w fun e w' => e = .returned (.bool true) ∧ Below w.heap.size w w' := by
  rcases good_or Y M D H I with hb | hg
  · have hT := fun wx => tick_bad Y M D W H I wx hb
    by_cases h : BadA M D
    · exact ticks_badA Y M D W H I w h hT
    · unfold BadA at h
      refine ticks_badB Y M D W H I w (by omega) (by omega) (by omega) ?_ hT
      unfold Bad at hb
      unfold BadB
      omega
  · have hg' := hg
    unfold Good at hg'
    have hlen := len_pos Y M ⟨hg'.1, hg'.2.1⟩
    by_cases hy : Y < 2000
    · exact ticks_good Y M D W H I 0 3 w hg (fun wx => tick_range Y M D W H I wx hg (.inl hy)) (.inl ⟨.inl hy, rfl, rfl⟩)
    · by_cases hy' : 3000000 < Y
      · exact ticks_good Y M D W H I 0 3 w hg (fun wx => tick_range Y M D W H I wx hg (.inr ⟨hy, hy'⟩)) (.inl ⟨.inr ⟨hy, (lateB_iff Y M D H I).2 (.inl (by omega))⟩, rfl, rfl⟩)
      · have hu := num_upper Y M D ⟨by omega, by omega⟩ ⟨hg'.1, hg'.2.1⟩ ⟨by omega, by omega⟩
        have hl := num_2000 Y M D (by omega) ⟨hg'.1, hg'.2.1⟩ (by omega)
        by_cases ht : 1099511627776 < tickOf Y M D H I
        · exact ticks_good Y M D W H I 0 3 w hg (fun wx => tick_late Y M D W H I wx hg hy hy' ⟨by omega, hu.2⟩ (by omega) ht) (.inl ⟨.inr ⟨hy, (late_iff Y M D H I hg).2 ht⟩, rfl, rfl⟩)
        · refine ticks_good Y M D W H I (tickOf Y M D H I) 0 w hg (fun wx => tick_ok Y M D W H I wx hg hy hy' ⟨by omega, hu.2⟩ (by omega) ht) (.inr ⟨hy, ?_, rfl, rfl, ?_, by omega⟩)
          · cases hl' : lateB Y M D H I
            · rfl
            · exact absurd ((late_iff Y M D H I hg).1 hl') ht
          · unfold tickOf; omega
end Go.Proofs.Ytbkjljdblhklmaa
