/- how keys and ranks are ordered; cmp.Or. -/
import Derived.Test.YtebgojcecgimaaaHpQ
import Derived.Sort.Walk0
namespace Go.Proofs.Ytebgojcecgimaaa
set_option linter.unusedVariables false
open Go.RowKit
def ltInt (a b : Int) : Bool := decide (a < b)
def ltStr (a b : ByteArray) : Bool := Op.bytesLess a.toList b.toList
theorem list_set_self {α : Type} : ∀ (l : List α) (j : Nat) (a : α), l[j]? = some a → l.set j a = l
  | [], _, _, h => by simp at h
  | b :: r, 0, a, h => by simp at h; subst h; rfl
  | b :: r, j + 1, a, h => by simp at h; simp [list_set_self r j a h]
namespace Hp
theorem ordInt : Ord ltInt := ⟨fun a => by simp [ltInt], fun a b c h1 h2 => by simp [ltInt] at *; omega, fun a b h1 h2 => by simp [ltInt] at *; omega⟩
theorem ltStr_eq (a b : ByteArray) : ltStr a b = decide (a.data.toList < b.data.toList) := by
  unfold ltStr
  rw [bytesLess_eq, Lib.toList_data, Lib.toList_data]
theorem ordStr : Ord ltStr := by
  refine ⟨fun a => ?_, fun a b c h1 h2 => ?_, fun a b h1 h2 => ?_⟩
  · rw [ltStr_eq]
    simp [List.lt_irrefl]
  · rw [ltStr_eq] at *
    simp only [decide_eq_true_eq] at *
    exact List.lt_trans h1 h2
  · rw [ltStr_eq] at *
    simp only [decide_eq_false_iff_not] at *
    have h3 : a.data.toList = b.data.toList := List.le_antisymm (List.not_lt.1 h2) (List.not_lt.1 h1)
    apply ByteArray.ext
    exact Array.toList_inj.1 h3
def cmpL {α : Type} (lt : α → α → Bool) (a b : α) : Int := if lt a b = true then -1 else if lt b a = true then 1 else 0
theorem cmpS1 {a b : ByteArray} (h : Op.bytesLess a.toList b.toList = true) : cmpL ltStr a b = -1 := by
  unfold cmpL ltStr
  rw [if_pos h]
theorem cmpS2 {a b : ByteArray} (h : Op.bytesLess a.toList b.toList = false) (h2 : (!a.toList == b.toList) = true) : cmpL ltStr a b = 1 := by
  unfold cmpL ltStr
  rw [h, if_neg (by simp)]
  cases h6 : Op.bytesLess b.toList a.toList with
  | true => rfl
  | false =>
    have := ordStr.tot a b h h6
    subst this
    simp at h2
theorem cmpS3 {a b : ByteArray} (h : Op.bytesLess a.toList b.toList = false) (h2 : (!a.toList == b.toList) = false) : cmpL ltStr a b = 0 := by
  have h3 : a.toList = b.toList := by simpa using h2
  unfold cmpL ltStr
  rw [h3] at h ⊢
  rw [h]
  rfl
/-- by rank, then by key -/
def ltI {κ : Type} (kl : κ → κ → Bool) (a b : κ × Int) : Bool := decide (a.2 < b.2) || (decide (a.2 = b.2) && kl a.1 b.1)
theorem ordI {κ : Type} {kl : κ → κ → Bool} (o : Ord kl) : Ord (ltI kl) := by
  refine ⟨fun a => ?_, fun a b c h1 h2 => ?_, fun a b h1 h2 => ?_⟩
  · simp [ltI, o.irr]
  · simp only [ltI, Bool.or_eq_true, decide_eq_true_eq, Bool.and_eq_true] at *
    rcases h1 with h1 | ⟨h1, h3⟩ <;> rcases h2 with h2 | ⟨h2, h4⟩
    · left; omega
    · left; omega
    · left; omega
    · right; exact ⟨by omega, o.tr _ _ _ h3 h4⟩
  · simp only [ltI, Bool.or_eq_false_iff, decide_eq_false_iff_not, Bool.and_eq_false_imp, decide_eq_true_eq] at *
    obtain ⟨h1, h3⟩ := h1
    obtain ⟨h2, h4⟩ := h2
    have h5 : a.2 = b.2 := by omega
    exact Prod.ext (o.tot _ _ (h3 h5) (h4 h5.symm)) h5
theorem cmpI {κ : Type} (kl : κ → κ → Bool) (a b : κ × Int) : cmpL (ltI kl) a b = if cmpL ltInt a.2 b.2 ≠ 0 then cmpL ltInt a.2 b.2 else cmpL kl a.1 b.1 := by
  unfold cmpL ltI ltInt
  by_cases h1 : a.2 < b.2
  · simp [h1]
  · by_cases h2 : b.2 < a.2
    · have h3 : ¬ a.2 = b.2 := by omega
      simp [h1, h2, h3]
    · have h3 : a.2 = b.2 := by omega
      simp [h3]
theorem cmpL_neg {α : Type} (lt : α → α → Bool) (a b : α) : decide (cmpL lt a b < 0) = lt a b := by
  unfold cmpL
  cases lt a b with
  | true => rfl
  | false => cases lt b a <;> rfl
end Hp
end Go.Proofs.Ytebgojcecgimaaa
