/- clear(m) of a map of the call's own. No program in sight. -/
import Derived.Test.YtmfplcmncipojaaMaps
namespace Go.Proofs.Ytmfplcmncipojaa
set_option linter.unusedVariables false
open Go.RowKit Go.Maps
variable {P : Program} {k : TypeId} {κ V : Type} {K : KeyT P k κ} {E : ElT V} {w : World} {b n : Nat} {f : κ → Option V}

theorem MapF.clear_run {t e : TypeId} (h : MapF K E w b n f) (ht : P.underlying t = some (.map k e)) : ∃ w', (∀ ty, (Builtin.clear_ #[t] ty #[.map (some b)]).run P w = .ok (.tuple #[]) w') ∧ MapF K E w' b n (fun _ => none) ∧ Step [b] w w' := by
  obtain ⟨D, ⟨es, clock, hb, F, hs, hD⟩, hsy⟩ := h
  have hbk : ∀ c, c ≠ b → (w.heap.setIfInBounds b (.map #[] clock))[c]? = w.heap[c]? := fun c hc => (MapKept.heap_set hb).2 c hc
  have hlt : b < w.heap.size := (Array.getElem?_eq_some_iff.1 hb).1
  refine ⟨{ w with heap := w.heap.setIfInBounds b (.map #[] clock) }, ?_, ⟨.map [], ⟨#[], clock, by simp [hlt], ⟨by simp, MapKept.stamped_empty _, by simp⟩, Nat.zero_le _, rfl⟩, fun x hx => ⟨fun _ => rfl, fun v h => by cases h⟩⟩, ?_⟩
  · intro ty
    have h1 : (getObj b).run P w = .ok (.map es clock) w := MapKept.run_getObj_map hb
    have h2 : (setObj b (.map #[] clock)).run P w = .ok () { w with heap := w.heap.setIfInBounds b (.map #[] clock) } := MapKept.run_setObj_map _ hb
    simp [Builtin.clear_, run_underlying ht, h1, h2, Result.andThen]
  · refine ⟨rfl, rfl, rfl, by simp, fun c hc hn => hbk c (by simpa using hn)⟩

end Go.Proofs.Ytmfplcmncipojaa
