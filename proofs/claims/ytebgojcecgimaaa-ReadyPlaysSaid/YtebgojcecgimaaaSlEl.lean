/- maps whose elements are slices; a map's update as a run. No program in sight. -/
import Derived.Test.YtebgojcecgimaaaMaps
namespace Go.Proofs.Ytebgojcecgimaaa
set_option linter.unusedVariables false
open Go.RowKit Go.Maps

/-- a slice: where it begins, its length, its room -/
abbrev SL := Option (Nat × Nat) × Nat × Nat
def slV (s : SL) : Value := .slice (s.1.map fun p => ⟨p.1, p.2, none⟩) s.2.1 s.2.2
def slEl : ElT SL where
  val := slV
  rd := fun
    | .slice none n c => some (none, n, c)
    | .slice (some ⟨b, o, none⟩) n c => some (some (b, o), n, c)
    | _ => none
  enc := fun s => match s with
    | (none, n, c) => .agg [.lit (.int .u64 (n : Int)), .lit (.int .u64 (c : Int))]
    | (some (b, o), n, c) => .agg [.lit (.int .u64 (n : Int)), .lit (.int .u64 (c : Int)), .lit (.int .u64 (b : Int)), .lit (.int .u64 (o : Int))]
  rd_val := fun s => by
    obtain ⟨a, n, c⟩ := s
    cases a <;> rfl
  val_rd := fun {u v} h => by
    cases u with
    | slice a n c =>
      cases a with
      | none => simp at h; subst h; rfl
      | some ad =>
        obtain ⟨b, o, sp⟩ := ad
        cases sp with
        | none => simp at h; subst h; rfl
        | some _ => simp at h
    | _ => simp at h
  inj := fun {v v'} h => by
    obtain ⟨a, n, c⟩ := v
    obtain ⟨a', n', c'⟩ := v'
    cases a <;> cases a' <;> simp at h
    · obtain ⟨h1, h2⟩ := h
      have : n = n' := by omega
      have : c = c' := by omega
      subst n'; subst c'
      rfl
    · rename_i p p'
      obtain ⟨b, o⟩ := p
      obtain ⟨b', o'⟩ := p'
      simp at h
      obtain ⟨h1, h2, h3, h4⟩ := h
      have : n = n' := by omega
      have : c = c' := by omega
      have : b = b' := by omega
      have : o = o' := by omega
      subst n'; subst c'; subst b'; subst o'
      rfl

variable {P : Program} {k : TypeId} {κ V : Type} {K : KeyT P k κ} {E : ElT V} {w : World} {b n : Nat} {f : κ → Option V}
/-- m[k] = v, as a run -/
theorem MapF.put_run [DecidableEq κ] {t e : TypeId} (h : MapF K E w b n f) (ht : P.underlying t = some (.map k e)) (hn : n < maxLen) (y : κ) (hy : K.good y) (u : V) :
    ∃ w', (Instr.mapUpdate t (.map (some b)) (K.val y) (E.val u)).run P w = .ok () w' ∧ MapF K E w' b (n + 1) (upd f y (some u)) ∧ Step [b] w w' := by
  obtain ⟨D, hown, hs⟩ := h
  obtain ⟨w', hrun, r1, r2⟩ := hown.update K.keyed ht hn (K.key hy) (E.R_val u)
  exact ⟨w', hrun, ⟨_, r1, says_put hs hown.isMap y hy u⟩, by simpa using Step.of_grown r2⟩
end Go.Proofs.Ytebgojcecgimaaa
