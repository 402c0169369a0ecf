/- net: the walls' keys: two nodes in a struct. -/
import Derived.Test.YtminpglkipnhcaaMaps
import Derived.DeepKeys4
import Derived.ProofKit
namespace Go.Proofs.Ytminpglkipnhcaa
set_option linter.unusedVariables false
open Go.RowKit Go.Maps

/-- two nodes, as a key -/
structure PK where
  a : Int
  b : Int
  ha : (Lit.int .i64 a).wf = true
  hb : (Lit.int .i64 b).wf = true
theorem PK.eq {x y : PK} (h1 : x.a = y.a) (h2 : x.b = y.b) : x = y := by
  cases x
  cases y
  simp_all
instance : DecidableEq PK := fun x y => if h : x.a = y.a ∧ x.b = y.b then .isTrue (PK.eq h.1 h.2) else .isFalse (fun e => h (by rw [e]; exact ⟨rfl, rfl⟩))

theorem laidP : laidOutB Try.prog = true := by kernel_rfl
theorem rowP : 69 < Try.prog.types.size := of_decide_eq_true (by kernel_rfl)
theorem wideP : (match Try.prog.underlying 69 with | some (.array _ _) | some (.struct _) => true | _ => false) = true := by kernel_rfl
theorem law_pair : WideMaps.KeyLaw Try.prog 69 := deep_law_laid laidP (m := 2) (by omega) rowP (by kernel_rfl) wideP
theorem keyType_pair : Try.prog.keyType 69 = true := by kernel_rfl
theorem cells_pair : Try.prog.cellsOf 69 = 2 := by kernel_rfl
theorem cells_int : Try.prog.cellsOf 3 = 1 := by kernel_rfl

theorem keyLits_pair (D : Nat) (a b : Int) (ha : (Lit.int .i64 a).wf = true) (hb : (Lit.int .i64 b).wf = true) : Try.prog.keyLits (D + 2) 69 [.int .i64 a, .int .i64 b] = some [.int .i64 a, .int .i64 b] := by
  unfold Program.keyLits
  simp [Try.underlying69, cells_pair, cells_int, Program.keyLits, Try.underlying3, ha, hb]

theorem key_pair (x : PK) : keyOf Try.prog 69 (.agg #[.int .i64 x.a, .int .i64 x.b]) = some (.string (keyBytes [.int .i64 x.a, .int .i64 x.b])) := by
  have hf : (Value.agg #[.int .i64 x.a, .int .i64 x.b]).formed Try.prog 69 = true := by
    simp [Value.formed, Try.underlying69, cells_pair]
  have hl := keyLits_pair (Try.prog.types.size - 1) x.a x.b x.ha x.hb
  have hs : Try.prog.types.size - 1 + 2 = Try.prog.types.size + 1 := by
    have := rowP
    omega
  rw [hs] at hl
  simp only [keyOf, Try.underlying69, keyType_pair, hf, Bool.and_self, if_true, Value.cells]
  rw [hl]
  rfl

theorem inv_pair {u : Value} {l : Lit} (h : keyOf Try.prog 69 u = some l) : ∃ x : PK, u = .agg #[.int .i64 x.a, .int .i64 x.b] ∧ l = .string (keyBytes [.int .i64 x.a, .int .i64 x.b]) := by
  obtain ⟨xs, L, rfl, hL, rfl⟩ := keyOf_top wideP h
  have hL0 := hL
  unfold Program.keyLits at hL
  simp only [Try.underlying69, cells_pair] at hL
  split at hL
  · rename_i hc
    have hlen := hc.1
    obtain ⟨l2⟩ := xs
    match l2, hlen with
    | [u0, u1], _ =>
      simp [cells_int] at hL
      obtain ⟨L0, h0, hL⟩ := Option.bind_eq_some_iff.1 hL
      simp only [Function.comp, Option.map_eq_some_iff] at hL
      obtain ⟨X, hX, rfl⟩ := hL
      obtain ⟨Y, hY, hX⟩ := Option.bind_eq_some_iff.1 hX
      obtain ⟨L1, h1, hY⟩ := Option.bind_eq_some_iff.1 hY
      cases hY
      cases hX
      obtain ⟨a, ha, rfl⟩ := keyLits_int' Try.underlying3 h0
      obtain ⟨b, hb, rfl⟩ := keyLits_int' Try.underlying3 h1
      simp at ha hb
      subst ha
      subst hb
      have wf := keyLits_wf hL0
      exact ⟨⟨a, b, by have := wf (.int .i64 a) (by simp); simpa [Lit.keyWf] using this, by have := wf (.int .i64 b) (by simp); simpa [Lit.keyWf] using this⟩, rfl, rfl⟩
  · cases hL

def pairKey : KeyT Try.prog 69 PK where
  keyed := Keyed.of_law law_pair
  val := fun x => .agg #[.int .i64 x.a, .int .i64 x.b]
  lit := fun x => .string (keyBytes [.int .i64 x.a, .int .i64 x.b])
  good := fun _ => True
  inj := fun {x y} h => by
    have h1 := (Keyed.of_law law_pair).inj (key_pair x) ((key_pair y).trans (congrArg some h.symm))
    simp at h1
    exact PK.eq h1.1 h1.2
  key := fun {x} _ => key_pair x
  inv := fun h => by
    obtain ⟨x, h1, h2⟩ := inv_pair h
    exact ⟨x, trivial, h1, h2⟩
end Go.Proofs.Ytminpglkipnhcaa
