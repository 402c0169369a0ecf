/- heap E (string, uint64): Rank. -/
import Derived.Test.YtebgojcecgimaaaHpJE
namespace Go.Proofs.Ytebgojcecgimaaa
set_option linter.unusedVariables false
set_option linter.unusedSimpArgs false
open Go.RowKit
namespace HpE
def RankPost (s : List It) (k : ByteArray) (w : World) (e : Ending) (w' : World) : Prop :=
  w = w' ∧ ((∃ r : Int, (k, r) ∈ s ∧ e = .returned (.tuple #[.int .u64 (r), .bool true])) ∨ ((∀ x ∈ s, x.1 ≠ k) ∧ e = .returned (.tuple #[.int .u64 (0), .bool false])))
set_option maxRecDepth 20000 in
set_option maxHeartbeats 1000000 in
theorem rank_hs {w : World} {base hb : Nat} {s : List It} {F : List Nat} (h : Hs w base hb s F) (k : ByteArray) (hg : HpE.good k) :
    Calls Try.prog 23 #[.pointer (some ⟨hb, 0, none⟩), .string (k)] w (RankPost s k w) := by
  obtain ⟨lv, mb, l, f, rfl, h1, h2, h3, h4⟩ := h
  have hlk := h1.map.run_ok (t := 68) Try.underlying68 (0 : Int) (zeroN w) k hg
  simp only [intEl, intKey, strKey] at hlk
  have c1 : w.cell? ⟨hb, 1, none⟩ = some (.map (some mb)) := h1.blk.cell 1
  cases hf : f k with
  | none =>
    rw [hf] at hlk
    simp only [Option.getD_none, Option.isSome_none] at hlk
    have HF := Lib.hid (show ∀ x ∈ s, x.1 ≠ k from fun x hx => h1.at'.none hf x (h3.mem_iff.2 hx))
    clear h1 h2 h3 h4 hf
    go_enter Try.func23, Try.ntmps23
    go_wp2_with fail
    go_ret2
    exact ⟨rfl, .inr ⟨HF.out, rfl⟩⟩
  | some i0 =>
    obtain ⟨i, hi, rfl, hki⟩ := h1.at'.2 k i0 hf
    dsimp only at hki
    obtain ⟨gb, cap, rfl⟩ := lv_some h1 (by omega)
    rw [hf] at hlk
    simp only [Option.getD_some, Option.isSome_some] at hlk
    obtain ⟨n, hn⟩ : ∃ n, l.length = n := ⟨_, rfl⟩
    have c0 : w.cell? ⟨hb, 0, none⟩ = some (.slice (some ⟨gb, 0, none⟩) n cap) := by rw [← hn]; exact h1.blk.cell 0
    have cr := (h1.cell i hi).2
    obtain ⟨r, hr⟩ : ∃ r, (Hp.nth l i).2 = r := ⟨_, rfl⟩
    rw [hr] at cr
    have HM := Lib.hid (show (k, r) ∈ s from by
      have h5 := Hp.nth_mem l i hi
      rw [show Hp.nth l i = (k, r) from Prod.ext hki hr] at h5
      exact h3.mem_iff.1 h5)
    rw [hn] at hi
    have p1 : (i : Int) < (n : Int) := by omega
    clear h1 h2 h3 h4 hf hki hn hr
    go_enter Try.func23, Try.ntmps23
    go_wp2_with fail
    go_ret2
    exact ⟨rfl, .inl ⟨r, HM.out, rfl⟩⟩
end HpE
end Go.Proofs.Ytebgojcecgimaaa
