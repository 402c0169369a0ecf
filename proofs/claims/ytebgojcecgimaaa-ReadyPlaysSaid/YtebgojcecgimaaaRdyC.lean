/- Ready: Cut. -/
import Derived.Test.YtebgojcecgimaaaRdyB
namespace Go.Proofs.Ytebgojcecgimaaa
set_option linter.unusedVariables false
open Go.RowKit
namespace Rd
attribute [local go_sem] Try.idx0 Try.idx1 Try.idx2 Try.idx3
theorem upd_self {α : Type} (f : Nat → α) (i : Nat) : upd f i (f i) = f := by
  funext j
  unfold upd
  split
  · rename_i h; rw [h]
  · rfl
theorem wok_none {k : ByteArray} {s : List It} (h : HpE.hasK s k = false) : Hp.wok k s = s := by
  unfold HpE.hasK at h
  rw [List.any_eq_false] at h
  unfold Hp.wok Hp.wo
  rw [List.filter_eq_self]
  intro x hx
  have := h x hx
  simpa using this
/-- Cut -/
def CutPost (base rb : Nat) (hb : Nat → Nat) (S : Nat → List It) (F : Nat → List Nat) (k : ByteArray) (w : World) (e : Ending) (w' : World) : Prop :=
  ∃ S' F', Rw w' base rb hb S' F' ∧ Step (footR rb F) w w' ∧ Fresh w (footR rb F) (footR rb F') ∧
    ((hasR S k = false ∧ e = .returned (.bool false) ∧ S' = S) ∨
     (∃ p, p < 4 ∧ HpE.hasK (S p) k = true ∧ (∀ q, q < p → HpE.hasK (S q) k = false) ∧ e = .returned (.bool true) ∧ S' = upd S p (Hp.wok k (S p))))
structure CutI (base rb : Nat) (hb : Nat → Nat) (S : Nat → List It) (F : Nat → List Nat) (k : ByteArray) (w wr : World) (j : Nat) : Prop where
  no : ∀ q, q < j → HpE.hasK (S q) k = false
  row : ∃ Fr, Rw wr base rb hb S Fr ∧ Step (footR rb F) w wr ∧ Fresh w (footR rb F) (footR rb Fr)
set_option maxRecDepth 20000 in
set_option maxHeartbeats 1000000 in
theorem cut_any {w : World} {base rb : Nat} {hb : Nat → Nat} {S : Nat → List It} {F : Nat → List Nat} (h : Rw w base rb hb S F) (k : ByteArray) (hg : HpE.good k) :
    Calls Try.prog 14 #[.pointer (some ⟨rb, 0, none⟩), .string k] w (CutPost base rb hb S F k w) := by
  obtain ⟨c0, c1, c2, c3⟩ := h.cells
  have HI := Lib.hid (show CutI base rb hb S F k w w 0 from ⟨fun q hq => by omega, F, h, Step.refl _ _, fun k hk => .inl hk⟩)
  have HG := Lib.hid (fun (wr : World) (j : Nat) (hj : j < 4) (hi : CutI base rb hb S F k w wr j) =>
    (show Calls Try.prog 24 #[.pointer (some ⟨hb j, 0, none⟩), .string k] wr fun e w' => (e = .returned (.bool true) ∧ CutPost base rb hb S F k w (.returned (.bool true)) w') ∨ (e = .returned (.bool false) ∧ CutI base rb hb S F k w w' (j + 1)) from by
      obtain ⟨hno, Fr, hr, hs, hf⟩ := hi
      refine (HpE.cut_hs (hr.hs j hj) k hg).mono ?_
      rintro e w' ⟨F', rfl, h', hs', hf'⟩
      have hup := hr.upd hj h' hs' hf'
      have hst : Step (footR rb F) w w' := hs.then hs' (fun q hq => hf q (foot_sub hj q hq))
      have hfr : Fresh w (footR rb F) (footR rb (upd Fr j F')) := fun q hq => by
        rcases fresh_upd (rb := rb) hj hf' q hq with h1 | h1
        · exact hf q h1
        · exact .inr (Nat.le_trans hs.size h1)
      cases hk : HpE.hasK (S j) k with
      | true => exact .inl ⟨rfl, _, _, hup, hst, hfr, .inr ⟨j, hj, hk, hno, rfl, rfl⟩⟩
      | false =>
        rw [wok_none hk, upd_self] at hup
        exact .inr ⟨rfl, noMore (p := fun q => HpE.hasK (S q) k) hno hk, _, hup, hst, hfr⟩))
  have HD := Lib.hid (fun (wr : World) (hi : CutI base rb hb S F k w wr 4) => (show CutPost base rb hb S F k w (.returned (.bool false)) wr from by
    obtain ⟨hno, Fr, hr, hs, hf⟩ := hi
    exact ⟨_, _, hr, hs, hf, .inl ⟨hasR_no hno, rfl, rfl⟩⟩))
  clear h hg
  go_enter Try.func14, Try.ntmps14
  go_wp2_with fail
  go_loopw [13] (fun i wr => ∃ j : Nat, i = .int .i64 j ∧ j ≤ 4 ∧ CutI base rb hb S F k w wr j) (fun i _ => 4 - (intOf i).toNat)
  case atStart => exact ⟨0, rfl, Nat.zero_le _, HI.out⟩
  case round =>
    obtain ⟨j, rfl, hj, hi⟩ := hrel
    by_cases h4 : j < 4
    · have HC := Lib.hid (HG.out wr j h4 hi)
      clear hi
      rcases (by omega : j = 0 ∨ j = 1 ∨ j = 2 ∨ j = 3) with rfl | rfl | rfl | rfl
      all_goals
        go_wp2_with fail
        refine HC.out.mono ?_
        rintro e w1 (⟨rfl, hq⟩ | ⟨rfl, hq⟩)
        · go_wp2_with fail
          go_ret
          exact hq
        · go_wp2_with fail
          go_roundw
          case rel => first | exact ⟨1, rfl, by omega, hq⟩ | exact ⟨2, rfl, by omega, hq⟩ | exact ⟨3, rfl, by omega, hq⟩ | exact ⟨4, rfl, by omega, hq⟩
          case measure => simp [intOf]
    · have hj4 : j = 4 := by omega
      subst hj4
      have HE := Lib.hid (HD.out wr hi)
      clear hi
      go_wp2_with fail
      go_ret
      exact HE.out
end Rd
end Go.Proofs.Ytebgojcecgimaaa
