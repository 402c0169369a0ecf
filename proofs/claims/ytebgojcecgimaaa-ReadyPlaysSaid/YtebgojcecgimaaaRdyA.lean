/- Ready: a row is four heaps (names, orders) apart; Has. -/
import Derived.Test.YtebgojcecgimaaaHpRE
import Derived.Test.YtebgojcecgimaaaHpKE
import Derived.Test.YtebgojcecgimaaaHpNE
namespace Go.Proofs.Ytebgojcecgimaaa
set_option linter.unusedVariables false
open Go.RowKit
namespace Rd
abbrev It := HpE.It
/-- a row: its four lines are heaps apart from each other -/
structure Rw (w : World) (base rb : Nat) (hb : Nat → Nat) (S : Nat → List It) (F : Nat → List Nat) : Prop where
  blk : Blk w rb #[.pointer (some ⟨hb 0, 0, none⟩), .pointer (some ⟨hb 1, 0, none⟩), .pointer (some ⟨hb 2, 0, none⟩), .pointer (some ⟨hb 3, 0, none⟩)] 57
  hs : ∀ i, i < 4 → HpE.Hs w base (hb i) (S i) (F i)
  dj : ∀ i j, i < 4 → j < 4 → i ≠ j → ∀ k, k ∈ F i → k ∉ F j
  nb : ∀ i, i < 4 → rb ∉ F i
  low : base ≤ rb
def footR (rb : Nat) (F : Nat → List Nat) : List Nat := rb :: (F 0 ++ F 1 ++ F 2 ++ F 3)
theorem mem_footR {rb : Nat} {F : Nat → List Nat} {k : Nat} : k ∈ footR rb F ↔ k = rb ∨ ∃ i, i < 4 ∧ k ∈ F i := by
  unfold footR
  simp only [List.mem_cons, List.mem_append]
  constructor
  · rintro (h | ((h | h) | h) | h)
    · exact .inl h
    · exact .inr ⟨0, by omega, h⟩
    · exact .inr ⟨1, by omega, h⟩
    · exact .inr ⟨2, by omega, h⟩
    · exact .inr ⟨3, by omega, h⟩
  · rintro (h | ⟨i, hi, h⟩)
    · exact .inl h
    · rcases (by omega : i = 0 ∨ i = 1 ∨ i = 2 ∨ i = 3) with rfl | rfl | rfl | rfl
      · exact .inr (.inl (.inl (.inl h)))
      · exact .inr (.inl (.inl (.inr h)))
      · exact .inr (.inl (.inr h))
      · exact .inr (.inr h)
theorem Rw.step {w w' : World} {base rb : Nat} {hb : Nat → Nat} {S : Nat → List It} {F : Nat → List Nat} {G : List Nat} (h : Rw w base rb hb S F) (hs : Step G w w') (hn : ∀ k, k ∈ footR rb F → k ∉ G) : Rw w' base rb hb S F :=
  ⟨h.blk.step hs (hn rb (by simp [footR])), fun i hi => (h.hs i hi).step hs (fun k hk => hn k (mem_footR.2 (.inr ⟨i, hi, hk⟩))), h.dj, h.nb, h.low⟩
theorem Rw.step0 {w w' : World} {base rb : Nat} {hb : Nat → Nat} {S : Nat → List It} {F : Nat → List Nat} (h : Rw w base rb hb S F) (hs : Step [] w w') : Rw w' base rb hb S F := h.step hs (by simp)
theorem Rw.cells {w : World} {base rb : Nat} {hb : Nat → Nat} {S : Nat → List It} {F : Nat → List Nat} (h : Rw w base rb hb S F) :
    w.cell? ⟨rb, 0, none⟩ = some (.pointer (some ⟨hb 0, 0, none⟩)) ∧ w.cell? ⟨rb, 1, none⟩ = some (.pointer (some ⟨hb 1, 0, none⟩)) ∧ w.cell? ⟨rb, 2, none⟩ = some (.pointer (some ⟨hb 2, 0, none⟩)) ∧ w.cell? ⟨rb, 3, none⟩ = some (.pointer (some ⟨hb 3, 0, none⟩)) :=
  ⟨h.blk.cell 0, h.blk.cell 1, h.blk.cell 2, h.blk.cell 3⟩

theorem Try.idx0 (w : World) (a b c d : Option Addr) : (Instr.index 55 (.agg #[.pointer a, .pointer b, .pointer c, .pointer d]) (.int .i64 0)).run Try.prog w = .ok (.pointer a) w := by kernel_rfl
theorem Try.idx1 (w : World) (a b c d : Option Addr) : (Instr.index 55 (.agg #[.pointer a, .pointer b, .pointer c, .pointer d]) (.int .i64 1)).run Try.prog w = .ok (.pointer b) w := by kernel_rfl
theorem Try.idx2 (w : World) (a b c d : Option Addr) : (Instr.index 55 (.agg #[.pointer a, .pointer b, .pointer c, .pointer d]) (.int .i64 2)).run Try.prog w = .ok (.pointer c) w := by kernel_rfl
theorem Try.idx3 (w : World) (a b c d : Option Addr) : (Instr.index 55 (.agg #[.pointer a, .pointer b, .pointer c, .pointer d]) (.int .i64 3)).run Try.prog w = .ok (.pointer d) w := by kernel_rfl
attribute [local go_sem] Try.idx0 Try.idx1 Try.idx2 Try.idx3
/-- Rank, by whether it is there -/
theorem rank_has {w : World} {base hb : Nat} {s : List It} {F : List Nat} (h : HpE.Hs w base hb s F) (k : ByteArray) (hg : HpE.good k) :
    Calls Try.prog 23 #[.pointer (some ⟨hb, 0, none⟩), .string k] w fun e w' => ∃ r : Int, e = .returned (.tuple #[.int .u64 r, .bool (HpE.hasK s k)]) ∧ w = w' := by
  refine (HpE.rank_hs h k hg).mono ?_
  rintro e w' ⟨rfl, ⟨r, hm, rfl⟩ | ⟨hn, rfl⟩⟩
  · refine ⟨r, ?_, rfl⟩
    have : HpE.hasK s k = true := by
      unfold HpE.hasK
      rw [List.any_eq_true]
      exact ⟨_, hm, by simp⟩
    rw [this]
  · refine ⟨0, ?_, rfl⟩
    have : HpE.hasK s k = false := by
      unfold HpE.hasK
      rw [List.any_eq_false]
      intro x hx
      simpa using hn x hx
    rw [this]
def hasR (S : Nat → List It) (k : ByteArray) : Bool := HpE.hasK (S 0) k || HpE.hasK (S 1) k || HpE.hasK (S 2) k || HpE.hasK (S 3) k
theorem hasR_at {S : Nat → List It} {k : ByteArray} {i : Nat} (hi : i < 4) (h : HpE.hasK (S i) k = true) : hasR S k = true := by
  unfold hasR
  rcases (by omega : i = 0 ∨ i = 1 ∨ i = 2 ∨ i = 3) with rfl | rfl | rfl | rfl <;> rw [h] <;> simp
theorem hasR_no {S : Nat → List It} {k : ByteArray} (h : ∀ i, i < 4 → HpE.hasK (S i) k = false) : hasR S k = false := by
  unfold hasR
  rw [h 0 (by omega), h 1 (by omega), h 2 (by omega), h 3 (by omega)]
  rfl

theorem noMore {p : Nat → Bool} {j : Nat} (h : ∀ q, q < j → p q = false) (hj : p j = false) : ∀ q, q < j + 1 → p q = false := fun q hq => by
  rcases Nat.lt_or_ge q j with h1 | h1
  · exact h q h1
  · have e : q = j := by omega
    rw [e]
    exact hj
set_option maxRecDepth 20000 in
set_option maxHeartbeats 1000000 in
theorem has_any {w : World} {base rb : Nat} {hb : Nat → Nat} {S : Nat → List It} {F : Nat → List Nat} (h : Rw w base rb hb S F) (k : ByteArray) (hg : HpE.good k) :
    Calls Try.prog 13 #[.pointer (some ⟨rb, 0, none⟩), .string k] w fun e w' => e = .returned (.bool (hasR S k)) ∧ w = w' := by
  obtain ⟨c0, c1, c2, c3⟩ := h.cells
  have HR := Lib.hid (fun i (hi : i < 4) => rank_has (h.hs i hi) k hg)
  obtain ⟨r, hr⟩ : ∃ r, hasR S k = r := ⟨_, rfl⟩
  rw [hr]
  have HX := Lib.hid hr
  clear h hg hr
  go_enter Try.func13, Try.ntmps13
  go_wp2_with fail
  go_loop [15] (fun i => ∃ j : Nat, i = .int .i64 j ∧ j ≤ 4 ∧ ∀ q, q < j → HpE.hasK (S q) k = false) (fun i => 4 - (intOf i).toNat)
  case atStart => exact ⟨0, rfl, Nat.zero_le _, fun q hq => by omega⟩
  case round =>
    obtain ⟨j, rfl, hj, hf⟩ := hrel
    have HF := Lib.hid hf
    clear hf
    by_cases h4 : j < 4
    · have H := HR.out j h4
      obtain ⟨b, hbq⟩ : ∃ b, HpE.hasK (S j) k = b := ⟨_, rfl⟩
      rw [hbq] at H
      have HB := Lib.hid hbq
      have HC := Lib.hid H
      clear hbq H
      rcases (by omega : j = 0 ∨ j = 1 ∨ j = 2 ∨ j = 3) with rfl | rfl | rfl | rfl
      all_goals
        go_wp2_with fail
        refine HC.out.mono ?_
        rintro e w1 ⟨r1, rfl, rfl⟩
        cases b with
        | true =>
          have hrt : r = true := by rw [← HX.out]; exact hasR_at h4 HB.out
          subst hrt
          go_wp2_with fail
          go_ret
          exact ⟨rfl, rfl⟩
        | false =>
          go_wp2_with fail
          go_round
          case rel => first | exact ⟨1, rfl, by omega, noMore (p := fun q => HpE.hasK (S q) k) HF.out HB.out⟩ | exact ⟨2, rfl, by omega, noMore (p := fun q => HpE.hasK (S q) k) HF.out HB.out⟩ | exact ⟨3, rfl, by omega, noMore (p := fun q => HpE.hasK (S q) k) HF.out HB.out⟩ | exact ⟨4, rfl, by omega, noMore (p := fun q => HpE.hasK (S q) k) HF.out HB.out⟩
          case measure => simp [intOf]
    · have hj4 : j = 4 := by omega
      subst hj4
      have hrt : r = false := by rw [← HX.out]; exact hasR_no HF.out
      subst hrt
      go_wp2_with fail
      go_ret
      exact ⟨rfl, rfl⟩
end Rd
end Go.Proofs.Ytebgojcecgimaaa
