/- the chapter's example of heaps. -/
import Derived.Test.YtdbhldlgfchjpaaHpJD
namespace Go.Proofs.Ytdbhldlgfchjpaa
set_option linter.unusedVariables false
open Go.RowKit
def bA : ByteArray := ⟨#[97]⟩
def bB : ByteArray := ⟨#[98]⟩
def bC : ByteArray := ⟨#[99]⟩
theorem bab : ltStr bA bB = true := by rw [Hp.ltStr_eq]; decide
theorem bbc : ltStr bB bC = true := by rw [Hp.ltStr_eq]; decide
theorem put1 : Hp.ins HpD.lt (bB, 2) (Hp.wok bB []) = [(bB, 2)] := rfl
theorem put2 : Hp.ins HpD.lt (bA, 2) (Hp.wok bA [(bB, 2)]) = [(bA, 2), (bB, 2)] := by
  have h : Hp.wok bA [(bB, (2 : Int))] = [(bB, 2)] := by decide
  rw [h]
  simp [Hp.ins, HpD.lt, Hp.ltI, bab]
theorem put3 : Hp.ins HpD.lt (bC, 1) (Hp.wok bC [(bA, 2), (bB, 2)]) = [(bC, 1), (bA, 2), (bB, 2)] := by
  have h : Hp.wok bC [(bA, (2 : Int)), (bB, 2)] = [(bA, 2), (bB, 2)] := by decide
  rw [h]
  simp [Hp.ins, HpD.lt, Hp.ltI]
def sLen : Value → Nat
  | .string b => b.size
  | _ => 0
theorem good_lit (b : ByteArray) (h : b.size ≤ 40) : HpD.good b := by
  show b.size ≤ maxLen
  unfold maxLen
  omega
set_option maxHeartbeats 1000000 in
theorem lives_any (w : World) : Calls Try.prog 6 #[] w fun e w' => e = .returned (.bool true) ∧ Step [] w w' := by
  go_enter Try.func6, Try.ntmps6
  go_wp2_with fail
  refine (HpD.new_hs w).mono ?_
  rintro e w1 ⟨hb, F, rfl, h1, s1⟩
  have H1 := Lib.hid h1
  have S1 := Lib.hid s1
  clear h1 s1
  go_wp2_with fail
  refine (HpD.put_hs H1.out bB 2 (good_lit _ (by decide)) (by decide)).mono ?_
  rintro e w2 ⟨F2, rfl, h2, s2, f2⟩
  rw [put1] at h2
  have H2 := Lib.hid h2
  have S2 := Lib.hid (And.intro s2 f2)
  clear h2 s2 f2
  go_wp2_with fail
  refine (HpD.put_hs H2.out bA 2 (good_lit _ (by decide)) (by decide)).mono ?_
  rintro e w3 ⟨F3, rfl, h3, s3, f3⟩
  rw [put2] at h3
  have H3 := Lib.hid h3
  have S3 := Lib.hid (And.intro s3 f3)
  clear h3 s3 f3
  go_wp2_with fail
  refine (HpD.put_hs H3.out bC 1 (good_lit _ (by decide)) (by decide)).mono ?_
  rintro e w4 ⟨F4, rfl, h4, s4, f4⟩
  rw [put3] at h4
  have H4 := Lib.hid h4
  have hs4 : Step [] w w4 := by
    have hf1 := H1.out.low
    have h0 := S1.out.size
    have b2 : ∀ k, k ∈ F2 → w.heap.size ≤ k := fun k hk => H2.out.low k hk
    have b3 : ∀ k, k ∈ F3 → w.heap.size ≤ k := fun k hk => H3.out.low k hk
    exact ((S1.out.then S2.out.1 (fun k hk => .inr (hf1 k hk))).then S3.out.1 (fun k hk => .inr (b2 k hk))).then s4 (fun k hk => .inr (b3 k hk))
  have S4 := Lib.hid hs4
  clear h4 s4 f4 hs4 H1 H2 H3 S1 S2 S3
  go_wp2_with fail
  go_loopw [2] (fun s wr => ∃ F t, HpD.Hs wr w.heap.size hb t F ∧ Step [] w wr ∧ (s = .string ⟨#[]⟩ ∧ t = [(bC, 1), (bA, 2), (bB, 2)] ∨ s = .string ⟨#[99]⟩ ∧ t = [(bA, 2), (bB, 2)] ∨ s = .string ⟨#[99, 97]⟩ ∧ t = [(bB, 2)] ∨ s = .string ⟨#[99, 97, 98]⟩ ∧ t = [])) (fun s _ => 3 - sLen s)
  case atStart => exact ⟨F4, _, H4.out, S4.out, .inl ⟨rfl, rfl⟩⟩
  case round =>
    obtain ⟨F, t, h, hst, hc⟩ := hrel
    have HH := Lib.hid h
    have HS := Lib.hid hst
    clear h hst H4 S4
    have HL := Lib.hid (HpD.len_hs HH.out)
    have HP := Lib.hid (HpD.pop_hs HH.out)
    rcases hc with ⟨rfl, rfl⟩ | ⟨rfl, rfl⟩ | ⟨rfl, rfl⟩ | ⟨rfl, rfl⟩
    · simp only [HpD.hdS, List.tail] at HP
      simp only [List.length_cons, List.length_nil] at HL
      go_wp2_with fail
      refine HL.out.mono ?_
      rintro e w5 ⟨rfl, rfl⟩
      go_wp2_with fail
      refine HP.out.mono ?_
      rintro e w5 ⟨F', rfl, h5, s5, f5⟩
      have H5 := Lib.hid (h5.step ((Step.refl [] w5).alloc (.cells #[.string bC, .int .i64 1] 76)) (by simp))
      have S5 := Lib.hid ((HS.out.then s5 (fun k hk => .inr (HH.out.low k hk))).alloc (.cells #[.string bC, .int .i64 1] 76))
      clear h5 s5 f5 HL HP
      go_wp2_with fail
      go_roundw
      case rel => exact ⟨F', _, H5.out, S5.out, .inr (.inl ⟨by first | rfl | decide, rfl⟩)⟩
      case measure => decide
    · simp only [HpD.hdS, List.tail] at HP
      simp only [List.length_cons, List.length_nil] at HL
      go_wp2_with fail
      refine HL.out.mono ?_
      rintro e w5 ⟨rfl, rfl⟩
      go_wp2_with fail
      refine HP.out.mono ?_
      rintro e w5 ⟨F', rfl, h5, s5, f5⟩
      have H5 := Lib.hid (h5.step ((Step.refl [] w5).alloc (.cells #[.string bA, .int .i64 2] 76)) (by simp))
      have S5 := Lib.hid ((HS.out.then s5 (fun k hk => .inr (HH.out.low k hk))).alloc (.cells #[.string bA, .int .i64 2] 76))
      clear h5 s5 f5 HL HP
      go_wp2_with fail
      go_roundw
      case rel => exact ⟨F', _, H5.out, S5.out, .inr (.inr (.inl ⟨by first | rfl | decide, rfl⟩))⟩
      case measure => decide
    · simp only [HpD.hdS, List.tail] at HP
      simp only [List.length_cons, List.length_nil] at HL
      go_wp2_with fail
      refine HL.out.mono ?_
      rintro e w5 ⟨rfl, rfl⟩
      go_wp2_with fail
      refine HP.out.mono ?_
      rintro e w5 ⟨F', rfl, h5, s5, f5⟩
      have H5 := Lib.hid (h5.step ((Step.refl [] w5).alloc (.cells #[.string bB, .int .i64 2] 76)) (by simp))
      have S5 := Lib.hid ((HS.out.then s5 (fun k hk => .inr (HH.out.low k hk))).alloc (.cells #[.string bB, .int .i64 2] 76))
      clear h5 s5 f5 HL HP
      go_wp2_with fail
      go_roundw
      case rel => exact ⟨F', _, H5.out, S5.out, .inr (.inr (.inr ⟨by first | rfl | decide, rfl⟩))⟩
      case measure => decide
    · simp only [List.length_nil] at HL
      go_wp2_with fail
      refine HL.out.mono ?_
      rintro e w5 ⟨rfl, rfl⟩
      go_wp2_with fail
      go_ret
      exact ⟨by first | rfl | decide, HS.out⟩
end Go.Proofs.Ytdbhldlgfchjpaa
