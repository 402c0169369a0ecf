/- spec.Name: whether a text is a name: the walk of spec.sign and spec.Name. -/
import Derived.Test.YtiilgpffclhlcaaBase
namespace Go.Proofs.Ytiilgpffclhlcaa
set_option linter.unusedVariables false
open Go.RowKit

def signB (c : Int) : Bool := (decide (97 ≤ c) && decide (c ≤ 122)) || (decide (48 ≤ c) && decide (c ≤ 57)) || c == 45 || c == 46
def allS (l : List UInt8) : Bool := l.all fun b => signB (b.toNat : Int)
def headB : List UInt8 → Bool
  | [] => false
  | b :: _ => decide (97 ≤ b.toNat) && decide (b.toNat ≤ 122)
def nameB (s : ByteArray) : Bool := decide (s.size ≤ 24) && headB s.data.toList && allS s.data.toList

set_option maxHeartbeats 400000 in
theorem sign_any (c : Int) (w : World) :
    Calls Try.prog 12 #[.int .i32 c] w fun e w' => e = .returned (.bool (signB c)) ∧ w = w' := by
  go_enter Try.func12, Try.ntmps12
  go_wp2
  all_goals
    go_ret
    refine ⟨ret_bool ?_, rfl⟩
    unfold signB
    rw [Bool.eq_iff_iff]
    simp
    try omega

theorem signB_high (c : Nat) (h : 128 ≤ c) : signB (c : Int) = false := by
  unfold signB
  have h1 : decide ((c : Int) ≤ 122) = false := by simp; omega
  have h2 : decide ((c : Int) ≤ 57) = false := by simp; omega
  have h3 : ((c : Int) == 45) = false := by simp; omega
  have h4 : ((c : Int) == 46) = false := by simp; omega
  simp [h1, h2, h3, h4]

theorem signB_low (c : Nat) (h : signB (c : Int) = true) : c < 128 := by
  rcases Nat.lt_or_ge c 128 with h1 | h1
  · exact h1
  · rw [signB_high c h1] at h; cases h

theorem allS_app (a b : List UInt8) : allS (a ++ b) = (allS a && allS b) := by simp [allS]

theorem allS_snoc (s : ByteArray) (k : Nat) (h : k < s.size) : allS (s.data.toList.take (k + 1)) = (allS (s.data.toList.take k) && signB (s[k].toNat : Int)) := by
  rw [take_snoc s k h, allS_app]; simp [allS]

theorem allS_take (l : List UInt8) (k : Nat) (h : allS (l.take k) = false) : allS l = false := by
  have := allS_app (l.take k) (l.drop k)
  rw [List.take_append_drop] at this
  rw [this, h]; rfl

theorem headB_eq (s : ByteArray) (h : 0 < s.size) : headB s.data.toList = (decide (97 ≤ s[0].toNat) && decide (s[0].toNat ≤ 122)) := by
  obtain ⟨⟨l⟩⟩ := s
  cases l with
  | nil => simp [ByteArray.size] at h
  | cons a l => rfl

theorem name_rune (s : ByteArray) (k : Nat) (hk : k < s.size) (hs : allS (s.data.toList.take k) = true) :
    (signB ((Utf8.decode s k).1 : Int) = true → (Utf8.decode s k).2 = 1 ∧ allS (s.data.toList.take (k + 1)) = true) ∧
    (signB ((Utf8.decode s k).1 : Int) = false → nameB s = false) := by
  by_cases ha : (s[k]'hk).toNat < 128
  · rw [decode_ascii s k hk ha]
    refine ⟨fun h => ⟨rfl, by rw [allS_snoc s k hk, hs, h]; rfl⟩, fun h => ?_⟩
    have : allS s.data.toList = false := allS_take _ (k + 1) (by rw [allS_snoc s k hk, hs, h]; rfl)
    simp [nameB, this]
  · have hd := (decode_high s k hk (by omega)).1
    rw [signB_high _ hd]
    refine ⟨(fun h => by cases h), fun _ => ?_⟩
    have : allS s.data.toList = false := allS_take _ (k + 1) (by rw [allS_snoc s k hk, hs, signB_high _ (by omega)]; rfl)
    simp [nameB, this]

theorem name_end (s : ByteArray) (h24 : ¬ 24 < s.size) (hh : headB s.data.toList = true) (k : Nat) (hk : k ≤ s.size) (hk' : ¬ k < s.size) (hs : allS (s.data.toList.take k) = true) : nameB s = true := by
  rw [List.take_of_length_le (by rw [size_list]; omega)] at hs
  simp [nameB, hs, hh]; omega

set_option maxHeartbeats 1000000 in
theorem name_any (s : ByteArray) (w : World) (hs : s.size ≤ maxLen) :
    Calls Try.prog 6 #[.string s] w fun e w' => e = .returned (.bool (nameB s)) ∧ Below w.heap.size w w' := by
  unfold maxLen at hs
  by_cases h0 : s.size = 0
  · have := empty_of s h0
    subst this
    go_enter Try.func6, Try.ntmps6
    go_wp2
    go_ret
    exact ⟨rfl, Below.refl _ _⟩
  have hpos : 0 < s.size := by omega
  have he : s.toList.isEmpty = false := toList_ne s hpos
  by_cases h24 : 24 < s.size
  · have hf : nameB s = false := by simp [nameB]; omega
    have HF := Lib.hid hf
    clear hf
    go_enter Try.func6, Try.ntmps6
    go_wp2
    go_ret
    exact ⟨ret_bool HF.out.symm, Below.refl _ _⟩
  · have hh := headB_eq s hpos
    by_cases hc : 97 ≤ s[0].toNat ∧ s[0].toNat ≤ 122
    · have hh' : headB s.data.toList = true := by rw [hh]; simp [hc]
      have HH := Lib.hid hh'
      clear hh hh'
      obtain ⟨hc1, hc2⟩ := hc
      go_enter Try.func6, Try.ntmps6
      go_wp2
      go_loopw [4] (fun _ wr => ∃ k : Nat, k ≤ s.size ∧ wr = w.iter s k ∧ allS (s.data.toList.take k) = true) (fun _ wr => s.size - wr.iterPos w.heap.size)
      case atStart => exact ⟨0, Nat.zero_le _, rfl, rfl⟩
      case round =>
        obtain ⟨k, hk, rfl, hall⟩ := hrel
        by_cases hp : k < s.size
        · have hnx : ∀ ty, (Instr.next (.pointer (some ⟨w.heap.size, 0, none⟩)) true ty).run Try.prog (w.iter s k) = _ := fun ty => run_next_any w s k ty hp
          have HN := Lib.hid (name_rune s k hp hall)
          have HA := Lib.hid hall
          clear hall
          cases hsg : signB ((Utf8.decode s k).1 : Int)
          · have hnf := Lib.hid (HN.out.2 hsg)
            have HG := Lib.hid hsg
            go_wp2_with (go_at_call 12; refine (sign_any _ _).mono ?_; rw [HG.out]; rintro e w' ⟨rfl, rfl⟩)
            go_ret
            exact ⟨ret_bool hnf.out.symm, (Below.refl _ _).alloc (Nat.le_refl _) _⟩
          · have hnf := HN.out.1 hsg
            obtain ⟨h1, h2⟩ := hnf
            have H2 := Lib.hid h2
            have H1 := Lib.hid h1
            have HG := Lib.hid hsg
            clear h1 h2 hsg
            go_wp2_with (go_at_call 12; refine (sign_any _ _).mono ?_; rw [HG.out]; rintro e w' ⟨rfl, rfl⟩)
            go_roundw
            case rel => exact ⟨k + 1, by omega, by rw [H1.out], H2.out⟩
            case measure => simp; rw [H1.out]; omega
        · have hnx : ∀ ty, (Instr.next (.pointer (some ⟨w.heap.size, 0, none⟩)) true ty).run Try.prog (w.iter s k) = _ := fun ty => run_next_end w s k ty hp
          have HN := Lib.hid (name_end s h24 HH.out k hk hp hall)
          clear hall
          go_wp2
          go_ret
          exact ⟨ret_bool HN.out.symm, (Below.refl _ _).alloc (Nat.le_refl _) _⟩
    · have hf : nameB s = false := by
        simp [nameB, hh]; omega
      have HF := Lib.hid hf
      clear hf hh
      have hc' : s[0].toNat < 97 ∨ 122 < s[0].toNat := by omega
      clear hc
      rcases hc' with hc | hc
      all_goals
        go_enter Try.func6, Try.ntmps6
        go_wp2
        go_ret
        exact ⟨ret_bool HF.out.symm, Below.refl _ _⟩
end Go.Proofs.Ytiilgpffclhlcaa
