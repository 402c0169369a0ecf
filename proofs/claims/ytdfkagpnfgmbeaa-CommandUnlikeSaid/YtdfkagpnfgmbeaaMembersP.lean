/- command.members, complineref18.Right: what may be members; each one written. -/
import Derived.Test.YtdfkagpnfgmbeaaIntsB
import Derived.Test.YtdfkagpnfgmbeaaOctetWB
namespace Go.Proofs.Ytdfkagpnfgmbeaa
set_option linter.unusedVariables false
open Go.RowKit

/-- each within its bounds, and above the one ahead -/
def rises : Int → List Int → Bool
  | _, [] => true
  | p, x :: l => decide (p < x) && decide (x ≤ 7) && rises x l

def goodM (l : List Int) : Bool := rises 0 l && decide (0 < l.length)

/-- the i-th one is right -/
def okAt (l : List Int) (i : Nat) : Prop := 1 ≤ l.getD i 0 ∧ l.getD i 0 ≤ 7 ∧ (0 < i → l.getD (i - 1) 0 < l.getD i 0)

theorem rises_iff : ∀ (l : List Int) (p : Int), 0 ≤ p → (rises p l = true ↔ ∀ i, i < l.length → (if i = 0 then p else l.getD (i - 1) 0) < l.getD i 0 ∧ l.getD i 0 ≤ 7)
  | [], p, _ => by simp [rises]
  | x :: l, p, hp => by
    unfold rises
    simp only [Bool.and_eq_true, decide_eq_true_eq]
    constructor
    · rintro ⟨⟨h1, h2⟩, h3⟩ i hi
      have h4 := (rises_iff l x (by omega)).1 h3
      cases i with
      | zero => exact ⟨by simpa using h1, by simpa using h2⟩
      | succ j =>
        have := h4 j (by simpa using hi)
        cases j with
        | zero => simpa using this
        | succ k => simpa using this
    · intro h
      have h0 := h 0 (by simp)
      have h0' : p < x ∧ x ≤ 7 := by simpa using h0
      refine ⟨h0', (rises_iff l x (by omega)).2 fun j hj => ?_⟩
      have := h (j + 1) (by simpa using hj)
      cases j with
      | zero => simpa using this
      | succ k => simpa using this

theorem goodM_iff (l : List Int) : goodM l = true ↔ (∀ i, i < l.length → okAt l i) ∧ 0 < l.length := by
  unfold goodM
  simp only [Bool.and_eq_true, decide_eq_true_eq]
  rw [rises_iff l 0 (by decide)]
  refine and_congr ⟨fun h i hi => ?_, fun h i hi => ?_⟩ Iff.rfl
  · have hpos : ∀ i, i < l.length → 0 < l.getD i 0 := by
      intro i
      induction i with
      | zero => intro hi; have := h 0 hi; simpa using this.1
      | succ j ih =>
        intro hi
        have h1 := ih (by omega)
        have h2 := (h (j + 1) hi).1
        simp only [Nat.add_sub_cancel] at h2
        rw [if_neg (by omega)] at h2
        omega
    have h1 := h i hi
    have h2 := hpos i hi
    refine ⟨by omega, h1.2, fun h0 => ?_⟩
    rw [if_neg (by omega)] at h1
    exact h1.1
  · obtain ⟨h1, h2, h3⟩ := h i hi
    refine ⟨?_, h2⟩
    by_cases h0 : i = 0
    · rw [if_pos h0]; omega
    · rw [if_neg h0]; exact h3 (by omega)

theorem not_good {l : List Int} {i : Nat} (hi : i < l.length) (h : ¬ okAt l i) : goodM l = false := by
  cases hg : goodM l
  · rfl
  · exact absurd (((goodM_iff l).1 hg).1 i hi) h

set_option maxHeartbeats 2000000 in
theorem members_any (a : Option Addr) (cap : Nat) (l : List Int) (w : World) (hl : Ints w a l) (hlen : l.length < 1000000) :
    Calls Try.prog 22 #[.slice a l.length cap] w fun e w' => e = .returned (.bool (goodM l)) ∧ w = w' := by
  have HL := Lib.hid hl
  clear hl
  go_enter Try.func22, Try.ntmps22
  go_wp2
  go_loop [3, 4, 7] (fun _ _ i => ∃ k : Nat, k ≤ l.length ∧ i = .int .i64 k ∧ ∀ j, j < k → okAt l j) (fun _ _ i => l.length - (intOf i).toNat)
  case atStart => exact ⟨0, Nat.zero_le _, rfl, fun j hj => by omega⟩
  case round =>
    obtain ⟨k, hk, rfl, hall⟩ := hrel
    have HA := Lib.hid hall
    clear hall
    by_cases hkl : k < l.length
    · obtain ⟨b, off, rfl, hlt, hc⟩ := HL.out k hkl
      have hm : (k : Int) < (l.length : Int) := by omega
      have hbad := Lib.hid (fun h : ¬ okAt l k => not_good hkl h)
      have hok : okAt l k ↔ 1 ≤ l.getD k 0 ∧ l.getD k 0 ≤ 7 ∧ (0 < k → l.getD (k - 1) 0 < l.getD k 0) := Iff.rfl
      have HOK := Lib.hid hok
      clear hok
      cases k with
      | zero =>
        have hm0 : (0 : Int) < (l.length : Int) := by omega
        rw [Nat.add_zero] at hc
        generalize l.getD 0 0 = x at *
        by_cases h1 : x < 1
        · have d1 : decide (x < 1) = true := by simpa using h1
          go_wp2_with fail
          go_ret
          exact ⟨ret_bool (by rw [hbad.out (fun h => by have := HOK.out.1 h; omega)]), rfl⟩
        · have d1 : decide (x < 1) = false := by simpa using h1
          by_cases h2 : 7 < x
          · have d2 : decide (7 < x) = true := by simpa using h2
            go_wp2_with fail
            go_ret
            exact ⟨ret_bool (by rw [hbad.out (fun h => by have := HOK.out.1 h; omega)]), rfl⟩
          · have d2 : decide (7 < x) = false := by simpa using h2
            go_wp2_with fail
            go_round
            case rel => exact ⟨1, by omega, by go_num, fun j hj => by obtain rfl : j = 0 := by omega
                                                                      exact HOK.out.2 ⟨by omega, by omega, fun h => by omega⟩⟩
            case measure => simp [intOf]; omega
      | succ p =>
        obtain ⟨b', off', hab, hlt', hc'⟩ := HL.out p (by omega)
        cases hab
        simp only [Nat.add_sub_cancel] at HOK
        generalize l.getD (p + 1) 0 = x at *
        generalize l.getD p 0 = y at *
        generalize hkk : p + 1 = k at *
        have i0 : ((k : Int) - 1).toNat = p := by omega
        have i1 : (k : Int) - 1 < (l.length : Int) := by omega
        have i2 : 0 ≤ (k : Int) - 1 := by omega
        have i3 : decide (0 < (k : Int)) = true := by simp; omega
        by_cases h1 : x < 1
        · have d1 : decide (x < 1) = true := by simpa using h1
          go_wp2_with fail
          go_ret
          exact ⟨ret_bool (by rw [hbad.out (fun h => by have := HOK.out.1 h; omega)]), rfl⟩
        · have d1 : decide (x < 1) = false := by simpa using h1
          by_cases h2 : 7 < x
          · have d2 : decide (7 < x) = true := by simpa using h2
            go_wp2_with fail
            go_ret
            exact ⟨ret_bool (by rw [hbad.out (fun h => by have := HOK.out.1 h; omega)]), rfl⟩
          · have d2 : decide (7 < x) = false := by simpa using h2
            by_cases h3 : x ≤ y
            · have d3 : decide (x ≤ y) = true := by simpa using h3
              go_wp2_with fail
              go_ret
              exact ⟨ret_bool (by rw [hbad.out (fun h => by have := (HOK.out.1 h).2.2 (by omega); omega)]), rfl⟩
            · have d3 : decide (x ≤ y) = false := by simpa using h3
              go_wp2_with fail
              go_round
              case rel => exact ⟨k + 1, by omega, by go_num, fun j hj => by
                by_cases hjk : j < k
                · exact HA.out j hjk
                · obtain rfl : j = k := by omega
                  exact HOK.out.2 ⟨by omega, by omega, fun h => by omega⟩⟩
              case measure => simp [intOf]; omega
    · have hke : k = l.length := by omega
      subst hke
      go_wp2_with fail
      go_ret
      have hg : goodM l = decide (0 < l.length) := by
        rw [Bool.eq_iff_iff, goodM_iff]
        simp
        exact fun _ => HA.out
      exact ⟨ret_bool hg.symm, rfl⟩

set_option maxHeartbeats 1000000 in
theorem each_any (base pb : Nat) (v : Value) (bs : List UInt8) (n : Int) (w : World) (hW : Wr w base pb v bs) (h0 : 0 ≤ n) (h1 : n ≤ 7) (hlen : bs.length ≤ 1000000) :
    Calls Try.prog 26 #[.pointer (some ⟨pb, 0, none⟩), .int .i64 n] w (Wrote base pb v (bs ++ numB n.toNat) w) := by
  obtain ⟨m, rfl⟩ : ∃ m : Nat, n = (m : Int) := ⟨n.toNat, by omega⟩
  have HN := Lib.hid (num_any base pb v bs m w hW (by unfold M64; omega) (by omega))
  clear hW
  go_enter Try.func26, Try.ntmps26
  go_wp2_with fail
  refine HN.out.mono ?_
  rintro e w1 ⟨rfl, hw⟩
  go_wp2_with fail
  go_end0
  exact ⟨rfl, by simpa using hw⟩

theorem good_bounds {l : List Int} (h : goodM l = true) : ∀ x ∈ l, 0 ≤ x ∧ x ≤ 7 := by
  intro x hx
  obtain ⟨i, hi, rfl⟩ := List.getElem_of_mem hx
  obtain ⟨h1, h2, _⟩ := ((goodM_iff l).1 h).1 i hi
  simp [List.getD, hi] at h1 h2
  omega

theorem good_len {l : List Int} (h : goodM l = true) : l.length ≤ 7 := by
  have hall := ((goodM_iff l).1 h).1
  have : ∀ i, i < l.length → (i : Int) + 1 ≤ l.getD i 0 := by
    intro i
    induction i with
    | zero => intro hi; have := (hall 0 hi).1; simpa using this
    | succ j ih =>
      intro hi
      have h1 := ih (by omega)
      have h2 := (hall (j + 1) hi).2.2 (by omega)
      simp only [Nat.add_sub_cancel] at h2
      omega
  rcases Nat.eq_zero_or_pos l.length with h0 | h0
  · omega
  · have h1 := this (l.length - 1) (by omega)
    have h2 := (hall (l.length - 1) (by omega)).2.1
    omega

set_option maxHeartbeats 2000000 in
theorem refright_any (a : Option Addr) (cap : Nat) (l : List Int) (w : World) (hl : Ints w a l) (hlen : l.length < 1000000) :
    Calls Try.prog 8 #[.slice a l.length cap] w fun e w' => e = .returned (.bool (goodM l)) ∧ w = w' := by
  have HL := Lib.hid hl
  clear hl
  go_enter Try.func8, Try.ntmps8
  go_wp2
  go_loop [3, 4, 7] (fun _ _ i => ∃ k : Nat, k ≤ l.length ∧ i = .int .i64 k ∧ ∀ j, j < k → okAt l j) (fun _ _ i => l.length - (intOf i).toNat)
  case atStart => exact ⟨0, Nat.zero_le _, rfl, fun j hj => by omega⟩
  case round =>
    obtain ⟨k, hk, rfl, hall⟩ := hrel
    have HA := Lib.hid hall
    clear hall
    by_cases hkl : k < l.length
    · obtain ⟨b, off, rfl, hlt, hc⟩ := HL.out k hkl
      have hm : (k : Int) < (l.length : Int) := by omega
      have hbad := Lib.hid (fun h : ¬ okAt l k => not_good hkl h)
      have hok : okAt l k ↔ 1 ≤ l.getD k 0 ∧ l.getD k 0 ≤ 7 ∧ (0 < k → l.getD (k - 1) 0 < l.getD k 0) := Iff.rfl
      have HOK := Lib.hid hok
      clear hok
      cases k with
      | zero =>
        have hm0 : (0 : Int) < (l.length : Int) := by omega
        rw [Nat.add_zero] at hc
        generalize l.getD 0 0 = x at *
        by_cases h1 : x < 1
        · have d1 : decide (x < 1) = true := by simpa using h1
          go_wp2_with fail
          go_ret
          exact ⟨ret_bool (by rw [hbad.out (fun h => by have := HOK.out.1 h; omega)]), rfl⟩
        · have d1 : decide (x < 1) = false := by simpa using h1
          by_cases h2 : 7 < x
          · have d2 : decide (7 < x) = true := by simpa using h2
            go_wp2_with fail
            go_ret
            exact ⟨ret_bool (by rw [hbad.out (fun h => by have := HOK.out.1 h; omega)]), rfl⟩
          · have d2 : decide (7 < x) = false := by simpa using h2
            go_wp2_with fail
            go_round
            case rel => exact ⟨1, by omega, by go_num, fun j hj => by obtain rfl : j = 0 := by omega
                                                                      exact HOK.out.2 ⟨by omega, by omega, fun h => by omega⟩⟩
            case measure => simp [intOf]; omega
      | succ p =>
        obtain ⟨b', off', hab, hlt', hc'⟩ := HL.out p (by omega)
        cases hab
        simp only [Nat.add_sub_cancel] at HOK
        generalize l.getD (p + 1) 0 = x at *
        generalize l.getD p 0 = y at *
        generalize hkk : p + 1 = k at *
        have i0 : ((k : Int) - 1).toNat = p := by omega
        have i1 : (k : Int) - 1 < (l.length : Int) := by omega
        have i2 : 0 ≤ (k : Int) - 1 := by omega
        have i3 : decide (0 < (k : Int)) = true := by simp; omega
        by_cases h1 : x < 1
        · have d1 : decide (x < 1) = true := by simpa using h1
          go_wp2_with fail
          go_ret
          exact ⟨ret_bool (by rw [hbad.out (fun h => by have := HOK.out.1 h; omega)]), rfl⟩
        · have d1 : decide (x < 1) = false := by simpa using h1
          by_cases h2 : 7 < x
          · have d2 : decide (7 < x) = true := by simpa using h2
            go_wp2_with fail
            go_ret
            exact ⟨ret_bool (by rw [hbad.out (fun h => by have := HOK.out.1 h; omega)]), rfl⟩
          · have d2 : decide (7 < x) = false := by simpa using h2
            by_cases h3 : x ≤ y
            · have d3 : decide (x ≤ y) = true := by simpa using h3
              go_wp2_with fail
              go_ret
              exact ⟨ret_bool (by rw [hbad.out (fun h => by have := (HOK.out.1 h).2.2 (by omega); omega)]), rfl⟩
            · have d3 : decide (x ≤ y) = false := by simpa using h3
              go_wp2_with fail
              go_round
              case rel => exact ⟨k + 1, by omega, by go_num, fun j hj => by
                by_cases hjk : j < k
                · exact HA.out j hjk
                · obtain rfl : j = k := by omega
                  exact HOK.out.2 ⟨by omega, by omega, fun h => by omega⟩⟩
              case measure => simp [intOf]; omega
    · have hke : k = l.length := by omega
      subst hke
      go_wp2_with fail
      go_ret
      have hg : goodM l = decide (1 ≤ (l.length : Int)) := by
        rw [Bool.eq_iff_iff, goodM_iff]
        simp
        constructor
        · rintro ⟨_, h⟩; omega
        · intro h; exact ⟨HA.out, by omega⟩
      exact ⟨ret_bool hg.symm, rfl⟩
end Go.Proofs.Ytdfkagpnfgmbeaa
