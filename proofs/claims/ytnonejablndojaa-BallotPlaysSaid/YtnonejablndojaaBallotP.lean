/- complineref18.Right; a ballot that isn't there; rows of votes. -/
import Derived.Test.YtnonejablndojaaBallotB
namespace Go.Proofs.Ytnonejablndojaa
set_option linter.unusedVariables false
open Go.RowKit Go.Maps

set_option maxHeartbeats 2000000 in
theorem refright_any (a : Option Addr) (cap : Nat) (l : List Int) (w : World) (hl : Ints w a l) (hlen : l.length < 1000000) :
    Calls Try.prog 8 #[.slice a l.length cap] w fun e w' => e = .returned (.bool (goodM l)) ∧ w = w' := by
  have HL := Lib.hid hl
  clear hl
  go_enter Try.func8, Try.ntmps8
  go_wp2
  go_loop [3, 4, 7] (fun _ _ i => ∃ k : Nat, k ≤ l.length ∧ i = .int .i64 k ∧ ∀ j, j < k → okAt l j) (fun _ _ i => l.length - (intOf i).toNat)
  case atStart => exact ⟨0, Nat.zero_le _, rfl, fun j hj => by omega⟩
  case round =>
    obtain ⟨k, hk, rfl, hall⟩ := hrel
    have HA := Lib.hid hall
    clear hall
    by_cases hkl : k < l.length
    · obtain ⟨b, off, rfl, hlt, hc⟩ := HL.out k hkl
      have hm : (k : Int) < (l.length : Int) := by omega
      have hbad := Lib.hid (fun h : ¬ okAt l k => not_good hkl h)
      have hok : okAt l k ↔ 1 ≤ l.getD k 0 ∧ l.getD k 0 ≤ 7 ∧ (0 < k → l.getD (k - 1) 0 < l.getD k 0) := Iff.rfl
      have HOK := Lib.hid hok
      clear hok
      cases k with
      | zero =>
        have hm0 : (0 : Int) < (l.length : Int) := by omega
        rw [Nat.add_zero] at hc
        generalize l.getD 0 0 = x at *
        by_cases h1 : x < 1
        · have d1 : decide (x < 1) = true := by simpa using h1
          go_wp2_with fail
          go_ret
          exact ⟨ret_bool (by rw [hbad.out (fun h => by have := HOK.out.1 h; omega)]), rfl⟩
        · have d1 : decide (x < 1) = false := by simpa using h1
          by_cases h2 : 7 < x
          · have d2 : decide (7 < x) = true := by simpa using h2
            go_wp2_with fail
            go_ret
            exact ⟨ret_bool (by rw [hbad.out (fun h => by have := HOK.out.1 h; omega)]), rfl⟩
          · have d2 : decide (7 < x) = false := by simpa using h2
            go_wp2_with fail
            go_round
            case rel => exact ⟨1, by omega, by go_num, fun j hj => by obtain rfl : j = 0 := by omega
                                                                      exact HOK.out.2 ⟨by omega, by omega, fun h => by omega⟩⟩
            case measure => simp [intOf]; omega
      | succ p =>
        obtain ⟨b', off', hab, hlt', hc'⟩ := HL.out p (by omega)
        cases hab
        simp only [Nat.add_sub_cancel] at HOK
        generalize l.getD (p + 1) 0 = x at *
        generalize l.getD p 0 = y at *
        generalize hkk : p + 1 = k at *
        have i0 : ((k : Int) - 1).toNat = p := by omega
        have i1 : (k : Int) - 1 < (l.length : Int) := by omega
        have i2 : 0 ≤ (k : Int) - 1 := by omega
        have i3 : decide (0 < (k : Int)) = true := by simp; omega
        by_cases h1 : x < 1
        · have d1 : decide (x < 1) = true := by simpa using h1
          go_wp2_with fail
          go_ret
          exact ⟨ret_bool (by rw [hbad.out (fun h => by have := HOK.out.1 h; omega)]), rfl⟩
        · have d1 : decide (x < 1) = false := by simpa using h1
          by_cases h2 : 7 < x
          · have d2 : decide (7 < x) = true := by simpa using h2
            go_wp2_with fail
            go_ret
            exact ⟨ret_bool (by rw [hbad.out (fun h => by have := HOK.out.1 h; omega)]), rfl⟩
          · have d2 : decide (7 < x) = false := by simpa using h2
            by_cases h3 : x ≤ y
            · have d3 : decide (x ≤ y) = true := by simpa using h3
              go_wp2_with fail
              go_ret
              exact ⟨ret_bool (by rw [hbad.out (fun h => by have := (HOK.out.1 h).2.2 (by omega); omega)]), rfl⟩
            · have d3 : decide (x ≤ y) = false := by simpa using h3
              go_wp2_with fail
              go_round
              case rel => exact ⟨k + 1, by omega, by go_num, fun j hj => by
                by_cases hjk : j < k
                · exact HA.out j hjk
                · obtain rfl : j = k := by omega
                  exact HOK.out.2 ⟨by omega, by omega, fun h => by omega⟩⟩
              case measure => simp [intOf]; omega
    · have hke : k = l.length := by omega
      subst hke
      go_wp2_with fail
      go_ret
      have hg : goodM l = decide (1 ≤ (l.length : Int)) := by
        rw [Bool.eq_iff_iff, goodM_iff]
        simp
        constructor
        · rintro ⟨_, h⟩; omega
        · intro h; exact ⟨HA.out, by omega⟩
      exact ⟨ret_bool hg.symm, rfl⟩


set_option maxHeartbeats 400000 in
theorem count_nil (w : World) : Calls Try.prog 10 #[.pointer none] w fun e w' => e = .returned (.tuple #[.int .i64 0, .int .i64 0]) ∧ w = w' := by
  go_enter Try.func10, Try.ntmps10
  go_wp2
  go_ret2
  exact ⟨rfl, rfl⟩
theorem right_nil (w : World) : Calls Try.prog 13 #[.pointer none] w fun e w' => e = .returned (.bool false) ∧ w = w' := by
  go_enter Try.func13, Try.ntmps13
  go_wp2
  go_ret
  exact ⟨rfl, rfl⟩
theorem vote_nil (x : Int) (y : Bool) (w : World) : Calls Try.prog 9 #[.pointer none, .int .i64 x, .bool y] w fun e w' => e = .returned (.bool false) ∧ w = w' := by
  go_enter Try.func9, Try.ntmps9
  go_wp2_with fail
  refine (right_nil w).mono ?_
  rintro e w1 ⟨rfl, rfl⟩
  go_wp2_with fail
  go_ret
  exact ⟨rfl, rfl⟩
theorem state_nil (w : World) : Calls Try.prog 11 #[.pointer none] w fun e w' => e = .returned (.int .i64 2) ∧ w = w' := by
  go_enter Try.func11, Try.ntmps11
  go_wp2_with fail
  refine (right_nil w).mono ?_
  rintro e w1 ⟨rfl, rfl⟩
  go_wp2_with fail
  go_ret
  exact ⟨rfl, rfl⟩

/-- a row of votes that is only read -/
def Votes (w : World) (a : Option Addr) (l : List (Int × Bool)) : Prop :=
  ∀ i, i < l.length → ∃ b off, a = some ⟨b, off, none⟩ ∧ b < w.heap.size ∧ w.cell? ⟨b, off + i * 2, none⟩ = some (.int .i64 (l.getD i (0, false)).1) ∧ w.cell? ⟨b, off + i * 2 + 1, none⟩ = some (.bool (l.getD i (0, false)).2)
theorem Votes.step {w w' : World} {a : Option Addr} {l : List (Int × Bool)} (h : Votes w a l) (hs : Step [] w w') : Votes w' a l := fun i hi => by
  obtain ⟨b, off, ha, hlt, hc, hd⟩ := h i hi
  exact ⟨b, off, ha, Nat.lt_of_lt_of_le hlt hs.size, by rw [hs.cell hlt (by simp)]; exact hc, by rw [hs.cell hlt (by simp)]; exact hd⟩

/-- whose voices count -/
def ksOf (l : List Int) : List Int := if goodM l then l else []
theorem ksOf_le (l : List Int) : (ksOf l).length ≤ l.length := by unfold ksOf; split <;> simp
theorem ksOf_nodup (l : List Int) : (ksOf l).Nodup := by
  unfold ksOf
  split
  · exact good_nodup (by assumption)
  · exact List.nodup_nil
theorem ksOf_isI (l : List Int) : ∀ x ∈ ksOf l, IsI x := by
  unfold ksOf
  split
  · exact good_isI (by assumption)
  · intro x hx; cases hx
theorem mem_ksOf {l : List Int} {f : Int → Option Bool} {x : Int} (h : voteUp l f x = true) : x ∈ ksOf l ∧ f x = none := by
  unfold voteUp at h
  simp at h
  unfold ksOf
  rw [if_pos h.1.1]
  exact ⟨h.1.2, h.2⟩

/-- f, of which each voice is one that counts -/
def SupK (l : List Int) (f : Int → Option Bool) : Prop := ∀ x, (f x).isSome = true → x ∈ ksOf l
theorem SupK.upd {l : List Int} {f : Int → Option Bool} (h : SupK l f) {x : Int} (hx : x ∈ ksOf l) (y : Bool) : SupK l (upd f x (some y)) := by
  intro z hz
  unfold Go.Proofs.Ytnonejablndojaa.upd at hz
  by_cases hzx : z = x
  · rw [hzx]; exact hx
  · rw [if_neg hzx] at hz; exact h z hz

theorem cnt_upd_not (f : Int → Option Bool) (x : Int) (y b : Bool) : ∀ ks, x ∉ ks → cnt (upd f x (some y)) ks b = cnt f ks b
  | [], _ => rfl
  | k :: ks, h => by
    have hk : k ≠ x := fun e => h (by simp [e])
    unfold cnt
    rw [cnt_upd_not f x y b ks (fun hh => h (by simp [hh]))]
    simp [upd, hk]
theorem cnt_upd (f : Int → Option Bool) (x : Int) (y b : Bool) (hf : f x = none) : ∀ ks, ks.Nodup → x ∈ ks → cnt (upd f x (some y)) ks b = cnt f ks b + if y = b then 1 else 0
  | [], _, h => by cases h
  | k :: ks, hn, h => by
    obtain ⟨hk, hn'⟩ := List.nodup_cons.1 hn
    unfold cnt
    by_cases hkx : k = x
    · subst hkx
      rw [cnt_upd_not f k y b ks hk]
      simp [upd, hf]
      omega
    · rw [cnt_upd f x y b hf ks hn' (by
        rcases List.mem_cons.1 h with h | h
        · exact absurd h.symm hkx
        · exact h)]
      simp [upd, hkx]
      omega
theorem cnt_both (f : Int → Option Bool) : ∀ ks, cnt f ks true + cnt f ks false ≤ ks.length
  | [] => Nat.le_refl _
  | k :: ks => by
    have := cnt_both f ks
    unfold cnt
    simp only [List.length_cons]
    cases hk : f k with
    | none => simp; omega
    | some b => cases b <;> simp <;> omega

/-- the state that the document names -/
theorem stateV_lost {l : List Int} {y z : Nat} (hg : goodM l = true) (hb : y + z ≤ l.length) (h : 2 * (l.length - z) ≤ l.length) : stateV l y z = 2 := by
  unfold stateV
  rw [if_pos hg, if_neg (by omega), if_pos (by omega)]
theorem stateV_won {l : List Int} {y z : Nat} (hg : goodM l = true) (h : l.length < 2 * y) : stateV l y z = 1 := by
  unfold stateV
  rw [if_pos hg, if_pos (by omega)]
theorem stateV_open {l : List Int} {y z : Nat} (hg : goodM l = true) (h : ¬ l.length < 2 * y) (h2 : ¬ 2 * (l.length - z) ≤ l.length) : stateV l y z = 0 := by
  unfold stateV
  rw [if_pos hg, if_neg (by omega), if_neg (by omega)]
theorem stateV_bad {l : List Int} {y z : Nat} (hg : goodM l = false) : stateV l y z = 2 := by
  unfold stateV
  rw [hg]
  rfl
/-- it stays -/
theorem stateV_stays {l : List Int} {y z y' z' : Nat} (hy : y ≤ y') (hz : z ≤ z') (hb : y' + z' ≤ l.length) (h : stateV l y z ≠ 0) : stateV l y' z' = stateV l y z := by
  cases hg : goodM l with
  | false => rw [stateV_bad hg, stateV_bad hg]
  | true =>
    by_cases h1 : l.length < 2 * y
    · rw [stateV_won hg h1, stateV_won hg (by omega)]
    · by_cases h2 : 2 * (l.length - z) ≤ l.length
      · rw [stateV_lost hg (by omega) h2, stateV_lost hg hb (by omega)]
      · exact absurd (stateV_open hg h1 h2) h
end Go.Proofs.Ytnonejablndojaa
