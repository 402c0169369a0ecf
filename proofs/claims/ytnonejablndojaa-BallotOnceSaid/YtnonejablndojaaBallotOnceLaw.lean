/- BallotOnce: the law's own walk. -/
import Derived.Test.YtnonejablndojaaBallotB
namespace Go.Proofs.Ytnonejablndojaa
set_option linter.unusedVariables false
open Go.RowKit Go.Maps

/-- the bits below i that are set, 1 first -/
def bitsTo (m : Nat) : Nat → List Int
  | 0 => []
  | i + 1 => if i = 0 then [] else bitsTo m i ++ (if m.testBit i then [(i : Int)] else [])

theorem bitsTo_succ (m i : Nat) (h : 0 < i) : bitsTo m (i + 1) = bitsTo m i ++ (if m.testBit i then [(i : Int)] else []) := by
  show (if i = 0 then [] else _) = _
  rw [if_neg (by omega)]

theorem bitsTo_len (m : Nat) : ∀ k, (bitsTo m k).length ≤ k
  | 0 => Nat.le_refl _
  | k + 1 => by
    show (if k = 0 then [] else bitsTo m k ++ _).length ≤ _
    have := bitsTo_len m k
    split
    · simp
    · rw [List.length_append]
      split <;> simp <;> omega

theorem bits_good : ∀ m, m < 256 → goodM (bitsTo m 8) = decide (bitsTo m 8 ≠ []) := by decide +kernel

theorem bit_val (m k : Nat) (hm : m < 256) : bits .and .u8 ((m : Int) / 2 ^ k) 1 = if m.testBit k then 1 else 0 := by
  have e1 : ((m : Int) / 2 ^ k) = ((m / 2 ^ k : Nat) : Int) := by simp
  have hlt : m / 2 ^ k < 256 := Nat.lt_of_le_of_lt (Nat.div_le_self _ _) hm
  have e2 : (1 : Int) = ((1 : Nat) : Int) := rfl
  rw [e1, e2, u8_and_nat _ _ hlt (by decide), Nat.and_one_is_mod, Nat.testBit_eq_decide_div_mod_eq]
  by_cases h : m / 2 ^ k % 2 = 1
  · simp [h]
  · have h0 : m / 2 ^ k % 2 = 0 := by omega
    simp [h0]

theorem cnt_two (f g : Int → Option Bool) (h : ∀ z, (f z).isSome = true → (g z).isSome = true → False) : ∀ l : List Int, cnt f l true + cnt g l true ≤ l.length
  | [] => Nat.le_refl _
  | k :: l => by
    have ih := cnt_two f g h l
    unfold cnt
    simp only [List.length_cons]
    by_cases h1 : f k = some true
    · have h2 : ¬ g k = some true := fun h2 => h k (by rw [h1]; rfl) (by rw [h2]; rfl)
      rw [if_pos h1, if_neg h2]
      omega
    · rw [if_neg h1]
      split <;> omega

theorem state_won {l : List Int} {y z : Nat} (h : stateV l y z = 1) : l.length / 2 + 1 ≤ y := by
  unfold stateV at h
  split at h
  · split at h
    · assumption
    · split at h <;> cases h
  · cases h

/-- whoever has voted is a member, and has that bit, or hasn't -/
def Sup (L : List Int) (x : Nat) (b : Bool) (f : Int → Option Bool) : Prop := ∀ z, (f z).isSome = true → z ∈ L ∧ x.testBit z.toNat = b
theorem Sup.vote {L : List Int} {x : Nat} {b : Bool} {f : Int → Option Bool} (h : Sup L x b f) (z : Int) (hz : x.testBit z.toNat = b) : Sup L x b (voteF L f z true) := by
  intro t ht
  refine ⟨voteF_sup z true (fun q hq => (h q hq).1) t ht, ?_⟩
  unfold voteF at ht
  split at ht
  · unfold upd at ht
    by_cases htz : t = z
    · rw [htz]; exact hz
    · rw [if_neg htz] at ht
      exact (h t ht).2
  · exact (h t ht).2

set_option maxRecDepth 100000 in
set_option maxHeartbeats 4000000 in
theorem ballotOnce_any (m x y : UInt8) (w : World) :
    Calls Try.prog 4 #[.int .u8 (m.toNat : Int), .int .u8 (x.toNat : Int), .int .u8 (y.toNat : Int)] w fun e w' => e = .returned (.bool true) ∧ Below w.heap.size w w' := by
  obtain ⟨i0, hi, hz0, hz1, hz2⟩ := info_parts Try.infoI
  have hm8 := m.toNat_lt
  have hx8 := x.toNat_lt
  have hy8 := y.toNat_lt
  generalize m.toNat = m at *
  generalize x.toNat = x at *
  generalize y.toNat = y at *
  go_enter Try.func4, Try.ntmps4
  go_wp2_with fail
  refine (lives_any w).mono ?_
  rintro e w1 ⟨rfl, hs⟩
  have HS := Lib.hid hs
  clear hs
  go_wp2_with fail
  go_loopw [7, 8] (fun v i wr => ∃ k : Nat, 1 ≤ k ∧ k ≤ 8 ∧ i = .int .i64 k ∧ wr.ownsRow w1.heap.size 3 1 v (bitsTo m k).length ((bitsTo m k).map iVal) ∧ Step [] w1 wr) (fun _ i _ => 8 - (intOf i).toNat)
  case atStart => exact ⟨1, by omega, by omega, rfl, World.ownsRow_nil _ _ _ _, Step.refl _ _⟩
  case round =>
    obtain ⟨k, hk1, hk8, rfl, hown, hs⟩ := hrel
    have HO := Lib.hid hown
    have HT := Lib.hid hs
    clear hown hs
    by_cases hk : k ≤ 7
    · have hki : (k : Int) ≤ 7 := by omega
      have hlk := bitsTo_len m k
      have hbv := bit_val m k hm8
      have hsu := bitsTo_succ m k hk1
      by_cases ht : m.testBit k = true
      · rw [if_pos ht] at hbv hsu
        go_wp2_with (at_builtin; refine wpList_append_own_any rfl (.tmp 24) (.tmp 26) 22 rfl w1.heap.size 3 i0 (.int .i64 0) 1 8 Try.underlying22 hi hz0 hz1 hz2 rfl (by decide) _ (bitsTo m k).length ((bitsTo m k).map iVal) rfl (HO.out.alloc _) (some ⟨wr.heap.size, 0, none⟩) 1 1 [.int .i64 (k : Int)] rfl (by intro h; cases h) rfl (fun ad h => by cases h; exact cell_one_new _ _ _) (by intro u hu; simp at hu; subst hu; rfl) (by unfold maxLen; omega) (by omega) (by have := HT.out.size; simp; omega) ?_)
        intro v2 w2 hown2 hg2
        have hs2 : Step [] w1 w2 := (HT.out.alloc (.cells #[.int .i64 (k : Int)] 3)).grown hg2 (fun j hj => by
          have := HO.out.lt j hj
          exact .inr this.1)
        have HO2 := Lib.hid hown2
        have HT2 := Lib.hid hs2
        clear hown2 hg2 hs2 HO HT
        go_wp2
        go_roundw
        case rel => exact ⟨k + 1, by omega, by omega, by go_num, by rw [hsu, List.length_append, List.map_append]; exact HO2.out, HT2.out⟩
        case measure => simp [intOf]; omega
      · rw [if_neg ht] at hbv hsu
        rw [List.append_nil] at hsu
        go_wp2
        go_roundw
        case rel => exact ⟨k + 1, by omega, by omega, by go_num, by rw [hsu]; exact HO.out, HT.out⟩
        case measure => simp [intOf]; omega
    · have hk8' : k = 8 := by omega
      subst hk8'
      have hgd := bits_good m hm8
      have hl7 := bitsTo_len m 8
      generalize hL : bitsTo m 8 = L at *
      obtain ⟨a, cap, rfl, _, _, _, hI, hnn, hbl⟩ := owns_ints HO.out
      have HI := Lib.hid hI
      have HW := Lib.hid (HS.out.then HT.out (fun k hk => by cases hk))
      have HBL := Lib.hid hbl
      clear hI HO HT hbl
      go_wp2_with fail
      refine (bnew_any a cap L _ hnn HI.out (by omega)).mono ?_
      rintro e w2 ⟨bb, mb, a2, cap2, rfl, hB, hs, h1, h2, h3⟩
      have HB := Lib.hid hB
      have HW2 := Lib.hid (HW.out.then hs (fun k hk => by cases hk))
      have HI2 := Lib.hid (HI.out.step hs (fun _ _ _ _ => by simp))
      have hwr := HW.out.size
      have hb1 : w.heap.size ≤ bb := by omega
      have hb2 : w.heap.size ≤ mb := by omega
      clear hB hs HI HW
      go_wp2_with fail
      refine (bnew_any a cap L _ hnn HI2.out (by omega)).mono ?_
      rintro e w3 ⟨bb', mb', a3, cap3, rfl, hB', hs, h1', h2', h3'⟩
      have hbt := HB.out.blk.lt
      have hmt := HB.out.map.lt
      have hsz3 := hs.size
      have HC := Lib.hid (HB.out.step0 hs)
      have HC' := Lib.hid hB'
      have HW3 := Lib.hid (HW2.out.then hs (fun k hk => by cases hk))
      have HI3 := Lib.hid (HI2.out.step hs (fun _ _ _ _ => by simp))
      have f1 : mb ≠ bb' ∧ mb ≠ mb' ∧ bb ≠ mb' := ⟨by omega, by omega, by omega⟩
      have f2 : ∀ b off, a3 = some ⟨b, off, none⟩ → 0 < L.length → b ≠ mb := fun b off e _ => by have := h3' b off e; omega
      have f3 : ∀ b off, a2 = some ⟨b, off, none⟩ → 0 < L.length → b ≠ mb' := fun b off e _ => by have := h3 b off e; omega
      have hc1 : w.heap.size ≤ mb' := by have := HW2.out.size; omega
      clear hB' hs HB HW2 HI2
      have far : ∀ b off, a = some ⟨b, off, none⟩ → 0 < L.length → b ≠ mb ∧ b ≠ mb' := fun b off e _ => by have := HBL.out b off none e; exact ⟨by omega, by omega⟩
      have FAR := Lib.hid far
      clear far HBL
      have F2 := Lib.hid f2
      have F3 := Lib.hid f3
      clear f2 f3
      go_wp2_with fail
      have hnd : L.Nodup ∧ (∀ z ∈ L, 0 ≤ z ∧ z ≤ 7) ∧ ∀ z ∈ L, IsI z := by
        by_cases hg : goodM L = true
        · exact ⟨good_nodup hg, good_bounds hg, good_isI hg⟩
        · rw [hgd] at hg
          have : L = [] := by simpa using hg
          subst this
          exact ⟨List.nodup_nil, ⟨fun z hz => (nomatch hz), fun z hz => (nomatch hz)⟩⟩
      obtain ⟨hnd, hbd, hii⟩ := hnd
      clear h1 h2 h3 h1' h2' h3' hbt hmt hsz3
      have HBD := Lib.hid hbd
      have HII := Lib.hid hii
      have HND := Lib.hid hnd
      clear hnd hbd hii hgd
      go_loopw [12, 34] (fun _ i wr => ∃ (k : Nat) (fa fb : Int → Option Bool), k ≤ L.length ∧ i = .int .i64 k ∧ Bal wr bb mb k a2 cap2 L fa ∧ Bal wr bb' mb' k a3 cap3 L fb ∧ Sup L x true fa ∧ Sup L x false fb ∧ Ints wr a L ∧ Step [] w wr) (fun _ i _ => L.length - (intOf i).toNat)
      case atStart => exact ⟨0, _, _, Nat.zero_le _, rfl, HC.out, HC'.out, fun z hz => by simp at hz, fun z hz => by simp at hz, HI3.out, HW3.out⟩
      case round =>
        obtain ⟨k, fa, fb, hk, rfl, hBa, hBb, hSa, hSb, hIr, hs⟩ := hrel
        have HI := Lib.hid hIr
        clear hIr HI3
        have HBa := Lib.hid hBa
        have HBb := Lib.hid hBb
        have HSa := Lib.hid hSa
        have HSb := Lib.hid hSb
        have HS := Lib.hid hs
        clear hBa hBb hSa hSb hs HC HC' HW3
        by_cases hkl : k < L.length
        · obtain ⟨b, off, rfl, hlt, hc⟩ := HI.out k hkl
          have hm : (k : Int) < (L.length : Int) := by omega
          have hzb := HBD.out _ (getD_mem hkl)
          have hzi := HII.out _ (getD_mem hkl)
          generalize L.getD k 0 = z at *
          obtain ⟨j, rfl⟩ : ∃ j : Nat, z = (j : Int) := ⟨z.toNat, by omega⟩
          have hj7 : j ≤ 7 := by omega
          have hbx := bit_val x j hx8
          have hby := bit_val y j hy8
          by_cases hx : x.testBit j = true
          · rw [if_pos hx] at hbx
            have HV := Lib.hid (vote_any (j : Int) true _ HBa.out (by omega) hzi (by omega))
            have HSv := Lib.hid (HSa.out.vote (j : Int) (by simpa using hx))
            generalize voteF L fa (j : Int) true = fa2 at *
            generalize voteUp L fa (j : Int) = up at *
            go_wp2_with fail
            refine HV.out.mono ?_
            rintro e w4 ⟨rfl, hB4, hs⟩
            have HB4 := Lib.hid hB4
            have HB5 := Lib.hid ((HBb.out.step hs (by simpa using fun e => f1.1 e.symm) (by simpa using fun e => f1.2.1 e.symm) (fun b off e h0 => by simpa using F2.out b off e h0)).mono (Nat.le_succ _))
            have HS4 := Lib.hid (HS.out.then hs (fun k hk => by simp at hk; exact .inr (by omega)))
            have HI4 := Lib.hid (HI.out.step hs (fun b' off' e h0 => by simpa using (FAR.out b' off' e h0).1))
            clear hB4 hs HV HBa HBb HS
            go_wp2_with fail
            go_roundw
            case rel => exact ⟨k + 1, fa2, fb, by omega, by go_num, HB4.out, HB5.out, HSv.out, HSb.out, HI4.out, HS4.out⟩
            case measure => simp [intOf]; omega
          · rw [if_neg hx] at hbx
            by_cases hy : y.testBit j = true
            · rw [if_pos hy] at hby
              have HV := Lib.hid (vote_any (j : Int) true _ HBb.out (by omega) hzi (by omega))
              have HSv := Lib.hid (HSb.out.vote (j : Int) (by simpa using hx))
              generalize voteF L fb (j : Int) true = fb2 at *
              generalize voteUp L fb (j : Int) = up at *
              go_wp2_with fail
              refine HV.out.mono ?_
              rintro e w4 ⟨rfl, hB4, hs⟩
              have HB4 := Lib.hid hB4
              have HB5 := Lib.hid ((HBa.out.step hs (by simpa using f1.2.2) (by simpa using f1.2.1) (fun b off e h0 => by simpa using F3.out b off e h0)).mono (Nat.le_succ _))
              have HS4 := Lib.hid (HS.out.then hs (fun k hk => by simp at hk; exact .inr (by omega)))
              have HI4 := Lib.hid (HI.out.step hs (fun b' off' e h0 => by simpa using (FAR.out b' off' e h0).2))
              clear hB4 hs HV HBa HBb HS
              go_wp2_with fail
              go_roundw
              case rel => exact ⟨k + 1, fa, fb2, by omega, by go_num, HB5.out, HB4.out, HSa.out, HSv.out, HI4.out, HS4.out⟩
              case measure => simp [intOf]; omega
            · rw [if_neg hy] at hby
              go_wp2_with fail
              go_roundw
              case rel => exact ⟨k + 1, fa, fb, by omega, by go_num, HBa.out.mono (by omega), HBb.out.mono (by omega), HSa.out, HSb.out, HI.out, HS.out⟩
              case measure => simp [intOf]; omega
        · have hke : k = L.length := by omega
          subst hke
          have HA := Lib.hid (state_any L _ HBa.out (by omega) HND.out (fun z _ h => (HSa.out z h).1) HII.out (by omega))
          have H2 := Lib.hid (cnt_two fa fb (fun z h1 h2 => by have e1 := (HSa.out z h1).2; have e2 := (HSb.out z h2).2; rw [e1] at e2; cases e2) L)
          have HW1 := Lib.hid (state_won (l := L) (y := cnt fa L true) (z := cnt fa L false))
          have HW2 := Lib.hid (state_won (l := L) (y := cnt fb L true) (z := cnt fb L false))
          have HBs := Lib.hid (fun w4 (h : Step [] _ w4) => state_any L w4 (HBb.out.step0 h) (by omega) HND.out (fun z _ h => (HSb.out z h).1) HII.out (by omega))
          generalize stateV L (cnt fa L true) (cnt fa L false) = sa at *
          generalize stateV L (cnt fb L true) (cnt fb L false) = sb at *
          generalize cnt fa L true = ya at *
          generalize cnt fb L true = yb at *
          by_cases hsa : sa = 1
          · have hb : (sa == 1) = true := by simpa using hsa
            have hb2 : (sb == 1) = false := by
              simp
              intro e
              have := HW1.out hsa
              have := HW2.out e
              have := H2.out
              omega
            go_wp2_with fail
            refine HA.out.mono ?_
            rintro e w4 ⟨rfl, hs⟩
            have HS4 := Lib.hid (HS.out.then hs (fun k hk => by cases hk))
            have HB4 := Lib.hid (HBs.out w4 hs)
            clear hs
            go_wp2_with fail
            refine HB4.out.mono ?_
            rintro e w5 ⟨rfl, hs⟩
            have HS5 := Lib.hid (HS4.out.then hs (fun k hk => by cases hk))
            go_wp2_with fail
            go_ret
            refine ⟨ret_bool ?_, HS5.out.below'⟩
            simp at hb2
            simpa using hb2
          · have hb : (sa == 1) = false := by simpa using hsa
            go_wp2_with fail
            refine HA.out.mono ?_
            rintro e w4 ⟨rfl, hs⟩
            have HS4 := Lib.hid (HS.out.then hs (fun k hk => by cases hk))
            clear hs
            go_wp2_with fail
            go_ret
            exact ⟨rfl, HS4.out.below'⟩
end Go.Proofs.Ytnonejablndojaa
