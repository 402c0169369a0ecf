/- BallotAll: the law's own walk. -/
import Derived.Test.YtnonejablndojaaBallotOnceLaw
namespace Go.Proofs.Ytnonejablndojaa
set_option linter.unusedVariables false
open Go.RowKit Go.Maps

/-- how many of a row have a bit -/
def bitN (x : Nat) : List Int → Nat
  | [] => 0
  | z :: l => (if x.testBit z.toNat then 1 else 0) + bitN x l
theorem bitN_app (x : Nat) : ∀ l r, bitN x (l ++ r) = bitN x l + bitN x r
  | [], r => by simp [bitN]
  | z :: l, r => by
    simp only [List.cons_append, bitN]
    rw [bitN_app x l r]
    omega
theorem bitN_le (x : Nat) : ∀ l, bitN x l ≤ l.length
  | [] => Nat.le_refl _
  | z :: l => by
    have := bitN_le x l
    simp only [bitN, List.length_cons]
    split <;> omega

/-- the first k have voted, each by its bit -/
def votedF (x : Nat) (l : List Int) (k : Nat) : Int → Option Bool := fun z => if z ∈ l.take k then some (x.testBit z.toNat) else none

theorem mem_take_succ (l : List Int) (k : Nat) (hk : k < l.length) (n : Int) : n ∈ l.take (k + 1) ↔ n ∈ l.take k ∨ n = l.getD k 0 := by
  rw [List.take_succ_eq_append_getElem hk, List.mem_append]
  simp [List.getD, hk]

theorem not_taken {l : List Int} (h : l.Nodup) (k : Nat) (hk : k < l.length) : l.getD k 0 ∉ l.take k := by
  intro hm
  obtain ⟨i, hi, e⟩ := List.getElem_of_mem hm
  have hik : i < k := by simp at hi; omega
  rw [List.getElem_take] at e
  have e2 : l.getD k 0 = l[k] := by simp [List.getD, hk]
  rw [e2] at e
  have := (List.nodup_iff_pairwise_ne.1 h)
  rw [List.pairwise_iff_getElem] at this
  exact this i k (by omega) hk hik e

theorem voted_step (x : Nat) {l : List Int} (hg : goodM l = true) (k : Nat) (hk : k < l.length) :
    voteUp l (votedF x l k) (l.getD k 0) = true ∧ voteF l (votedF x l k) (l.getD k 0) (x.testBit (l.getD k 0).toNat) = votedF x l (k + 1) := by
  have hn := not_taken (good_nodup hg) k hk
  have h1 : voteUp l (votedF x l k) (l.getD k 0) = true := by
    unfold voteUp votedF
    rw [hg, if_neg hn]
    have := getD_mem hk
    simp only [Bool.true_and, Option.isNone_none, Bool.and_true, decide_eq_true_eq]
    exact this
  refine ⟨h1, ?_⟩
  unfold voteF
  rw [if_pos h1]
  funext z
  unfold upd votedF
  by_cases hz : z = l.getD k 0
  · rw [if_pos hz, if_pos ((mem_take_succ l k hk z).2 (.inr hz)), hz]
  · rw [if_neg hz]
    by_cases hz2 : z ∈ l.take k
    · rw [if_pos hz2, if_pos ((mem_take_succ l k hk z).2 (.inl hz2))]
    · rw [if_neg hz2, if_neg (fun h => ((mem_take_succ l k hk z).1 h).elim hz2 hz)]

theorem voted_cnt (x : Nat) (f : Int → Option Bool) : ∀ l : List Int, (∀ z ∈ l, f z = some (x.testBit z.toNat)) → cnt f l true = bitN x l ∧ cnt f l false = l.length - bitN x l
  | [], _ => ⟨rfl, rfl⟩
  | z :: l, h => by
    obtain ⟨h1, h2⟩ := voted_cnt x f l (fun y hy => h y (by simp [hy]))
    have hz := h z (by simp)
    have hle := bitN_le x l
    unfold cnt bitN
    rw [h1, h2, hz]
    simp only [List.length_cons]
    cases x.testBit z.toNat
    · simp
      omega
    · simp
      omega

theorem all_state {l : List Int} (hg : goodM l = true) (n : Nat) (hn : n ≤ l.length) : stateV l n (l.length - n) = if l.length < 2 * n then 1 else 2 := by
  unfold stateV
  rw [if_pos hg]
  by_cases h : l.length < 2 * n
  · rw [if_pos h, if_pos (by omega)]
  · rw [if_neg h, if_neg (by omega), if_pos (by omega)]

set_option maxRecDepth 100000 in
set_option maxHeartbeats 4000000 in
theorem ballotAll_any (m x : UInt8) (w : World) :
    Calls Try.prog 5 #[.int .u8 (m.toNat : Int), .int .u8 (x.toNat : Int)] w fun e w' => e = .returned (.bool true) ∧ Below w.heap.size w w' := by
  obtain ⟨i0, hi, hz0, hz1, hz2⟩ := info_parts Try.infoI
  have hm8 := m.toNat_lt
  have hx8 := x.toNat_lt
  generalize m.toNat = m at *
  generalize x.toNat = x at *
  go_enter Try.func5, Try.ntmps5
  go_wp2_with fail
  refine (lives_any w).mono ?_
  rintro e w1 ⟨rfl, hs⟩
  have HS := Lib.hid hs
  clear hs
  go_wp2_with fail
  go_loopw [5, 6, 7] (fun v n i wr => ∃ k : Nat, 1 ≤ k ∧ k ≤ 8 ∧ i = .int .i64 k ∧ n = .int .i64 (bitN x (bitsTo m k)) ∧ wr.ownsRow w1.heap.size 3 1 v (bitsTo m k).length ((bitsTo m k).map iVal) ∧ Step [] w1 wr) (fun _ _ i _ => 8 - (intOf i).toNat)
  case atStart => exact ⟨1, by omega, by omega, rfl, rfl, World.ownsRow_nil _ _ _ _, Step.refl _ _⟩
  case round =>
    obtain ⟨k, hk1, hk8, rfl, rfl, hown, hs⟩ := hrel
    have HO := Lib.hid hown
    have HT := Lib.hid hs
    clear hown hs
    by_cases hk : k ≤ 7
    · have hki : (k : Int) ≤ 7 := by omega
      have hlk := bitsTo_len m k
      have hbv := bit_val m k hm8
      have hbx := bit_val x k hx8
      have hsu := bitsTo_succ m k hk1
      by_cases ht : m.testBit k = true
      · rw [if_pos ht] at hbv hsu
        have hnn : (bitN x (bitsTo m (k + 1)) : Nat) = bitN x (bitsTo m k) + (if x.testBit k then 1 else 0) := by
          rw [hsu, bitN_app]
          simp [bitN]
        have hble := bitN_le x (bitsTo m k)
        generalize bitN x (bitsTo m k) = q at *
        have hq : (q : Int) ≤ 8 := by omega
        cases hxt : x.testBit k with
        | true =>
          rw [hxt] at hbx hnn
          simp only [if_true] at hbx hnn
          go_wp2_with (at_builtin; refine wpList_append_own_any rfl (.tmp 22) (.tmp 24) 22 rfl w1.heap.size 3 i0 (.int .i64 0) 1 8 Try.underlying22 hi hz0 hz1 hz2 rfl (by decide) _ (bitsTo m k).length ((bitsTo m k).map iVal) rfl (HO.out.alloc _) (some ⟨wr.heap.size, 0, none⟩) 1 1 [.int .i64 (k : Int)] rfl (by intro h; cases h) rfl (fun ad h => by cases h; exact cell_one_new _ _ _) (by intro u hu; simp at hu; subst hu; rfl) (by unfold maxLen; omega) (by omega) (by have := HT.out.size; simp; omega) ?_)
          intro v2 w2 hown2 hg2
          have hs2 : Step [] w1 w2 := (HT.out.alloc (.cells #[.int .i64 (k : Int)] 3)).grown hg2 (fun j hj => by
            have := HO.out.lt j hj
            exact .inr this.1)
          have HO2 := Lib.hid hown2
          have HT2 := Lib.hid hs2
          clear hown2 hg2 hs2 HO HT
          go_wp2
          go_roundw
          case rel => exact ⟨k + 1, by omega, by omega, by go_num, by rw [hnn]; go_num, by rw [hsu, List.length_append, List.map_append]; exact HO2.out, HT2.out⟩
          case measure => simp [intOf]; omega
        | false =>
          rw [hxt] at hbx hnn
          simp only [Bool.false_eq_true, if_false] at hbx hnn
          go_wp2_with (at_builtin; refine wpList_append_own_any rfl (.tmp 22) (.tmp 24) 22 rfl w1.heap.size 3 i0 (.int .i64 0) 1 8 Try.underlying22 hi hz0 hz1 hz2 rfl (by decide) _ (bitsTo m k).length ((bitsTo m k).map iVal) rfl (HO.out.alloc _) (some ⟨wr.heap.size, 0, none⟩) 1 1 [.int .i64 (k : Int)] rfl (by intro h; cases h) rfl (fun ad h => by cases h; exact cell_one_new _ _ _) (by intro u hu; simp at hu; subst hu; rfl) (by unfold maxLen; omega) (by omega) (by have := HT.out.size; simp; omega) ?_)
          intro v2 w2 hown2 hg2
          have hs2 : Step [] w1 w2 := (HT.out.alloc (.cells #[.int .i64 (k : Int)] 3)).grown hg2 (fun j hj => by
            have := HO.out.lt j hj
            exact .inr this.1)
          have HO2 := Lib.hid hown2
          have HT2 := Lib.hid hs2
          clear hown2 hg2 hs2 HO HT
          go_wp2
          go_roundw
          case rel => exact ⟨k + 1, by omega, by omega, by go_num, by rw [hnn]; first | rfl | go_num, by rw [hsu, List.length_append, List.map_append]; exact HO2.out, HT2.out⟩
          case measure => simp [intOf]; omega
      · rw [if_neg ht] at hbv hsu
        rw [List.append_nil] at hsu
        go_wp2
        go_roundw
        case rel => exact ⟨k + 1, by omega, by omega, by go_num, by rw [hsu], by rw [hsu]; exact HO.out, HT.out⟩
        case measure => simp [intOf]; omega
    · have hk8' : k = 8 := by omega
      subst hk8'
      have hgd := bits_good m hm8
      have hl7 := bitsTo_len m 8
      generalize hL : bitsTo m 8 = L at *
      obtain ⟨a, cap, rfl, _, _, _, hI, hnn, hbl⟩ := owns_ints HO.out
      have HI := Lib.hid hI
      have HW := Lib.hid (HS.out.then HT.out (fun k hk => by cases hk))
      have HBL := Lib.hid hbl
      clear hI HO HT hbl
      by_cases hL0 : L = []
      · subst hL0
        have he : (((([] : List Int).length : Nat) : Int) == 0) = true := rfl
        go_wp2_with fail
        go_ret
        exact ⟨rfl, HW.out.below'⟩
      · have hg : goodM L = true := by rw [hgd]; simpa using hL0
        clear hgd
        have hpos : 0 < L.length := List.length_pos_iff.2 hL0
        have he : (((L.length : Nat) : Int) == 0) = false := by simp; omega
        go_wp2_with fail
        refine (bnew_any a cap L _ hnn HI.out (by omega)).mono ?_
        rintro e w2 ⟨bb, mb, a2, cap2, rfl, hB, hs, h1, h2, h3⟩
        have HB := Lib.hid hB
        have HW2 := Lib.hid (HW.out.then hs (fun k hk => by cases hk))
        have HI2 := Lib.hid (HI.out.step hs (fun _ _ _ _ => by simp))
        have hwr := HW.out.size
        have hb2 : w.heap.size ≤ mb := by omega
        have far : ∀ b off, a = some ⟨b, off, none⟩ → 0 < L.length → b ≠ mb := fun b off e _ => by have := HBL.out b off none e; omega
        have FAR := Lib.hid far
        have HBD := Lib.hid (good_bounds hg)
        have HII := Lib.hid (good_isI hg)
        clear hB hs HI HW h1 h2 h3 hwr far HBL
        have hble := bitN_le x L
        go_wp2_with fail
        go_loopw [10, 40] (fun _ i wr => ∃ (k : Nat), k ≤ L.length ∧ i = .int .i64 k ∧ Bal wr bb mb k a2 cap2 L (votedF x L k) ∧ Ints wr a L ∧ Step [] w wr) (fun _ i _ => L.length - (intOf i).toNat)
        case atStart => exact ⟨0, Nat.zero_le _, rfl, HB.out, HI2.out, HW2.out⟩
        case round =>
          obtain ⟨k, hk, rfl, hB, hI, hs⟩ := hrel
          have HB3 := Lib.hid hB
          have HI3 := Lib.hid hI
          have HS3 := Lib.hid hs
          clear hB hI hs HB HI2 HW2
          by_cases hkl : k < L.length
          · obtain ⟨b, off, rfl, hlt, hc⟩ := HI3.out k hkl
            have hm : (k : Int) < (L.length : Int) := by omega
            have hzb := HBD.out _ (getD_mem hkl)
            have hzi := HII.out _ (getD_mem hkl)
            obtain ⟨v1, v2⟩ := voted_step x hg k hkl
            have V2 := Lib.hid v2
            have V1 := Lib.hid v1
            clear v1 v2
            generalize L.getD k 0 = z at *
            obtain ⟨j, rfl⟩ : ∃ j : Nat, z = (j : Int) := ⟨z.toNat, by omega⟩
            have hj7 : j ≤ 7 := by omega
            have hbx := bit_val x j hx8
            have HV := Lib.hid (vote_any (j : Int) (x.testBit j) _ HB3.out (by omega) hzi (by omega))
            rw [V1.out, show x.testBit j = x.testBit ((j : Int)).toNat by simp, V2.out] at HV
            simp only [Int.toNat_natCast] at HV
            cases hxt : x.testBit j with
            | true =>
              rw [hxt] at hbx HV
              simp only [if_true] at hbx
              go_wp2_with fail
              refine HV.out.mono ?_
              rintro e w4 ⟨rfl, hB4, hs⟩
              have HB4 := Lib.hid hB4
              have HI4 := Lib.hid (HI3.out.step hs (fun b' off' e h0 => by simpa using FAR.out b' off' e h0))
              have HS4 := Lib.hid (HS3.out.then hs (fun k hk => by simp at hk; exact .inr (by omega)))
              clear hB4 hs HV HB3 HI3 HS3
              go_wp2_with fail
              go_roundw
              case rel => exact ⟨k + 1, by omega, by go_num, HB4.out, HI4.out, HS4.out⟩
              case measure => simp [intOf]; omega
            | false =>
              rw [hxt] at hbx HV
              simp only [Bool.false_eq_true, if_false] at hbx
              go_wp2_with fail
              refine HV.out.mono ?_
              rintro e w4 ⟨rfl, hB4, hs⟩
              have HB4 := Lib.hid hB4
              have HI4 := Lib.hid (HI3.out.step hs (fun b' off' e h0 => by simpa using FAR.out b' off' e h0))
              have HS4 := Lib.hid (HS3.out.then hs (fun k hk => by simp at hk; exact .inr (by omega)))
              clear hB4 hs HV HB3 HI3 HS3
              go_wp2_with fail
              go_roundw
              case rel => exact ⟨k + 1, by omega, by go_num, HB4.out, HI4.out, HS4.out⟩
              case measure => simp [intOf]; omega
          · have hke : k = L.length := by omega
            subst hke
            have HA := Lib.hid (bstate_any _ HB3.out hg (fun z h => by
              unfold votedF at h
              by_cases hz : z ∈ L.take L.length
              · rw [List.take_length] at hz; exact hz
              · rw [if_neg hz] at h; cases h))
            obtain ⟨c1, c2⟩ := voted_cnt x (votedF x L L.length) L (fun z hz => by unfold votedF; rw [List.take_length, if_pos hz])
            rw [c1, c2, all_state hg _ hble] at HA
            clear c1 c2
            generalize bitN x L = q at *
            by_cases hq : L.length < 2 * q
            · rw [if_pos hq] at HA
              have hq' : (L.length : Int) < 2 * (q : Int) := by omega
              go_wp2_with fail
              refine HA.out.mono ?_
              rintro e w4 ⟨rfl, hs⟩
              have HS4 := Lib.hid (HS3.out.then hs (fun k hk => by cases hk))
              clear hs
              go_wp2_with fail
              go_ret
              exact ⟨rfl, HS4.out.below'⟩
            · rw [if_neg hq] at HA
              have hq' : ¬ (L.length : Int) < 2 * (q : Int) := by omega
              go_wp2_with fail
              refine HA.out.mono ?_
              rintro e w4 ⟨rfl, hs⟩
              have HS4 := Lib.hid (HS3.out.then hs (fun k hk => by cases hk))
              clear hs
              go_wp2_with fail
              go_ret
              exact ⟨rfl, HS4.out.below'⟩
end Go.Proofs.Ytnonejablndojaa
