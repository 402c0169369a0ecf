/- DiskKeeps: the walk. -/
import Derived.Test.YtjemdcdcjohjpaaDiskKeepsLaw
namespace Go.Proofs.Ytjemdcdcjohjpaa
set_option linter.unusedVariables false
open Go.RowKit Go.Maps

theorem rest_same {w w' : World} {P : Program} {base mb n : Nat} {f : Int → Option SL} {W : List (Nat × List UInt8)} (h : Rows w base mb n f W) {db : Nat} {lv wv wv' : Value} (hd : ∀ j, j ∈ footD db lv wv → ¬ RB mb f j) (hf : Fresh w (foot wv) (foot wv')) : ∀ j, j ∈ footD db lv wv' → ¬ RB mb f j := by
  intro j hj hb
  simp only [footD, List.mem_cons, List.mem_append] at hj
  rcases hj with hj | hj | hj
  · exact hd j (by simp [footD, hj]) hb
  · exact hd j (by simp [footD, hj]) hb
  · rcases hf j hj with h1 | h1
    · exact hd j (by simp [footD, h1]) hb
    · have := (h.live j hb).2
      omega

theorem Dsk.alive {w : World} {base db : Nat} {lv wv : Value} {S : List (List UInt8)} {W : List (Nat × List UInt8)} {d : Bool} (h : Dsk w base db lv wv S W d) : ∀ k, k ∈ footD db lv wv → k < w.heap.size := fun k hk => by
  simp only [footD, List.mem_cons, List.mem_append] at hk
  rcases hk with rfl | hk | hk
  · exact h.blk.lt
  · exact owns_live h.own1 _ hk
  · exact owns_live h.own2 _ hk

theorem last_get {α : Type} (l : List α) (j : Nat) (d : α) (h : l.length = j + 1) : l[j]? = some (l.getLastD d) := by
  have h1 : l ≠ [] := fun e => by subst e; cases h
  rw [List.getLastD_eq_getLast?, List.getLast?_eq_getElem?, h]
  simp only [Nat.add_sub_cancel]
  rw [List.getElem?_eq_getElem (by omega)]
  rfl
/-- some answer so far -/
def MetG (b old : List UInt8) (L : List (List UInt8)) (j : Nat) (G : Bool) : Prop := (b = old ∨ b ∈ L.take j) → G = true
theorem eq_bs (b c : List UInt8) (h : b = c) : ((bstr b).toList == (bstr c).toList) = true := by rw [h]; simp
theorem metG_zero (b old : List UInt8) (L : List (List UInt8)) : MetG b old L 0 ((bstr b).toList == (bstr old).toList) := by
  rintro (h | h)
  · exact eq_bs _ _ h
  · simp at h
theorem MetG.next {b old x : List UInt8} {L : List (List UInt8)} {j : Nat} (h : MetG b old L j false) (hx : L[j]? = some x) : MetG b old L (j + 1) ((bstr b).toList == (bstr x).toList) := by
  rintro (h1 | h1)
  · cases h (.inl h1)
  · rw [List.take_add_one, hx] at h1
    simp only [Option.toList_some, List.mem_append, List.mem_singleton] at h1
    rcases h1 with h1 | h1
    · cases h (.inr h1)
    · exact eq_bs _ _ h1
theorem full_nil (w : World) : Calls Try.prog 10 #[.string { data := #[] }] w fun e w' => e = .returned (.string (bstr zeroS)) ∧ w = w' := full_any [] (by decide) w

set_option maxRecDepth 100000 in
set_option maxHeartbeats 4000000 in
theorem diskKeeps_any (a1 a2 : Option Addr) (c1 c2 : Nat) (l m : List Ac) (K : Int) (w : World) (hA1 : Acts w a1 l) (hA2 : Acts w a2 m) :
    Calls Try.prog 3 #[.slice a1 l.length c1, .slice a2 m.length c2, .int .u64 K] w fun e w' => e = .returned (.bool true) ∧ Below w.heap.size w w' := by
  have H1 := Lib.hid hA1
  have H2 := Lib.hid hA2
  clear hA1 hA2
  have LV := Lib.hid (lives_any)
  by_cases q1 : 60 < l.length
  · have p1 : decide ((60 : Int) < (l.length : Int)) = true := by simp; omega
    go_enter Try.func3, Try.ntmps3
    go_wp2_with fail
    refine (LV.out _).mono ?_
    rintro e w1 ⟨rfl, hs1⟩
    have HS1 := Lib.hid (((Step.refl [] w).alloc (.cells #[.int .u64 K] 23)).then hs1 (by simp))
    clear hs1
    go_wp2_with fail
    refine (LV.out _).mono ?_
    rintro e w2 ⟨rfl, hs2⟩
    have HS2 := Lib.hid (HS1.out.then hs2 (by simp))
    clear hs2
    go_wp2_with fail
    go_ret
    exact ⟨rfl, HS2.out.below'⟩
  have p1 : decide ((60 : Int) < (l.length : Int)) = false := by simp; omega
  by_cases q2 : 60 < m.length
  · have p2 : decide ((60 : Int) < (m.length : Int)) = true := by simp; omega
    go_enter Try.func3, Try.ntmps3
    go_wp2_with fail
    refine (LV.out _).mono ?_
    rintro e w1 ⟨rfl, hs1⟩
    have HS1 := Lib.hid (((Step.refl [] w).alloc (.cells #[.int .u64 K] 23)).then hs1 (by simp))
    clear hs1
    go_wp2_with fail
    refine (LV.out _).mono ?_
    rintro e w2 ⟨rfl, hs2⟩
    have HS2 := Lib.hid (HS1.out.then hs2 (by simp))
    clear hs2
    go_wp2_with fail
    go_ret
    exact ⟨rfl, HS2.out.below'⟩
  have p2 : decide ((60 : Int) < (m.length : Int)) = false := by simp; omega
  go_enter Try.func3, Try.ntmps3
  go_wp2_with fail
  refine (LV.out _).mono ?_
  rintro e w1 ⟨rfl, hs1⟩
  have hs0 : Step [] w (w.alloc (.cells #[.int .u64 K] 23)) := (Step.refl [] w).alloc _
  have HS1 := Lib.hid (hs0.then hs1 (by simp))
  have HK1 := Lib.hid ((Blk.new w #[.int .u64 K] 23).step hs1 (by simp))
  have hz1 : w.heap.size < w1.heap.size := HK1.out.lt
  clear hs1 hs0
  go_wp2_with fail
  refine (new_any 8 w1 (by decide) (by decide)).mono ?_
  rintro e w2 ⟨db, lv, rfl, hD2, hs2⟩
  have HS2 := Lib.hid (HS1.out.then hs2 (by simp))
  have HK2 := Lib.hid (HK1.out.step hs2 (by simp))
  obtain ⟨S0, hS0⟩ : ∃ S, List.replicate 8 zeroS = S := ⟨_, rfl⟩
  have HS0 := Lib.hid hS0
  have h80 : S0.length = 8 := by rw [← hS0]; rfl
  rw [hS0] at hD2
  have H80 := Lib.hid h80
  have HL2 := Lib.hid hD2.alive
  have HD2 := Lib.hid hD2
  have HB2 := Lib.hid (footD_new hD2 rfl)
  have hz2 : w1.heap.size ≤ w2.heap.size := hs2.size
  clear hS0 h80 hD2 hs2
  -- the box of the disk
  obtain ⟨w3, hw3⟩ : ∃ w', w2.alloc (.cells #[.pointer (some ⟨db, 0, none⟩)] 25) = w' := ⟨_, rfl⟩
  have hs3 : Step [] w2 w3 := by rw [← hw3]; exact (Step.refl [] w2).alloc _
  have HB3 := Lib.hid (show Blk w3 w2.heap.size #[.pointer (some ⟨db, 0, none⟩)] 25 by rw [← hw3]; exact Blk.new _ _ _)
  have HD3 := Lib.hid (HD2.out.step hs3 (by simp))
  have HK3 := Lib.hid (HK2.out.step hs3 (by simp))
  have HS3 := Lib.hid (HS2.out.then hs3 (by simp))
  have hz3 : w2.heap.size < w3.heap.size := HB3.out.lt
  have HE3 := Lib.hid hw3
  clear hw3 hs3
  go_wp2_with fail
  rw [HE3.out]
  have hdn : w2.heap.size ∉ footD db lv (.slice none 0 0) := fun hk => by have := HL2.out _ hk; omega
  refine (write_cl w1.heap.size db w2.heap.size lv (.slice none 0 0) S0 a1 c1 l w3 HD3.out H80.out (HB3.out.cell 0) hdn (fun w' hw' => H1.out.step (HS3.out.then hw' (fun k hk => .inr (Nat.le_trans (Nat.le_of_lt hz1) (HD3.out.base k hk))))) (by omega)).mono ?_
  rintro e w4 ⟨rfl, hW4⟩
  obtain ⟨W1, hW1⟩ : ∃ W, accL l l.length = W := ⟨_, rfl⟩
  have HW1 := Lib.hid hW1
  rw [hW1] at hW4
  obtain ⟨wv4, f1, n1, hn1, hD4, hst4, hfr4, hR4, hdis4⟩ := hW4
  have hb4 : ∀ k, k ∈ footD db lv wv4 → w1.heap.size ≤ k := hD4.base
  have hbn4 : w2.heap.size ∉ footD db lv wv4 := fun hk => by
    simp only [footD, List.mem_cons, List.mem_append] at hk
    rcases hk with hk | hk | hk
    · have := HL2.out db (by simp [footD]); omega
    · have := HL2.out w2.heap.size (by simp [footD, hk]); omega
    · rcases hfr4 _ hk with h | h
      · simp [foot, Value.ownBlock] at h
      · omega
  have HB4 := Lib.hid (HB3.out.step hst4 hdn)
  have HK4 := Lib.hid (HK3.out.step hst4 (fun hk => by have := HD3.out.base _ hk; omega))
  have HS4 := Lib.hid (HS3.out.then hst4 (fun k hk => .inr (Nat.le_trans (Nat.le_of_lt hz1) (HD3.out.base k hk))))
  have HD4 := Lib.hid hD4
  have HR4 := Lib.hid hR4
  have HDI4 := Lib.hid hdis4
  have HBB4 := Lib.hid hb4
  have HBN4 := Lib.hid hbn4
  have hc4 := HB4.out.cell 0
  simp only [List.getElem?_toArray, List.getElem?_cons_zero] at hc4
  clear hW1 hD4 hst4 hfr4 hR4 hdis4 hb4 hbn4
  go_wp2_with fail
  refine (sync_any _ _ _ _ _ _ _ HD4.out).mono ?_
  rintro e w5 ⟨rfl, hD5, hs5⟩
  obtain ⟨S1, hS1⟩ : ∃ S, syncS W1 S0 = S := ⟨_, rfl⟩
  have HS1e := Lib.hid hS1
  have h81 : S1.length = 8 := by rw [← hS1]; exact (setl_len _ _ _ _).trans H80.out
  rw [hS1] at hD5
  have H81 := Lib.hid h81
  have HD5 := Lib.hid hD5
  have HR5 := Lib.hid (HR4.out.step hs5 HDI4.out)
  have HB5 := Lib.hid (HB4.out.step hs5 HBN4.out)
  have HK5 := Lib.hid (HK4.out.step hs5 (fun hk => by have := HBB4.out _ hk; omega))
  have HS5 := Lib.hid (HS4.out.then hs5 (fun k hk => .inr (Nat.le_trans (Nat.le_of_lt hz1) (HBB4.out k hk))))
  have hsub : ∀ j, j ∈ footD db lv (.slice none 0 0) → j ∈ footD db lv wv4 := fun j hj => by
    simp only [footD, List.mem_cons, List.mem_append] at hj ⊢
    rcases hj with hj | hj | hj
    · exact .inl hj
    · exact .inr (.inl hj)
    · simp [foot, Value.ownBlock] at hj
  have HDI5 := Lib.hid (fun j hj => HDI4.out j (hsub j hj))
  have hdn5 : w2.heap.size ∉ footD db lv (.slice none 0 0) := hdn
  clear hS1 h81 hD5 hs5 hsub hc4
  go_wp2_with fail
  refine (write_cl w1.heap.size db w2.heap.size lv (.slice none 0 0) S1 a2 c2 m w5 HD5.out H81.out (HB5.out.cell 0) hdn (fun w' hw' => H2.out.step (HS5.out.then hw' (fun k hk => .inr (Nat.le_trans (Nat.le_of_lt hz1) (HD5.out.base k hk))))) (by omega)).mono ?_
  rintro e w6 ⟨rfl, hW6⟩
  obtain ⟨W2, hW2⟩ : ∃ W, accL m m.length = W := ⟨_, rfl⟩
  have HW2 := Lib.hid hW2
  rw [hW2] at hW6
  obtain ⟨wv6, f2, n2, hn2, hD6, hst6, hfr6, hR6, hdis6⟩ := hW6
  have hb6 : ∀ k, k ∈ footD db lv wv6 → w1.heap.size ≤ k := hD6.base
  have hle5 : w2.heap.size < w5.heap.size := HB5.out.lt
  have hbn6 : w2.heap.size ∉ footD db lv wv6 := fun hk => by
    simp only [footD, List.mem_cons, List.mem_append] at hk
    rcases hk with hk | hk | hk
    · have := HL2.out db (by simp [footD]); omega
    · have := HL2.out w2.heap.size (by simp [footD, hk]); omega
    · rcases hfr6 _ hk with h | h
      · simp [foot, Value.ownBlock] at h
      · omega
  have HB6 := Lib.hid (HB5.out.step hst6 hdn)
  have HK6 := Lib.hid (HK5.out.step hst6 (fun hk => by have := HD5.out.base _ hk; omega))
  have HS6 := Lib.hid (HS5.out.then hst6 (fun k hk => .inr (Nat.le_trans (Nat.le_of_lt hz1) (HD5.out.base k hk))))
  have HD6 := Lib.hid hD6
  have HRa6 := Lib.hid (HR5.out.step hst6 HDI5.out)
  have HDa6 := Lib.hid (rest_same (w' := w5) (P := Try.prog) HR5.out HDI5.out hfr6)
  have HRb6 := Lib.hid hR6
  have HDb6 := Lib.hid hdis6
  have HBB6 := Lib.hid hb6
  have HBN6 := Lib.hid hbn6
  have hc6 := HB6.out.cell 0
  simp only [List.getElem?_toArray, List.getElem?_cons_zero] at hc6
  clear hW2 hD6 hst6 hfr6 hR6 hdis6 hb6 hbn6
  go_wp2_with fail
  have hcr := crash_any _ _ _ _ _ _ _ _ HD6.out 13 #[.pointer (some ⟨w.heap.size, 0, none⟩)] (keepB K) (fun args w => by rfl) (fun i w' _ hw' => keep_any _ K i w' ((HK6.out.step hw' (fun hk => by have := HBB6.out _ hk; omega)).cell 0))
  refine hcr.mono ?_
  clear hcr
  rintro e w7 ⟨rfl, hD7, hs7⟩
  have HD7 := Lib.hid hD7
  have HRa7 := Lib.hid (HRa6.out.step hs7 HDa6.out)
  have HRb7 := Lib.hid (HRb6.out.step hs7 HDb6.out)
  have HB7 := Lib.hid (HB6.out.step hs7 HBN6.out)
  have HS7 := Lib.hid (HS6.out.then hs7 (fun k hk => .inr (Nat.le_trans (Nat.le_of_lt hz1) (HBB6.out k hk))))
  have hc7 := HB7.out.cell 0
  simp only [List.getElem?_toArray, List.getElem?_cons_zero] at hc7
  clear hD7 hs7 hc6
  go_wp2_with fail
  refine (up_any _ _ _ _ _ _ _ _ HD7.out).mono ?_
  rintro e w8 ⟨rfl, hD8, hs8⟩
  have hin : ∀ k, k ∈ [db] → k ∈ footD db lv wv6 := fun k hk => by simp at hk; subst hk; simp [footD]
  obtain ⟨S2, hS2⟩ : ∃ S, setl (keepB K) W2 S1 W2.length = S := ⟨_, rfl⟩
  rw [hS2] at hD8
  have hc8 : w8.cell? ⟨w2.heap.size, 0, none⟩ = some (.pointer (some ⟨db, 0, none⟩)) := (hs8.cell HB7.out.lt (fun hk => HBN6.out (hin _ hk))).trans hc7
  have HLA := Lib.hid (show Last w8 w1.heap.size db w2.heap.size lv S2 w3.heap.size w3.heap.size n1 f1 W1 w5.heap.size w5.heap.size n2 f2 W2 from
    ⟨hD8, hc8, HRa7.out.step hs8 (fun k hk => HDa6.out k (hin k hk)), HRb7.out.step hs8 (fun k hk => HDb6.out k (hin k hk))⟩)
  have HS8 := Lib.hid (HS7.out.then hs8 (fun k hk => .inr (Nat.le_trans (Nat.le_of_lt hz1) (HBB6.out k (hin k hk)))))
  have HAT := Lib.hid (fun q (hq : q < 8) => (by
    have h := keeps_at (keepB K) W1 W2 S0 H80.out (fun q hq => by rw [← HS0.out, List.getD_eq_getElem?_getD, List.getElem?_replicate, if_pos hq]; rfl) q hq
    rw [HS1e.out, hS2] at h
    exact h : ∃ b, S2[q]? = some b ∧ (b = (hist W1 q).getLastD zeroS ∨ b ∈ hist W2 q)))
  have H82 := Lib.hid (show S2.length = 8 by rw [← hS2]; exact (setl_len _ _ _ _).trans H81.out)
  have HZ1 := Lib.hid (show W1.length ≤ 60 by rw [← HW1.out]; have := accL_len l l.length; omega)
  have HZ2 := Lib.hid (show W2.length ≤ 60 by rw [← HW2.out]; have := accL_len m m.length; omega)
  have hxx : w8.heap.size = w8.heap.size := rfl
  clear hD8 hs8 hS2 hc7 hc8 hin hdn hdn5 hxx hle5 hz2 hz3 hn1 hn2 hz1
  clear H1 H2 LV HS1 HK1 HS2 HK2 HS0 H80 HL2 HD2 HB2 HB3 HD3 HK3 HS3 HE3 HW1 HB4 HK4 HS4 HD4 HR4 HDI4 HBB4 HBN4 HS1e H81 HD5 HR5 HB5 HK5 HS5 HDI5 HW2 HB6 HK6 HS6 HD6 HRa6 HDa6 HRb6 HDb6 HBB6 HBN6 HD7 HRa7 HRb7 HB7 HS7 p1 p2 q1 q2
  go_wp2_with fail
  have FN := Lib.hid full_nil
  go_loopw [52] (fun i wr => ∃ k : Nat, k ≤ 8 ∧ i = .int .i64 k ∧ Last wr w1.heap.size db w2.heap.size lv S2 w3.heap.size w3.heap.size n1 f1 W1 w5.heap.size w5.heap.size n2 f2 W2 ∧ Step [] w wr) (fun i _ => 8 - (intOf i).toNat)
  case atStart => exact ⟨0, by omega, rfl, HLA.out, HS8.out⟩
  case round =>
    obtain ⟨k, hk8, rfl, hL, hS⟩ := hrel
    by_cases hk : k < 8
    · have hkk : (k : Int) < 8 := by omega
      obtain ⟨b, hb1, hb2⟩ := HAT.out k hk
      have hrd := read_ok _ _ _ _ _ _ k 1 _ hL.dsk (by decide) (by rw [H82.out]; omega)
      rw [read_one _ _ _ hb1] at hrd
      have HRD := Lib.hid hrd
      have HL := Lib.hid hL
      have HS := Lib.hid hS
      have HB2 := Lib.hid hb2
      have hc := hL.box
      clear hrd hL hS hb1 hb2 HLA HS8
      go_wp2_with fail
      refine HRD.out.mono ?_
      rintro e w9 ⟨v9, rfl, hO9, hs9⟩
      have hst := owns_str hO9 30 9 5 Try.underlying30 Try.underlying5 Try.underlying9
      rw [show [b].flatten = b by simp] at hst
      have HL9 := Lib.hid (HL.out.step hs9)
      have HS9 := Lib.hid (HS.out.then hs9 (by simp))
      obtain ⟨ao, cap, l1, o1, e1⟩ := HL9.out.r1.look k hk
      obtain ⟨bo, cbp, l2, o2, e2⟩ := HL9.out.r2.look k hk
      obtain ⟨m1, hm1⟩ : ∃ n, (hist W1 k).length = n := ⟨_, rfl⟩
      obtain ⟨m2, hm2⟩ : ∃ n, (hist W2 k).length = n := ⟨_, rfl⟩
      have hm1b : m1 ≤ 60 := by rw [← hm1]; exact Nat.le_trans (hist_len _ _) HZ1.out
      have hm2b : m2 ≤ 60 := by rw [← hm2]; exact Nat.le_trans (hist_len _ _) HZ2.out
      rw [hm1] at l1 o1 e1
      rw [hm2] at l2 o2 e2
      have HM1 := Lib.hid hm1
      have HM2 := Lib.hid hm2
      have HE1 := Lib.hid e1
      have HO1 := Lib.hid o1
      have HO2 := Lib.hid o2
      clear hO9 hs9 HRD HL HS hc e1 e2 o1 o2 hm1 hm2
      obtain ⟨old, ho⟩ : ∃ o, (hist W1 k).getLastD zeroS = o := ⟨_, rfl⟩
      have HOLD := Lib.hid ho
      by_cases hz : m1 = 0
      · subst hz
        have : old = zeroS := by
          rw [← ho, List.eq_nil_of_length_eq_zero HM1.out]
          rfl
        subst this
        clear ho
        go_wp2_with fail
        refine (FN.out _).mono ?_
        rintro e w10 ⟨rfl, rfl⟩
        go_wp2_with fail
        go_loop [17, 83] (fun g i => ∃ (j : Nat) (G : Bool), j ≤ m2 ∧ i = .int .i64 j ∧ g = .bool G ∧ MetG b zeroS (hist W2 k) j G) (fun _ i => m2 - (intOf i).toNat)
        case atStart => exact ⟨0, _, Nat.zero_le _, rfl, rfl, metG_zero b zeroS _⟩
        case round =>
          obtain ⟨i, G, hi, rfl, rfl, hG⟩ := hrel
          have HG := Lib.hid hG
          clear hG
          by_cases hlt : i < m2
          · have hii : (i : Int) < (m2 : Int) := by omega
            obtain ⟨g2, cg2, hge2, -, -, -, -⟩ := owns_form HO2.out (by omega)
            cases hge2
            obtain ⟨x, hx⟩ : ∃ x, (hist W2 k)[i]? = some x := ⟨_, List.getElem?_eq_getElem (by rw [HM2.out]; exact hlt)⟩
            have hcell := HO2.out.cellAt i (by omega)
            rw [List.getElem?_map, hx] at hcell
            have hcell3 : w9.cell? ⟨g2, i, none⟩ = some (.string (bstr x)) := hcell
            have HX := Lib.hid hx
            clear hcell hx
            cases G with
            | true =>
              go_wp2_with fail
              go_round
              case rel => exact ⟨i + 1, true, by omega, by go_num, rfl, fun _ => rfl⟩
              case measure => simp [intOf]; omega
            | false =>
              go_wp2_with fail
              go_round
              case rel => exact ⟨i + 1, _, by omega, by go_num, rfl, HG.out.next HX.out⟩
              case measure => simp [intOf]; omega
          · have hie : i = m2 := by omega
            subst hie
            have hG1 : G = true := HG.out (by
              rw [List.take_of_length_le (by rw [HM2.out]; exact Nat.le_refl _)]
              have h := HB2.out
              rw [HOLD.out] at h
              exact h)
            subst hG1
            go_wp2_with fail
            go_roundw
            case rel => exact ⟨k + 1, by omega, by go_num, HL9.out, HS9.out⟩
            case measure => simp [intOf]; omega
      · obtain ⟨j, rfl⟩ : ∃ m, m1 = m + 1 := ⟨m1 - 1, by omega⟩
        obtain ⟨g, cg, hge, -, -, -, -⟩ := owns_form HO1.out (by omega)
        cases hge
        have hcell := HO1.out.cellAt j (by omega)
        rw [List.getElem?_map, last_get _ _ zeroS HM1.out, HOLD.out] at hcell
        have hcell2 : w9.cell? ⟨g, j, none⟩ = some (.string (bstr old)) := hcell
        have p0 : (0 : Int) < ((j + 1 : Nat) : Int) := by omega
        clear hcell ho HE1 hz
        go_wp2_with fail
        refine (FN.out _).mono ?_
        rintro e w10 ⟨rfl, rfl⟩
        go_wp2_with fail
        go_loop [17, 83] (fun g i => ∃ (j : Nat) (G : Bool), j ≤ m2 ∧ i = .int .i64 j ∧ g = .bool G ∧ MetG b old (hist W2 k) j G) (fun _ i => m2 - (intOf i).toNat)
        case atStart => exact ⟨0, _, Nat.zero_le _, rfl, rfl, metG_zero b old _⟩
        case round =>
          obtain ⟨i, G, hi, rfl, rfl, hG⟩ := hrel
          have HG := Lib.hid hG
          clear hG
          by_cases hlt : i < m2
          · have hii : (i : Int) < (m2 : Int) := by omega
            obtain ⟨g2, cg2, hge2, -, -, -, -⟩ := owns_form HO2.out (by omega)
            cases hge2
            obtain ⟨x, hx⟩ : ∃ x, (hist W2 k)[i]? = some x := ⟨_, List.getElem?_eq_getElem (by rw [HM2.out]; exact hlt)⟩
            have hcell := HO2.out.cellAt i (by omega)
            rw [List.getElem?_map, hx] at hcell
            have hcell3 : w9.cell? ⟨g2, i, none⟩ = some (.string (bstr x)) := hcell
            have HX := Lib.hid hx
            clear hcell hx
            cases G with
            | true =>
              go_wp2_with fail
              go_round
              case rel => exact ⟨i + 1, true, by omega, by go_num, rfl, fun _ => rfl⟩
              case measure => simp [intOf]; omega
            | false =>
              go_wp2_with fail
              go_round
              case rel => exact ⟨i + 1, _, by omega, by go_num, rfl, HG.out.next HX.out⟩
              case measure => simp [intOf]; omega
          · have hie : i = m2 := by omega
            subst hie
            have hG1 : G = true := HG.out (by
              rw [List.take_of_length_le (by rw [HM2.out]; exact Nat.le_refl _)]
              have h := HB2.out
              rw [HOLD.out] at h
              exact h)
            subst hG1
            go_wp2_with fail
            go_roundw
            case rel => exact ⟨k + 1, by omega, by go_num, HL9.out, HS9.out⟩
            case measure => simp [intOf]; omega
    · have hk8' : k = 8 := by omega
      subst hk8'
      have HS := Lib.hid hS
      clear hL hS HLA HS8
      go_wp2_with fail
      go_ret
      exact ⟨rfl, HS.out.below'⟩
end Go.Proofs.Ytjemdcdcjohjpaa
