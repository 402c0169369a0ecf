/- DiskAll: the walk. -/
import Derived.Test.YtjemdcdcjohjpaaDiskH
namespace Go.Proofs.Ytjemdcdcjohjpaa
set_option linter.unusedVariables false
open Go.RowKit

theorem true_any (i : Nat) (w : World) : Calls Try.prog 17 #[.int .i64 (i : Int)] w fun e w' => e = .returned (.bool true) ∧ w = w' := by
  go_enter Try.func17, Try.ntmps17
  go_wp2
  go_ret
  exact ⟨rfl, rfl⟩

theorem sync_len (W : List (Nat × List UInt8)) (S : List (List UInt8)) : (syncS W S).length = S.length := setl_len _ _ _ _
theorem cut_all (S : List (List UInt8)) (h : S.length = 8) : cutS S 0 8 = S := by
  unfold cutS
  rw [List.drop_zero, List.take_of_length_le (by omega)]
theorem read_all (W : List (Nat × List UInt8)) (S : List (List UInt8)) (h : S.length = 8) : readS W S 0 8 = syncS W S := by
  unfold readS
  exact cut_all _ (by rw [sync_len, h])

/-- a disk whose blocks lie in a stretch -/
structure Rg (w : World) (lo hi base db : Nat) (lv wv : Value) (S : List (List UInt8)) (W : List (Nat × List UInt8)) (d : Bool) : Prop where
  dsk : Dsk w base db lv wv S W d
  ran : ∀ k, k ∈ footD db lv wv → lo ≤ k ∧ k < hi
theorem Rg.other {F : List Nat} {w w' : World} {lo hi lo2 hi2 base db : Nat} {lv wv : Value} {S : List (List UInt8)} {W : List (Nat × List UInt8)} {d : Bool} (h : Rg w lo hi base db lv wv S W d) (hs : Step F w w') (hF : ∀ k, k ∈ F → lo2 ≤ k ∧ k < hi2) (hne : hi ≤ lo2 ∨ hi2 ≤ lo) : Rg w' lo hi base db lv wv S W d :=
  ⟨h.dsk.step hs (fun k hk hm => by have := h.ran k hk; have := hF k hm; omega), h.ran⟩
theorem Rg.quiet {w w' : World} {lo hi base db : Nat} {lv wv : Value} {S : List (List UInt8)} {W : List (Nat × List UInt8)} {d : Bool} (h : Rg w lo hi base db lv wv S W d) (hs : Step [] w w') : Rg w' lo hi base db lv wv S W d :=
  ⟨h.dsk.step hs (by simp), h.ran⟩
theorem Rg.now {w w' : World} {lo hi base db : Nat} {lv wv wv' : Value} {S S' : List (List UInt8)} {W W' : List (Nat × List UInt8)} {d d' : Bool} (h : Rg w lo hi base db lv wv S W d) (h' : Dsk w' base db lv wv' S' W' d') (hf : wv' = .slice none 0 0 ∨ wv' = wv) : Rg w' lo hi base db lv wv' S' W' d' :=
  ⟨h', fun k hk => h.ran k (by
    rcases hf with rfl | rfl
    · simp only [footD, List.mem_cons, List.mem_append] at hk ⊢
      rcases hk with hk | hk | hk
      · exact .inl hk
      · exact .inr (.inl hk)
      · simp [foot, Value.ownBlock] at hk
    · exact hk)⟩
theorem Rg.db {w : World} {lo hi base db : Nat} {lv wv : Value} {S : List (List UInt8)} {W : List (Nat × List UInt8)} {d : Bool} (h : Rg w lo hi base db lv wv S W d) : ∀ k, k ∈ [db] → lo ≤ k ∧ k < hi := fun k hk => by
  simp at hk
  subst hk
  exact h.ran _ (by simp [footD])
theorem Dsk.live {w : World} {base db : Nat} {lv wv : Value} {S : List (List UInt8)} {W : List (Nat × List UInt8)} {d : Bool} (h : Dsk w base db lv wv S W d) : ∀ k, k ∈ footD db lv wv → k < w.heap.size := fun k hk => by
  simp only [footD, List.mem_cons, List.mem_append] at hk
  rcases hk with rfl | hk | hk
  · exact h.blk.lt
  · exact owns_live h.own1 _ hk
  · exact owns_live h.own2 _ hk
theorem Dsk.rg {w : World} {base db : Nat} {lv wv : Value} {S : List (List UInt8)} {W : List (Nat × List UInt8)} {d : Bool} (h : Dsk w base db lv wv S W d) : Rg w base w.heap.size base db lv wv S W d :=
  ⟨h, fun k hk => ⟨h.base k hk, h.live k hk⟩⟩

set_option maxRecDepth 100000 in
set_option maxHeartbeats 4000000 in
theorem diskAll_any (a1 a2 : Option Addr) (c1 c2 : Nat) (l m : List Ac) (w : World) (hA1 : Acts w a1 l) (hA2 : Acts w a2 m) :
    Calls Try.prog 4 #[.slice a1 l.length c1, .slice a2 m.length c2] w fun e w' => e = .returned (.bool true) ∧ Below w.heap.size w w' := by
  have H1 := Lib.hid hA1
  have H2 := Lib.hid hA2
  clear hA1 hA2
  have LV := Lib.hid (lives_any)
  by_cases q1 : 60 < l.length
  · have p1 : decide ((60 : Int) < (l.length : Int)) = true := by simp; omega
    go_enter Try.func4, Try.ntmps4
    go_wp2_with fail
    refine (LV.out _).mono ?_
    rintro e w1 ⟨rfl, hs1⟩
    have HS1 := Lib.hid hs1
    clear hs1
    go_wp2_with fail
    refine (LV.out _).mono ?_
    rintro e w2 ⟨rfl, hs2⟩
    have HS2 := Lib.hid (HS1.out.then hs2 (by simp))
    clear hs2
    go_wp2_with fail
    go_ret
    exact ⟨rfl, HS2.out.below'⟩
  have p1 : decide ((60 : Int) < (l.length : Int)) = false := by simp; omega
  by_cases q2 : 60 < m.length
  · have p2 : decide ((60 : Int) < (m.length : Int)) = true := by simp; omega
    go_enter Try.func4, Try.ntmps4
    go_wp2_with fail
    refine (LV.out _).mono ?_
    rintro e w1 ⟨rfl, hs1⟩
    have HS1 := Lib.hid hs1
    clear hs1
    go_wp2_with fail
    refine (LV.out _).mono ?_
    rintro e w2 ⟨rfl, hs2⟩
    have HS2 := Lib.hid (HS1.out.then hs2 (by simp))
    clear hs2
    go_wp2_with fail
    go_ret
    exact ⟨rfl, HS2.out.below'⟩
  have p2 : decide ((60 : Int) < (m.length : Int)) = false := by simp; omega
  go_enter Try.func4, Try.ntmps4
  go_wp2_with fail
  refine (LV.out _).mono ?_
  rintro e w1 ⟨rfl, hs1⟩
  have HS1 := Lib.hid hs1
  clear hs1
  go_wp2_with fail
  refine (new_any 8 w1 (by decide) (by decide)).mono ?_
  rintro e w2 ⟨db, lv, rfl, hD2, hs2⟩
  have HS2 := Lib.hid (HS1.out.then hs2 (by simp))
  obtain ⟨S0, hS0⟩ : ∃ S, List.replicate 8 zeroS = S := ⟨_, rfl⟩
  have HS0 := Lib.hid hS0
  have h80 : S0.length = 8 := by rw [← hS0]; rfl
  rw [hS0] at hD2
  have H80 := Lib.hid h80
  have HD2 := Lib.hid hD2
  have HL0 := Lib.hid (show LoopR w1.heap.size db lv S0 (.slice none 0 0) w2 [] w2 from ⟨_, hD2, Step.refl _ _, fun k hk => .inl hk⟩)
  have HB2 := Lib.hid (footD_new hD2 rfl)
  clear hS0 h80 hD2 hs2
  obtain ⟨n1, hn1⟩ : ∃ n, l.length = n := ⟨_, rfl⟩
  have HN1 := Lib.hid hn1
  have hb1 : n1 ≤ 60 := by omega
  rw [hn1] at p1 ⊢
  clear hn1
  obtain ⟨n2, hn2⟩ : ∃ n, m.length = n := ⟨_, rfl⟩
  have HN2 := Lib.hid hn2
  have hb2 : n2 ≤ 60 := by omega
  rw [hn2] at p2 ⊢
  clear hn2 q1 q2
  go_wp2_with fail
  go_loopw [43] (fun j wr => ∃ k : Nat, k ≤ n1 ∧ j = .int .i64 k ∧ LoopR w1.heap.size db lv S0 (.slice none 0 0) w2 (accL l k) wr) (fun j _ => n1 - (intOf j).toNat)
  case atStart => exact ⟨0, Nat.zero_le _, rfl, HL0.out⟩
  case round =>
    obtain ⟨k, hkn, rfl, hL⟩ := hrel
    have HL := Lib.hid hL
    have hst : Step [] w wr := by
      obtain ⟨wv, g1, g2, g3⟩ := hL
      exact HS2.out.then g2 (fun k hk => by
        rcases HB2.out k hk with h | h
        · cases h
        · exact .inr (Nat.le_trans HS1.out.size h))
    have HST := Lib.hid hst
    clear hL hst
    by_cases hk : k < n1
    · have hkl : k < l.length := by have := HN1.out; omega
      have hkk : (k : Int) < (n1 : Int) := by omega
      obtain ⟨x, hx⟩ : ∃ x, l.getD k ac0 = x := ⟨_, rfl⟩
      obtain ⟨b, off, ha, hlt, r0, r1, r2, r3, r4, r5, r6⟩ := H1.out.step HST.out k hkl
      rw [hx] at r0 r1 r2 r3 r4 r5 r6
      subst ha
      have hnext : accL l (k + 1) = accA (accL l k) x := by rw [accL_next l k hkl, hx]
      have HNX := Lib.hid hnext
      have HR5 := Lib.hid r5
      have HR6 := Lib.hid r6
      clear hnext r5 r6 hx
      by_cases q3 : x.bs.length ≤ 64
      · have p3 : decide ((x.bs.length : Int) ≤ 64) = true := by simp; omega
        obtain ⟨bn, hbn⟩ : ∃ n, x.bs.length = n := ⟨_, rfl⟩
        have HBN := Lib.hid hbn
        rw [hbn] at r3 p3
        clear hbn
        have hs9 : Step [] wr (wr.alloc (.cells #[.int .i64 x.kind, .int .i64 x.pos, .int .i64 x.cnt, .slice x.ba bn x.bc, .int .u64 x.keep] 32)) := (Step.refl [] wr).alloc _
        have hw9 := write_acc w1.heap.size db lv S0 (.slice none 0 0) w2 _ (accL l k) x (HL.out.next hs9) H80.out (HR5.out.step hs9 (by simp)) HR6.out q3 (by have := accL_len l k; omega)
        rw [HBN.out] at hw9
        have HW9 := Lib.hid hw9
        clear hw9 hs9
        go_wp2_with fail
        refine HW9.out.mono ?_
        rintro e w9 ⟨rfl, hL9⟩
        have HL9 := Lib.hid hL9
        clear hL9
        go_wp2_with fail
        go_roundw
        case rel => exact ⟨k + 1, by omega, by go_num, by rw [HNX.out]; exact HL9.out⟩
        case measure => simp [intOf]; omega
      · have p3 : decide ((x.bs.length : Int) ≤ 64) = false := by simp; omega
        have hskip : accA (accL l k) x = accL l k := by
          unfold accA
          rw [if_neg (fun h => q3 h.1)]
        have HSK := Lib.hid hskip
        obtain ⟨bn, hbn⟩ : ∃ n, x.bs.length = n := ⟨_, rfl⟩
        have HBN := Lib.hid hbn
        rw [hbn] at r3 p3
        clear hbn hskip q3
        have HL9 := Lib.hid (HL.out.next (w' := wr.alloc (.cells #[.int .i64 x.kind, .int .i64 x.pos, .int .i64 x.cnt, .slice x.ba bn x.bc, .int .u64 x.keep] 32)) ((Step.refl [] wr).alloc _))
        go_wp2_with fail
        go_roundw
        case rel => exact ⟨k + 1, by omega, by go_num, by rw [HNX.out, HSK.out]; exact HL9.out⟩
        case measure => simp [intOf]; omega
    · have hke : k = n1 := by omega
      subst hke
      obtain ⟨wv3, hD3, hs3, hf3⟩ := HL.out
      have hle3 := accL_len l k
      obtain ⟨W3, hW3⟩ : ∃ W, accL l k = W := ⟨_, rfl⟩
      rw [hW3] at hD3 hle3
      have HD3 := Lib.hid hD3
      clear hD3 hs3 hf3 HL hW3
      go_wp2_with fail
      refine (sync_any _ _ _ _ _ _ _ HD3.out).mono ?_
      rintro e w4 ⟨rfl, hD4, hs4⟩
      obtain ⟨S1, hS1⟩ : ∃ S, syncS W3 S0 = S := ⟨_, rfl⟩
      have h81 : S1.length = 8 := by rw [← hS1, sync_len]; exact H80.out
      rw [hS1] at hD4
      have H81 := Lib.hid h81
      have HD4 := Lib.hid hD4
      have HS4 := Lib.hid (HST.out.then hs4 (fun k hk => .inr (Nat.le_trans HS1.out.size (HD3.out.base k hk))))
      clear hD4 hs4 hS1 h81
      have hr4 := read_ok _ _ _ _ _ _ 0 8 _ HD4.out (by decide) (by rw [H81.out]; exact Nat.le_refl _)
      rw [read_all [] S1 H81.out, show syncS [] S1 = S1 from rfl] at hr4
      have HR4 := Lib.hid hr4
      clear hr4
      go_wp2_with fail
      refine HR4.out.mono ?_
      rintro e w5 ⟨v5, rfl, hO5, hs5⟩
      obtain ⟨g5, k5, rfl, hg5, hg5', -, -⟩ := owns_form hO5 (by decide)
      have hD5 := HD4.out.step hs5 (by simp)
      have hne5 : g5 ∉ footD db lv (.slice none 0 0) := fun hk => by
        have h1 : g5 < w4.heap.size := by
          simp only [footD, List.mem_cons, List.mem_append] at hk
          rcases hk with rfl | hk | hk
          · exact HD4.out.blk.lt
          · exact owns_live HD4.out.own1 _ hk
          · exact owns_live HD4.out.own2 _ hk
        omega
      have HD5 := Lib.hid hD5
      have HO5 := Lib.hid hO5
      have HNE5 := Lib.hid hne5
      have HS5 := Lib.hid (HS4.out.then hs5 (by simp))
      have HL5 := Lib.hid (show LoopR w1.heap.size db lv S1 (.slice none 0 0) w5 [] w5 from ⟨_, hD5, Step.refl _ _, fun k hk => .inl hk⟩)
      clear hO5 hs5 hD5 hne5 HR4
      go_wp2_with fail
      go_loopw [67] (fun j wr => ∃ k : Nat, k ≤ n2 ∧ j = .int .i64 k ∧ LoopR w1.heap.size db lv S1 (.slice none 0 0) w5 (accL m k) wr) (fun j _ => n2 - (intOf j).toNat)
      case atStart => exact ⟨0, Nat.zero_le _, rfl, HL5.out⟩
      case round =>
        clear HD3 HD4 HN1 hkn hk HL0 HD2 H1
        obtain ⟨k, hkn, rfl, hL⟩ := hrel
        have HL := Lib.hid hL
        have hst : Step [] w wr := by
          obtain ⟨wv, g1, g2, g3⟩ := hL
          exact HS5.out.then g2 (fun k hk => .inr (Nat.le_trans HS1.out.size (HD5.out.base k hk)))
        have HST := Lib.hid hst
        clear hL hst
        by_cases hk : k < n2
        · have hkl : k < m.length := by have := HN2.out; omega
          have hkk : (k : Int) < (n2 : Int) := by omega
          obtain ⟨x, hx⟩ : ∃ x, m.getD k ac0 = x := ⟨_, rfl⟩
          obtain ⟨b, off, ha, hlt, r0, r1, r2, r3, r4, r5, r6⟩ := H2.out.step HST.out k hkl
          rw [hx] at r0 r1 r2 r3 r4 r5 r6
          subst ha
          have hnext : accL m (k + 1) = accA (accL m k) x := by rw [accL_next m k hkl, hx]
          have HNX := Lib.hid hnext
          have HR5 := Lib.hid r5
          have HR6 := Lib.hid r6
          clear hnext r5 r6 hx
          by_cases q3 : x.bs.length ≤ 64
          · have p3 : decide ((x.bs.length : Int) ≤ 64) = true := by simp; omega
            obtain ⟨bn, hbn⟩ : ∃ n, x.bs.length = n := ⟨_, rfl⟩
            have HBN := Lib.hid hbn
            rw [hbn] at r3 p3
            clear hbn
            have hs9 : Step [] wr (wr.alloc (.cells #[.int .i64 x.kind, .int .i64 x.pos, .int .i64 x.cnt, .slice x.ba bn x.bc, .int .u64 x.keep] 32)) := (Step.refl [] wr).alloc _
            have hw9 := write_acc w1.heap.size db lv S1 (.slice none 0 0) w5 _ (accL m k) x (HL.out.next hs9) H81.out (HR5.out.step hs9 (by simp)) HR6.out q3 (by have := accL_len m k; omega)
            rw [HBN.out] at hw9
            have HW9 := Lib.hid hw9
            clear hw9 hs9
            go_wp2_with fail
            refine HW9.out.mono ?_
            rintro e w9 ⟨rfl, hL9⟩
            have HL9 := Lib.hid hL9
            clear hL9
            go_wp2_with fail
            go_roundw
            case rel => exact ⟨k + 1, by omega, by go_num, by rw [HNX.out]; exact HL9.out⟩
            case measure => simp [intOf]; omega
          · have p3 : decide ((x.bs.length : Int) ≤ 64) = false := by simp; omega
            have hskip : accA (accL m k) x = accL m k := by
              unfold accA
              rw [if_neg (fun h => q3 h.1)]
            have HSK := Lib.hid hskip
            obtain ⟨bn, hbn⟩ : ∃ n, x.bs.length = n := ⟨_, rfl⟩
            have HBN := Lib.hid hbn
            rw [hbn] at r3 p3
            clear hbn hskip q3
            have HL9 := Lib.hid (HL.out.next (w' := wr.alloc (.cells #[.int .i64 x.kind, .int .i64 x.pos, .int .i64 x.cnt, .slice x.ba bn x.bc, .int .u64 x.keep] 32)) ((Step.refl [] wr).alloc _))
            go_wp2_with fail
            go_roundw
            case rel => exact ⟨k + 1, by omega, by go_num, by rw [HNX.out, HSK.out]; exact HL9.out⟩
            case measure => simp [intOf]; omega
        · have hke : k = n2 := by omega
          subst hke
          obtain ⟨wv6, hD6, hs6, hf6⟩ := HL.out
          have hle6 := accL_len m k
          obtain ⟨W6, hW6⟩ : ∃ W, accL m k = W := ⟨_, rfl⟩
          rw [hW6] at hD6 hle6
          have HD6 := Lib.hid hD6
          have HO6 := Lib.hid (owns_step HO5.out hs6 (fun k hk hm => HNE5.out (by
            have : k = g5 := by simpa [foot, Value.ownBlock, eq_comm] using hk
            exact this ▸ hm)))
          have hg5s : g5 < wr.heap.size := Nat.lt_of_lt_of_le hg5' hs6.size
          clear hD6 hs6 hf6 HL hW6 hk hkn HN2
          obtain ⟨S2, hS2⟩ : ∃ S, syncS W6 S1 = S := ⟨_, rfl⟩
          have HS2e := Lib.hid hS2
          have H82 := Lib.hid (show S2.length = 8 by rw [← hS2, sync_len]; exact H81.out)
          have hr7 := read_ok _ _ _ _ _ _ 0 8 _ HD6.out (by decide) (by rw [H81.out]; exact Nat.le_refl _)
          rw [read_all _ S1 H81.out, hS2] at hr7
          have HR7 := Lib.hid hr7
          clear hr7 hS2
          go_wp2_with fail
          refine HR7.out.mono ?_
          rintro e w7 ⟨v7, rfl, hO7, hs7⟩
          obtain ⟨g7, k7, rfl, hg7, hg7', -, -⟩ := owns_form hO7 (by decide)
          have HD7 := Lib.hid (HD6.out.step hs7 (by simp))
          have HO7 := Lib.hid hO7
          have HO7b := Lib.hid (owns_step HO6.out hs7 (by simp))
          have HS7 := Lib.hid (HST.out.then hs7 (by simp))
          clear hO7 hs7 HR7
          go_wp2_with fail
          refine (copy_any _ _ _ _ _ _ _ _ HD7.out).mono ?_
          rintro e w8 ⟨x8, lx, wx, rfl, hX8, hs8⟩
          have HX8 := Lib.hid hX8.rg
          have HT8 := Lib.hid hs8
          have HD8 := Lib.hid (HD7.out.step hs8 (by simp))
          clear hX8 hs8
          go_wp2_with fail
          refine (copy_any _ _ _ _ _ _ _ _ HD8.out).mono ?_
          rintro e w9 ⟨y9, ly, wy, rfl, hY9, hs9⟩
          have HY9 := Lib.hid hY9.rg
          have HX9 := Lib.hid (HX8.out.quiet hs9)
          have HT9 := Lib.hid (HT8.out.then hs9 (by simp))
          have HD9 := Lib.hid (HD8.out.step hs9 (by simp))
          have hz9 : w8.heap.size ≤ w9.heap.size := hs9.size
          clear hY9 hs9
          go_wp2_with fail
          refine (copy_any _ _ _ _ _ _ _ _ HD9.out).mono ?_
          rintro e w10 ⟨z10, lz, wz, rfl, hZ10, hs10⟩
          have HZ10 := Lib.hid hZ10.rg
          have HX10 := Lib.hid (HX9.out.quiet hs10)
          have HY10 := Lib.hid (HY9.out.quiet hs10)
          have HT10 := Lib.hid (HT9.out.then hs10 (by simp))
          have hz8 : w7.heap.size ≤ w8.heap.size := HT8.out.size
          clear hZ10 hs10
          go_wp2_with fail
          have hxc := crash_any _ _ _ _ _ _ _ _ HX10.out.dsk 17 #[] (fun _ => true) (fun args w => by rfl) (fun i w' _ _ => true_any i w')
          rw [show setl (fun _ => true) W6 S1 W6.length = S2 from HS2e.out] at hxc
          refine hxc.mono ?_
          clear hxc
          rintro e w11 ⟨rfl, hX11, hs11⟩
          have HX11 := Lib.hid (HX10.out.now hX11 (.inl rfl))
          have HY11 := Lib.hid (HY10.out.other hs11 HX10.out.ran (.inr (Nat.le_refl _)))
          have HZ11 := Lib.hid (HZ10.out.other hs11 HX10.out.ran (.inr hz9))
          have HT11 := Lib.hid (HT10.out.then hs11 (fun k hk => .inr (HX10.out.ran k hk).1))
          clear hX11 hs11
          go_wp2_with fail
          refine (up_any _ _ _ _ _ _ _ _ HX11.out.dsk).mono ?_
          rintro e w12 ⟨rfl, hX12, hs12⟩
          have HX12 := Lib.hid (HX11.out.now hX12 (.inr rfl))
          have HY12 := Lib.hid (HY11.out.other hs12 HX11.out.db (.inr (Nat.le_refl _)))
          have HZ12 := Lib.hid (HZ11.out.other hs12 HX11.out.db (.inr hz9))
          have HT12 := Lib.hid (HT11.out.then hs12 (fun k hk => .inr (HX11.out.db k hk).1))
          clear hX12 hs12
          go_wp2_with fail
          refine (crash_nil _ _ _ _ _ _ _ _ HY12.out.dsk).mono ?_
          rintro e w13 ⟨rfl, hY13, hs13⟩
          have HY13 := Lib.hid (HY12.out.now hY13 (.inl rfl))
          have HX13 := Lib.hid (HX12.out.other hs13 HY12.out.ran (.inl (Nat.le_refl _)))
          have HZ13 := Lib.hid (HZ12.out.other hs13 HY12.out.ran (.inr (Nat.le_refl _)))
          have HT13 := Lib.hid (HT12.out.then hs13 (fun k hk => .inr (Nat.le_trans hz8 (HY12.out.ran k hk).1)))
          clear hY13 hs13
          go_wp2_with fail
          refine (up_any _ _ _ _ _ _ _ _ HY13.out.dsk).mono ?_
          rintro e w14 ⟨rfl, hY14, hs14⟩
          have HY14 := Lib.hid (HY13.out.now hY14 (.inr rfl))
          have HX14 := Lib.hid (HX13.out.other hs14 HY13.out.db (.inl (Nat.le_refl _)))
          have HZ14 := Lib.hid (HZ13.out.other hs14 HY13.out.db (.inr (Nat.le_refl _)))
          have HT14 := Lib.hid (HT13.out.then hs14 (fun k hk => .inr (Nat.le_trans hz8 (HY13.out.db k hk).1)))
          clear hY14 hs14
          go_wp2_with fail
          have hzs := sync_any _ _ _ _ _ _ _ HZ14.out.dsk
          rw [HS2e.out] at hzs
          refine hzs.mono ?_
          clear hzs
          rintro e w15 ⟨rfl, hZ15, hs15⟩
          have HZ15 := Lib.hid (HZ14.out.now hZ15 (.inl rfl))
          have HX15 := Lib.hid (HX14.out.other hs15 HZ14.out.ran (.inl hz9))
          have HY15 := Lib.hid (HY14.out.other hs15 HZ14.out.ran (.inl (Nat.le_refl _)))
          have HT15 := Lib.hid (HT14.out.then hs15 (fun k hk => .inr (Nat.le_trans (Nat.le_trans hz8 hz9) (HZ14.out.ran k hk).1)))
          clear hZ15 hs15
          go_wp2_with fail
          refine (crash_nil _ _ _ _ _ _ _ _ HZ15.out.dsk).mono ?_
          rintro e w16 ⟨rfl, hZ16, hs16⟩
          have HZ16 := Lib.hid (HZ15.out.now hZ16 (.inl rfl))
          have HX16 := Lib.hid (HX15.out.other hs16 HZ15.out.ran (.inl hz9))
          have HY16 := Lib.hid (HY15.out.other hs16 HZ15.out.ran (.inl (Nat.le_refl _)))
          have HT16 := Lib.hid (HT15.out.then hs16 (fun k hk => .inr (Nat.le_trans (Nat.le_trans hz8 hz9) (HZ15.out.ran k hk).1)))
          clear hZ16 hs16
          go_wp2_with fail
          refine (up_any _ _ _ _ _ _ _ _ HZ16.out.dsk).mono ?_
          rintro e w17 ⟨rfl, hZ17, hs17⟩
          have HZ17 := Lib.hid (HZ16.out.now hZ17 (.inr rfl))
          have HX17 := Lib.hid (HX16.out.other hs17 HZ16.out.db (.inl hz9))
          have HY17 := Lib.hid (HY16.out.other hs17 HZ16.out.db (.inl (Nat.le_refl _)))
          have HT17 := Lib.hid (HT16.out.then hs17 (fun k hk => .inr (Nat.le_trans (Nat.le_trans hz8 hz9) (HZ16.out.db k hk).1)))
          clear hZ17 hs17
          have hr18 := read_ok _ _ _ _ _ _ 0 8 _ HX17.out.dsk (by decide) (by rw [H82.out]; exact Nat.le_refl _)
          rw [read_all _ S2 H82.out, show syncS [] S2 = S2 from rfl] at hr18
          have HR18 := Lib.hid hr18
          clear hr18
          go_wp2_with fail
          refine HR18.out.mono ?_
          rintro e w18 ⟨v18, rfl, hO18, hs18⟩
          have HO18 := Lib.hid hO18
          have HT18 := Lib.hid (HT17.out.then hs18 (by simp))
          have HY18 := Lib.hid (HY17.out.quiet hs18)
          have HZ18 := Lib.hid (HZ17.out.quiet hs18)
          have hr19 := read_ok _ _ _ _ _ _ 0 8 _ HY18.out.dsk (by decide) (by rw [H81.out]; exact Nat.le_refl _)
          rw [read_all _ S1 H81.out, show syncS [] S1 = S1 from rfl] at hr19
          have HR19 := Lib.hid hr19
          clear hr19 hO18 hs18 HR18
          go_wp2_with fail
          refine HR19.out.mono ?_
          rintro e w19 ⟨v19, rfl, hO19, hs19⟩
          have HO19 := Lib.hid hO19
          have HO19b := Lib.hid (owns_step HO18.out hs19 (by simp))
          have HT19 := Lib.hid (HT18.out.then hs19 (by simp))
          have HZ19 := Lib.hid (HZ18.out.quiet hs19)
          have hr20 := read_ok _ _ _ _ _ _ 0 8 _ HZ19.out.dsk (by decide) (by rw [H82.out]; exact Nat.le_refl _)
          rw [read_all _ S2 H82.out, show syncS [] S2 = S2 from rfl] at hr20
          have HR20 := Lib.hid hr20
          clear hr20 hO19 hs19 HR19
          go_wp2_with fail
          refine HR20.out.mono ?_
          rintro e w20 ⟨v20, rfl, hO20, hs20⟩
          have HT20 := Lib.hid (HT19.out.then hs20 (by simp))
          have t1 := owns_str hO20 30 9 5 Try.underlying30 Try.underlying5 Try.underlying9
          have t2 := owns_str (owns_step HO19.out hs20 (by simp)) 30 9 5 Try.underlying30 Try.underlying5 Try.underlying9
          have t3 := owns_str (owns_step HO19b.out hs20 (by simp)) 30 9 5 Try.underlying30 Try.underlying5 Try.underlying9
          have t4 := owns_str (owns_step HO7.out HT20.out (by simp)) 30 9 5 Try.underlying30 Try.underlying5 Try.underlying9
          have t5 := owns_str (owns_step HO7b.out HT20.out (by simp)) 30 9 5 Try.underlying30 Try.underlying5 Try.underlying9
          have HSF := Lib.hid (HS7.out.then HT20.out (by simp))
          clear hO20 hs20 HR20
          go_wp2_with fail
          go_ret
          exact ⟨rfl, HSF.out.below'⟩
end Go.Proofs.Ytjemdcdcjohjpaa
