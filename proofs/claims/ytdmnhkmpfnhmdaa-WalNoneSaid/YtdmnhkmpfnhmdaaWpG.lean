/- Several texts in one: WalNo. -/
import Derived.Test.YtdmnhkmpfnhmdaaWpF
section
namespace Go.Proofs.Ytdmnhkmpfnhmdaa
set_option linter.unusedVariables false
open Go.RowKit

theorem new_zero (w : World) : Calls Try.prog 9 #[.int .i64 0] w fun e w' => e = .returned (.tuple #[.pointer none, .int .i64 1]) ∧ w = w' := by
  go_enter Try.func9, Try.ntmps9
  go_wp2_with fail
  go_ret2
  exact ⟨rfl, rfl⟩
/-! a blank disk -/
theorem hlf_blank (n i : Nat) (hi : i < 2) (h0 : 2 ≤ n) : toldR (hlf (List.replicate n zeroS) [] i) = [] := by
  have hc : ∀ s ∈ hlf (List.replicate n zeroS) [] i, s = zeroS := fun s hs => by
    unfold hlf readS cutS at hs
    rw [syncS_nil] at hs
    exact List.eq_of_mem_replicate (List.mem_of_mem_drop (List.mem_of_mem_take hs))
  obtain ⟨L, hL⟩ : ∃ L, hlf (List.replicate n zeroS) [] i = L := ⟨_, rfl⟩
  rw [hL] at hc ⊢
  have ht : halfT L = 0 := by
    cases L with
    | nil => decide
    | cons s r =>
      show turnV s = 0
      rw [hc s (by simp), turn_zero]
  unfold toldR halfB
  rw [ht, if_neg (by omega), scanR_bad (nextR_nil 0)]
  rfl
theorem pick_blank (n : Nat) (h0 : 2 ≤ n) : pick (List.replicate n zeroS) [] 2 = none := by
  have hs : ∀ i, i < 2 → sealB (List.replicate n zeroS) [] i = false := fun i hi => by
    unfold sealB
    rw [hlf_blank n i hi h0]
    rfl
  have h1 : pick (List.replicate n zeroS) [] 1 = none := by rw [pick_none (i := 0) rfl, hs 0 (by omega)]; rfl
  rw [pick_none h1, hs 1 (by omega)]
  rfl
theorem open_blank (base db n : Nat) (lv : Value) (w : World) (hD : Dsk w base db lv (.slice none 0 0) (List.replicate n zeroS) [] false) (h4 : 4 ≤ n) (hbase : base ≤ w.heap.size) :
    Calls Try.prog 14 #[.pointer (some ⟨db, 0, none⟩)] w fun e w' => e = .returned (.tuple #[.pointer none, .slice none 0 0, .int .i64 7]) ∧ Step [] w w' := by
  have h0 : maxT (readS [] (List.replicate n zeroS) 0 (List.replicate n zeroS).length) = 0 := by rw [readS_all, syncS_nil, maxT_zero]
  have hp := pick_blank n (by omega)
  exact open_any base db lv _ (List.replicate n zeroS) [] w 0 0 hD (by simpa using h4) hbase (.inl ⟨by rw [h0]; decide, h0.symm, rfl⟩) _ (fun _ w' hs => ⟨rfl, hs⟩) (fun j hj => by rw [hp] at hj; cases hj)

set_option maxRecDepth 20000 in
set_option maxHeartbeats 2000000 in
theorem none_any (x : Int) (hx : -9223372036854775808 ≤ x ∧ x < 9223372036854775808) (w : World) : Calls Try.prog 5 #[.int .i64 x] w fun e w' => e = .returned (.bool true) ∧ Step [] w w' := by
  obtain ⟨n, hn, hn10⟩ : ∃ n : Nat, IntKind.i64.wrap ((IntKind.u64.wrap x).tmod 10) = (n : Int) ∧ n < 10 := by
    have h1 : (IntKind.u64.wrap x).tmod 10 = IntKind.u64.wrap x % 10 := Int.tmod_eq_emod_of_nonneg (by rw [IntKind.wrap_u64]; omega)
    exact ⟨(IntKind.u64.wrap x % 10).toNat, by rw [h1, wrap_id _ (by omega) (by omega)]; omega, by omega⟩
  have HNilF := Lib.hid (fun W => format_bad none 1 W (by decide) (greatest_nil W))
  have HNilO := Lib.hid (fun W => open_bad none 1 W (.inl rfl) (greatest_nil W))
  go_enter Try.func5, Try.ntmps5
  go_wp2_with fail
  refine (lives_any w).mono ?_
  rintro e w1 ⟨rfl, hs1⟩
  have HS1 := Lib.hid hs1
  clear hs1
  rcases Nat.eq_zero_or_pos n with h0 | h0
  · subst h0
    go_wp2_with fail
    refine (new_zero w1).mono ?_
    rintro e w2 ⟨rfl, rfl⟩
    go_wp2_with fail
    refine (HNilF.out w1).mono ?_
    rintro e w2 ⟨rfl, rfl⟩
    go_wp2_with fail
    refine (HNilO.out w1).mono ?_
    rintro e w2 ⟨rfl, rfl⟩
    go_wp2_with fail
    refine (HNilF.out w1).mono ?_
    rintro e w2 ⟨rfl, rfl⟩
    go_wp2_with fail
    refine (lappend_nil 0 none 0 0 w1).mono ?_
    rintro e w2 ⟨rfl, hs2⟩
    have HS2 := Lib.hid (HS1.out.then hs2 (by simp))
    clear hs2
    go_wp2_with (first
      | (go_at_call 12; refine (lsync_nil _).mono ?_; rintro e w7 ⟨rfl, rfl⟩)
      | (go_at_call 23; refine (lrewrite_nil _ _ _ _).mono ?_; rintro e w7 ⟨rfl, rfl⟩)
      | (go_at_call 21; refine (lroom_nil _).mono ?_; rintro e w7 ⟨rfl, rfl⟩)
      | (go_at_call 20; refine (lturn_nil _).mono ?_; rintro e w7 ⟨rfl, rfl⟩))
    go_ret
    exact ⟨rfl, HS2.out⟩
  · go_wp2_with fail
    refine (new_any n w1 h0 (by omega)).mono ?_
    rintro e w2 ⟨db, lv, rfl, hD, hs2⟩
    have HS2 := Lib.hid (HS1.out.then hs2 (by simp))
    have hz2 := hs2.size
    by_cases h4 : n < 4
    · have q4 : (n : Int) < 4 := by omega
      have HF := Lib.hid (format_bad _ 1 w2 (by decide) (greatest_small _ db lv _ _ _ _ w2 hD (by simpa using h4)))
      have HO := Lib.hid (open_bad _ 1 w2 (.inl rfl) (greatest_small _ db lv _ _ _ _ w2 hD (by simpa using h4)))
      clear hD hs2
      go_wp2_with fail
      refine HF.out.mono ?_
      rintro e w3 ⟨rfl, rfl⟩
      go_wp2_with fail
      refine HO.out.mono ?_
      rintro e w3 ⟨rfl, rfl⟩
      go_wp2_with fail
      refine (HNilF.out w2).mono ?_
      rintro e w3 ⟨rfl, rfl⟩
      go_wp2_with fail
      refine (lappend_nil 0 none 0 0 w2).mono ?_
      rintro e w3 ⟨rfl, hs3⟩
      have HS3 := Lib.hid (HS2.out.then hs3 (by simp))
      clear hs3
      go_wp2_with (first
      | (go_at_call 12; refine (lsync_nil _).mono ?_; rintro e w7 ⟨rfl, rfl⟩)
      | (go_at_call 23; refine (lrewrite_nil _ _ _ _).mono ?_; rintro e w7 ⟨rfl, rfl⟩)
      | (go_at_call 21; refine (lroom_nil _).mono ?_; rintro e w7 ⟨rfl, rfl⟩)
      | (go_at_call 20; refine (lturn_nil _).mono ?_; rintro e w7 ⟨rfl, rfl⟩))
      go_ret
      exact ⟨rfl, HS3.out⟩
    · have q4 : ¬ (n : Int) < 4 := by omega
      have HF := Lib.hid (wl_format_new w1.heap.size db n lv _ w2 hD (by omega) (by omega) hz2)
      have HL2 := Lib.hid hD.base
      clear hD hs2
      go_wp2_with fail
      refine HF.out.mono ?_
      rintro e w3 ⟨lb, tv, S', rfl, h3, hS3, -, hs3⟩
      have HS3 := Lib.hid (HS2.out.then hs3 (fun k hk => .inr (Nat.le_trans HS1.out.size (HL2.out k hk))))
      have hz3 := hs3.size
      have HO := Lib.hid (wl_open w1.heap.size db lv _ S' [] 0 1 [(255, [])] [(255, [])] w3 h3.dk h3.four (by
        rw [syncS_nil]
        exact h3.li.crash (by decide) (fun _ => false) 0) (List.prefix_refl _) (by decide) (by decide) (by decide) (by decide) (by simp; omega) (by omega))
      have HL3 := Lib.hid h3.dk.base
      clear h3 hs3
      go_wp2_with fail
      refine HO.out.mono ?_
      rintro e w4 ⟨lb4, tv4, S4, a, c, rl, k, rfl, -, -, -, -, -, -, -, -, hs4⟩
      have HS4 := Lib.hid (HS3.out.then hs4 (fun k hk => .inr (Nat.le_trans HS1.out.size (HL3.out k hk))))
      clear hs4
      go_wp2_with fail
      refine (HNilF.out w4).mono ?_
      rintro e w5 ⟨rfl, rfl⟩
      go_wp2_with fail
      refine (lappend_nil 0 none 0 0 w4).mono ?_
      rintro e w5 ⟨rfl, hs5⟩
      have HS5 := Lib.hid (HS4.out.then hs5 (by simp))
      clear hs5
      go_wp2_with (first
      | (go_at_call 12; refine (lsync_nil _).mono ?_; rintro e w7 ⟨rfl, rfl⟩)
      | (go_at_call 23; refine (lrewrite_nil _ _ _ _).mono ?_; rintro e w7 ⟨rfl, rfl⟩)
      | (go_at_call 21; refine (lroom_nil _).mono ?_; rintro e w7 ⟨rfl, rfl⟩)
      | (go_at_call 20; refine (lturn_nil _).mono ?_; rintro e w7 ⟨rfl, rfl⟩))
      refine (new_any n w5 h0 (by omega)).mono ?_
      rintro e w6 ⟨db6, lv6, rfl, hD6, hs6⟩
      have HB := Lib.hid (open_blank _ db6 n lv6 w6 hD6 (by omega) hs6.size)
      have HS6 := Lib.hid (HS5.out.then hs6 (by simp))
      have HD6 := Lib.hid hD6
      clear hD6 hs6
      go_wp2_with fail
      refine HB.out.mono ?_
      rintro e w7 ⟨rfl, hs7⟩
      have HC7 := Lib.hid (crash_nil _ _ _ _ _ _ _ _ (HD6.out.step hs7 (by simp)))
      have HS7 := Lib.hid (HS6.out.then hs7 (by simp))
      clear hs7
      go_wp2_with fail
      refine HC7.out.mono ?_
      rintro e w8 ⟨rfl, hD8, hs8⟩
      have HF8 := Lib.hid (format_bad _ 19 w8 (by decide) (greatest_down _ _ _ _ _ _ w8 hD8 (by simp; omega)))
      have HS8 := Lib.hid (HS7.out.then hs8 (fun k hk => .inr (Nat.le_trans HS5.out.size (HD6.out.base k hk))))
      clear hD8 hs8
      go_wp2_with fail
      refine HF8.out.mono ?_
      rintro e w9 ⟨rfl, rfl⟩
      go_wp2_with fail
      go_ret
      exact ⟨rfl, HS8.out⟩
end Go.Proofs.Ytdmnhkmpfnhmdaa
end
