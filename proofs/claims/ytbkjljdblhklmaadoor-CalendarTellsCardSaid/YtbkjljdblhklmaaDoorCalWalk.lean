/- calendar: the walk of Leap, Days, civil, Of. -/
import Derived.Test.YtbkjljdblhklmaaDoorCalPlain
namespace Go.Proofs.YtbkjljdblhklmaaDoor
set_option linter.unusedVariables false
open Go.RowKit

theorem tmod0 (y k : Int) : y.tmod k = 0 ↔ y % k = 0 := by
  rw [← Int.dvd_iff_tmod_eq_zero, Int.dvd_iff_emod_eq_zero]

theorem ret_tuple2 {a b c d : Value} (h1 : a = c) (h2 : b = d) : Ending.returned (.tuple #[a, b]) = .returned (.tuple #[c, d]) := by rw [h1, h2]
theorem ret_tuple3 {k : IntKind} {a b c a' b' c' : Int} (h1 : a = a') (h2 : b = b') (h3 : c = c') : Ending.returned (.tuple #[.int k a, .int k b, .int k c]) = .returned (.tuple #[.int k a', .int k b', .int k c']) := by rw [h1, h2, h3]

theorem leapB_tmod (y : Int) : leapB y = (decide (y.tmod 4 = 0) && (decide (y.tmod 100 ≠ 0) || decide (y.tmod 400 = 0))) := by
  unfold leapB
  rw [decide_eq_decide.2 (tmod0 y 4), decide_eq_decide.2 (tmod0 y 400), decide_eq_decide.2 (not_congr (tmod0 y 100))]

set_option maxHeartbeats 400000 in
theorem leap_any (y : Int) (w : World) :
    Calls Tryd.prog 18 #[.int .i64 y] w fun e w' => e = .returned (.bool (leapB y)) ∧ w = w' := by
  have HL := Lib.hid (leapB_tmod y)
  go_enter Tryd.func18, Tryd.ntmps18
  go_wp2
  all_goals
    go_ret
    refine ⟨ret_bool ?_, rfl⟩
    rw [HL.out, Bool.eq_iff_iff]
    simp [*]

set_option maxHeartbeats 400000 in
theorem lawleap_any (y : Int) (w : World) :
    Calls Tryd.prog 14 #[.int .i64 y] w fun e w' => e = .returned (.bool (leapB y)) ∧ w = w' := by
  have h4 : y.tmod 400 = 0 → y.tmod 4 = 0 := by rw [tmod0, tmod0]; omega
  have HL := Lib.hid (leapB_tmod y)
  have H4 := Lib.hid h4
  clear h4
  go_enter Tryd.func14, Tryd.ntmps14
  go_wp2
  all_goals
    go_ret
    refine ⟨ret_bool ?_, rfl⟩
    have h4 := H4.out
    clear H4
    rw [HL.out, Bool.eq_iff_iff]
    simp [*]
    try simp_all

theorem days_cases (y m : Int) : lenI y m = if m = 4 ∨ m = 6 ∨ m = 9 ∨ m = 11 then 30 else if m = 2 then (if leapB y then 29 else 28) else if m = 1 ∨ m = 3 ∨ m = 5 ∨ m = 7 ∨ m = 8 ∨ m = 10 ∨ m = 12 then 31 else 0 := by
  unfold lenI lp
  by_cases h2 : m = 2
  · subst h2
    cases leapB y <;> rfl
  · rw [if_neg h2]
    by_cases h4 : m = 4 ∨ m = 6 ∨ m = 9 ∨ m = 11
    · rw [if_pos h4, if_pos h4]
    · rw [if_neg h4, if_neg h4, if_neg h2]
      by_cases h1 : 1 ≤ m ∧ m ≤ 12
      · rw [if_pos h1, if_pos (by omega)]
      · rw [if_neg h1, if_neg (by omega)]

set_option maxHeartbeats 1000000 in
theorem days_any (y m : Int) (w : World) :
    Calls Tryd.prog 12 #[.int .i64 y, .int .i64 m] w fun e w' => e = .returned (.int .i64 (lenI y m)) ∧ w = w' := by
  have HD := Lib.hid (days_cases y m)
  cases hl : leapB y
  all_goals
    rw [hl] at HD
    have HL := Lib.hid hl
    clear hl
    go_enter Tryd.func12, Tryd.ntmps12
    go_wp2_with (go_at_call 18; refine (leap_any _ _).mono ?_; rw [HL.out]; rintro e w' ⟨rfl, rfl⟩)
  all_goals
    go_ret
    refine ⟨ret_int ?_, rfl⟩
    rw [HD.out]
    repeat' split
  all_goals first | rfl | contradiction | (exfalso; simp only [beq_iff_eq, beq_eq_false_iff_ne, ne_eq] at *; omega)

set_option maxHeartbeats 400000 in
theorem civil_any (n : Int) (w : World) (h0 : 0 ≤ n) (h1 : n ≤ 1099511627776) :
    Calls Tryd.prog 10 #[.int .i64 n] w fun e w' => e = .returned (.tuple #[.int .i64 (yearOf n), .int .i64 (monOf n), .int .i64 (dayOf n)]) ∧ w = w' := by
  have hq := (mQ_is n).1
  unfold mQ cDoy sy cYear at hq
  by_cases hm : mM n < 10
  · have HM := Lib.hid hm
    unfold mM mQ cMon cDoy sy cYear at hm
    go_enter Tryd.func10, Tryd.ntmps10
    go_wp2
    go_ret3
    refine ⟨ret_tuple3 ?_ ?_ ?_, rfl⟩
    · rw [yearOf, if_pos HM.out]; rfl
    · rw [monOf, if_pos HM.out]; rfl
    · rfl
  · have HM := Lib.hid hm
    unfold mM mQ cMon cDoy sy cYear at hm
    go_enter Tryd.func10, Tryd.ntmps10
    go_wp2
    go_ret3
    refine ⟨ret_tuple3 ?_ ?_ ?_, rfl⟩
    · rw [yearOf, if_neg (by have := HM.out; omega)]; rfl
    · rw [monOf, if_neg (by have := HM.out; omega)]; rfl
    · rfl

set_option maxHeartbeats 400000 in
theorem eq_mom (a b c d e f a' b' c' d' e' f' : Int) (w : World) :
    (binOp .eql 24 (.agg #[.int .i64 a, .int .i64 b, .int .i64 c, .int .i64 d, .int .i64 e, .int .i64 f]) (.agg #[.int .i64 a', .int .i64 b', .int .i64 c', .int .i64 d', .int .i64 e', .int .i64 f'])).run Tryd.prog w =
      .ok (.bool (a == a' && (b == b' && (c == c' && (d == d' && (e == e' && f == f')))))) w := by
  rw [run_eql_struct]
  have h := run_equalIn_agg (P := Tryd.prog) w 9999 24 #[.int .i64 a, .int .i64 b, .int .i64 c, .int .i64 d, .int .i64 e, .int .i64 f] #[.int .i64 a', .int .i64 b', .int .i64 c', .int .i64 d', .int .i64 e', .int .i64 f'] (by kernel_rfl) (by kernel_rfl)
  rw [show (10000 : Nat) = 9999 + 1 from rfl, h]
  have hi := fun w (x y : Int) => run_equalIn_int (P := Tryd.prog) w 9998 3 .i64 .i64 x y Tryd.underlying3
  simp only [show (9999 : Nat) = 9998 + 1 from rfl]
  generalize (9998 : Nat) = n at *
  clear h
  simp [go_sem]
  by_cases h1 : a = a' <;> by_cases h2 : b = b' <;> by_cases h3 : c = c' <;> by_cases h4 : d = d' <;> by_cases h5 : e = e' <;> by_cases h6 : f = f' <;> simp [h1, h2, h3, h4, h5, h6, go_sem]

theorem wpList_eq_mom {ops : Array Oper} {rest : List Oper} {o : Oper} {act : Act} {Q : Exit → Act → World → Prop} {w : World} (x y : Operand) (ty : TypeId) (ho : o.op = .binOp .eql 24 x y ty)
    (a b c d e f a' b' c' d' e' f' : Int) (hx : act.eval x = .agg #[.int .i64 a, .int .i64 b, .int .i64 c, .int .i64 d, .int .i64 e, .int .i64 f]) (hy : act.eval y = .agg #[.int .i64 a', .int .i64 b', .int .i64 c', .int .i64 d', .int .i64 e', .int .i64 f'])
    (hw : Region.wanted o (yielded ops act.tmps) = true) (h : wpList Tryd.prog ops Q rest (act.put o.dst (.bool (a == a' && (b == b' && (c == c' && (d == d' && (e == e' && f == f'))))))) w) : wpList Tryd.prog ops Q (o :: rest) act w :=
  wpList_value _ (exec_binop ho (by rw [hx, hy]; exact run_eqGuard_agg w .eql 24 x y _ _ (by kernel_rfl)) (by rw [hx, hy]; exact eq_mom a b c d e f a' b' c' d' e' f' w)) hw h

def dayN (t : Int) : Int := t / 1440 + 730425
/-- a tick's moment, as the program holds it -/
def momV (t : Int) : Value :=
  .agg #[.int .i64 (yearOf (dayN t)), .int .i64 (monOf (dayN t)), .int .i64 (dayOf (dayN t)), .int .i64 ((t / 1440 + 6) % 7), .int .i64 (t % 1440 / 60), .int .i64 (t % 60)]

set_option maxHeartbeats 400000 in
theorem of_any (t : Int) (w : World) (h0 : 0 ≤ t) (h1 : t ≤ 1099511627776) :
    Calls Tryd.prog 5 #[.int .i64 t] w fun e w' => e = .returned (.tuple #[momV t, .int .i64 0]) ∧ Below w.heap.size w w' := by
  go_enter Tryd.func5, Tryd.ntmps5
  go_wp2_with (go_at_call 10; refine (civil_any _ _ (by omega) (by omega)).mono ?_; rintro e w' ⟨rfl, rfl⟩)
  refine bodyPost_ret (v := .tuple #[momV t, .int .i64 0]) (by simp [results, Tryd.results5, go_sem, momV, dayN]) rfl ⟨rfl, ?_⟩
  exact (Below.refl _ _).alloc (Nat.le_refl _) _

set_option maxHeartbeats 400000 in
theorem of_out (t : Int) (w : World) (h : t < 0 ∨ (0 ≤ t ∧ 1099511627776 < t)) :
    Calls Tryd.prog 5 #[.int .i64 t] w fun e w' => e = .returned (.tuple #[.agg #[.int .i64 0, .int .i64 0, .int .i64 0, .int .i64 0, .int .i64 0, .int .i64 0], .int .i64 3]) ∧ Below w.heap.size w w' := by
  rcases h with h | ⟨h', h⟩
  all_goals
    go_enter Tryd.func5, Tryd.ntmps5
    go_wp2_with fail
    refine bodyPost_ret (v := .tuple #[.agg #[.int .i64 0, .int .i64 0, .int .i64 0, .int .i64 0, .int .i64 0, .int .i64 0], .int .i64 3]) (by simp [results, Tryd.results5, go_sem]) rfl ⟨rfl, ?_⟩
    exact (Below.refl _ _).alloc (Nat.le_refl _) _

theorem mom_example : momV 1440 = .agg #[.int .i64 2000, .int .i64 1, .int .i64 2, .int .i64 0, .int .i64 0, .int .i64 0] := by
  have h1 : yearOf (dayN 1440) = 2000 := by decide
  have h2 : monOf (dayN 1440) = 1 := by decide
  have h3 : dayOf (dayN 1440) = 2 := by decide
  unfold momV
  rw [h1, h2, h3]
  rfl

set_option maxHeartbeats 400000 in
theorem lives_any (w : World) :
    Calls Tryd.prog 4 #[] w fun e w' => e = .returned (.bool true) ∧ Below w.heap.size w w' := by
  go_enter Tryd.func4, Tryd.ntmps4
  go_wp2_with fail
  refine (of_any 1440 _ (by decide) (by decide)).mono ?_
  rw [mom_example]
  rintro e w1 ⟨rfl, hb1⟩
  have h1 := hb1.size
  go_wp2_with fail
  go_ret
  exact ⟨rfl, (hb1.alloc h1 _)⟩
end Go.Proofs.YtbkjljdblhklmaaDoor
