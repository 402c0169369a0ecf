/- entry.Log: the walks of New, Last, Term, and of a log that isn't there. -/
import Derived.Test.YtjepglbolkbldaaEntA
import Derived.Deep.RegionHeld3
namespace Go.Proofs.Ytjepglbolkbldaa
set_option linter.unusedVariables false
open Go.RowKit

theorem i64_self (n : Int) (h0 : 0 ≤ n) (h1 : n < 9223372036854775808) : IntKind.i64.wrap n = n := by rw [IntKind.wrap_i64]; omega
theorem u64_self (n : Int) (h0 : 0 ≤ n) (h1 : n < 9223372036854775808) : IntKind.u64.wrap n = n := by rw [IntKind.wrap_u64]; omega

set_option maxHeartbeats 400000 in
theorem new_any (ix tm : Nat) (w : World) (hix : ix < 4611686018427387904) :
    Calls Try.prog 7 #[.int .u64 (ix : Int), .int .u64 (tm : Int)] w fun e w' => e = .returned (.pointer (some ⟨w.heap.size, 0, none⟩)) ∧ Log w' w.heap.size w.heap.size none 0 ix tm [] ∧ Step [] w w' := by
  go_enter Try.func7, Try.ntmps7
  go_wp2_with fail
  go_ret
  exact ⟨rfl, ⟨Blk.new _ _ _, ⟨[], rfl, World.ownsRow_nil _ _ _ _⟩, Nat.le_refl _, (by intro b off s h; cases h), by simp; omega, by simp⟩, (Step.refl _ _).alloc _⟩

set_option maxHeartbeats 400000 in
theorem base_any (base lb : Nat) (a : Option Addr) (cap ix tm : Nat) (ts : List Nat) (w : World) (h : Log w base lb a cap ix tm ts) :
    Calls Try.prog 14 #[.pointer (some ⟨lb, 0, none⟩)] w fun e w' => e = .returned (.tuple #[.int .u64 (ix : Int), .int .u64 (tm : Int)]) ∧ w' = w.drew := by
  obtain ⟨c0, c1, c2⟩ := h.three
  clear h
  go_enter Try.func14, Try.ntmps14
  go_wp2_with fail
  go_region
  go_wp2_with fail
  go_ret2
  exact ⟨rfl, rfl⟩

set_option maxHeartbeats 1000000 in
theorem last_any (base lb : Nat) (a : Option Addr) (cap ix tm : Nat) (ts : List Nat) (w : World) (h : Log w base lb a cap ix tm ts) :
    Calls Try.prog 9 #[.pointer (some ⟨lb, 0, none⟩)] w fun e w' => e = .returned (.tuple #[.int .u64 ((ix + ts.length : Nat) : Int), .int .u64 (lastT tm ts : Int)]) ∧ Step [] w w' := by
  obtain ⟨c0, c1, c2⟩ := h.three
  have hsm := h.small
  have hfew := h.few
  by_cases hn : ts.length = 0
  · have e1 : lastT tm ts = tm := if_pos hn
    rw [e1]
    have HL := Lib.hid h
    clear e1 h
    generalize ts.length = n at *
    subst hn
    go_enter Try.func9, Try.ntmps9
    go_wp2_with fail
    refine (base_any _ _ _ _ _ _ _ _ HL.out).mono ?_
    rintro e w1 ⟨rfl, rfl⟩
    go_wp2_with fail
    go_ret2
    exact ⟨rfl, (Step.refl _ _).drew⟩
  · have e1 : lastT tm ts = ts.getD (ts.length - 1) 0 := if_neg hn
    rw [e1]
    obtain ⟨b, off, cf, da, dn, dc, rfl, hlt, d0, d1, d2, d3⟩ := h.at (ts.length - 1) (by omega)
    clear e1 h
    generalize ts.getD (ts.length - 1) 0 = T at *
    generalize ts.length = n at *
    obtain ⟨m, rfl⟩ : ∃ m, n = m + 1 := ⟨n - 1, by omega⟩
    simp only [Nat.add_sub_cancel] at d0 d1 d2 d3
    have hm : (((m + 1 : Nat) : Int) == 0) = false := by simp; omega
    go_enter Try.func9, Try.ntmps9
    go_wp2_with fail
    have n2 := World.new_ne w _ c2
    have n0 := World.new_ne w _ d0
    have hwm : IntKind.i64.wrap (m : Int) = m := i64_self _ (by omega) (by omega)
    have hm0 : (0 : Int) ≤ (m : Int) := by omega
    have hm1 : (m : Int) < (m : Int) + 1 := by omega
    go_region_held3 (fun w' => w'.cell? ⟨lb, 2, none⟩ = some (.slice (some ⟨b, off, none⟩) (m + 1) cap) ∧ w'.cell? ⟨b, off + m * 4, none⟩ = some (.int .u64 ((ix + m + 1 : Nat) : Int)) ∧ w'.cell? ⟨b, off + m * 4 + 1, none⟩ = some (.int .u64 (T : Int)) ∧ w'.cell? ⟨b, off + m * 4 + 2, none⟩ = some (.bool cf) ∧ w'.cell? ⟨b, off + m * 4 + 3, none⟩ = some (.slice da dn dc)) (go_keep) (fail)
    go_wp2_with fail
    go_region
    go_wp2_with fail
    go_ret2
    refine ⟨?_, ((Step.refl _ _).alloc _).drew.drew⟩
    have : (ix : Int) + (m : Int) + 1 = ((ix + (m + 1) : Nat) : Int) := by omega
    rw [this]
    rfl

set_option maxHeartbeats 1000000 in
theorem term_any (base lb : Nat) (a : Option Addr) (cap ix tm : Nat) (ts : List Nat) (i : Nat) (w : World) (h : Log w base lb a cap ix tm ts) :
    Calls Try.prog 15 #[.pointer (some ⟨lb, 0, none⟩), .int .u64 (i : Int)] w fun e w' => e = .returned (.tuple #[.int .u64 ((termAt ix tm ts i).1 : Int), .int .i64 (termAt ix tm ts i).2]) ∧ Step [] w w' := by
  have HL := Lib.hid (last_any _ _ _ _ _ _ _ _ h)
  have HH := Lib.hid h
  have hsm := h.small
  have hfew := h.few
  clear h
  obtain ⟨r, hr⟩ : ∃ r, termAt ix tm ts i = r := ⟨_, rfl⟩
  have HT := Lib.hid (show r = if i < ix then (0, 20) else if ix + ts.length < i then (0, 7) else if i = ix then (tm, 0) else (ts.getD (i - ix - 1) 0, 0) from hr.symm)
  rw [hr]
  clear hr
  go_enter Try.func15, Try.ntmps15
  go_wp2_with fail
  refine HL.out.mono ?_
  rintro e w1 ⟨rfl, hs⟩
  have HS := Lib.hid hs
  have hL1 := HH.out.step0 hs
  obtain ⟨c0, c1, c2⟩ := hL1.three
  have HL1 := Lib.hid hL1
  clear hs hL1 HL HH
  by_cases q0 : i < ix
  · have p0 : decide ((i : Int) < (ix : Int)) = true := by simp; omega
    have hr := Lib.hid (HT.out.trans (if_pos q0))
    clear HT
    go_wp2_with fail
    go_ret2
    cases hr.out
    exact ⟨rfl, HS.out⟩
  · have p0 : decide ((i : Int) < (ix : Int)) = false := by simp; omega
    by_cases q1 : ix + ts.length < i
    · have p1 : decide (((ix + ts.length : Nat) : Int) < (i : Int)) = true := by simp; omega
      have hr := Lib.hid ((HT.out.trans (if_neg q0)).trans (if_pos q1))
      clear HT
      generalize ts.length = n at *
      go_wp2_with fail
      go_ret2
      cases hr.out
      exact ⟨rfl, HS.out⟩
    · have p1 : decide (((ix + ts.length : Nat) : Int) < (i : Int)) = false := by simp; omega
      by_cases q2 : i = ix
      · subst q2
        have hr := Lib.hid (((HT.out.trans (if_neg q0)).trans (if_neg q1)).trans (if_pos rfl))
        clear HT
        generalize ts.length = n at *
        go_wp2_with fail
        go_ret2
        cases hr.out
        exact ⟨rfl, HS.out⟩
      · have p2 : ((i : Int) == (ix : Int)) = false := by simp; omega
        have hr := (((HT.out.trans (if_neg q0)).trans (if_neg q1)).trans (if_neg q2))
        clear HT
        obtain ⟨b, off, cf, da, dn, dc, rfl, hlt, d0, d1, d2, d3⟩ := HL1.out.at (i - ix - 1) (by omega)
        have e1 : IntKind.u64.wrap ((i : Int) - (ix : Int)) = ((i - ix : Nat) : Int) := by rw [u64_self _ (by omega) (by omega)]; omega
        have e2 : IntKind.u64.wrap (((i - ix : Nat) : Int) - 1) = ((i - ix - 1 : Nat) : Int) := by rw [u64_self _ (by omega) (by omega)]; omega
        have hk : i - ix - 1 < ts.length := by omega
        generalize ts.getD (i - ix - 1) 0 = T at *
        generalize ts.length = n at *
        generalize i - ix - 1 = k at *
        generalize i - ix = k1 at *
        subst hr
        have hk' : (k : Int) < (n : Int) := by omega
        go_wp2_with fail
        go_region
        go_wp2_with fail
        go_ret2
        exact ⟨rfl, HS.out.drew⟩
end Go.Proofs.Ytjepglbolkbldaa
