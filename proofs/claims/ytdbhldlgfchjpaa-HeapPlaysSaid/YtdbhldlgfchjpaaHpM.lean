/- HeapPlays: the model's functions. -/
import Derived.Test.YtdbhldlgfchjpaaHpLB
import Derived.Deep.AppendLies
import Derived.Deep.RegionHeldLaw
namespace Go.Proofs.Ytdbhldlgfchjpaa
set_option linter.unusedVariables false
set_option linter.unusedSectionVars false
open Go.RowKit HpB
abbrev TP : TypeId := 44
/-- pairs, in a row of the call's own -/
def Prs (w : World) (base : Nat) (v : Value) (m : List It) : Prop := w.ownsRow base 44 2 v m.length (flatI m)
theorem Prs.at0 {w : World} {base : Nat} {v : Value} {m : List It} (h : Prs w base v m) (hl : 0 < m.length) : ∃ g cap, v = .slice (some ⟨g, 0, none⟩) m.length cap := by
  rcases h.2 with ⟨_, h0⟩ | ⟨g, cap, cur, hv, _⟩
  · omega
  · exact ⟨g, cap, hv⟩
theorem Prs.form {w : World} {base : Nat} {v : Value} {m : List It} (h : Prs w base v m) : ∃ ao cap, v = .slice ao m.length cap := by
  rcases h.2 with ⟨hv, h0⟩ | ⟨g, cap, cur, hv, _⟩
  · exact ⟨none, 0, by rw [hv, h0]⟩
  · exact ⟨_, cap, hv⟩
theorem Prs.cell {w : World} {base g cap : Nat} {m : List It} (h : Prs w base (.slice (some ⟨g, 0, none⟩) m.length cap) m) (i : Nat) (hi : i < m.length) :
    w.cell? ⟨g, i * 2, none⟩ = some (.int .u8 (Hp.nth m i).1) ∧ w.cell? ⟨g, i * 2 + 1, none⟩ = some (.int .i64 (Hp.nth m i).2) := by
  obtain ⟨h1, h2⟩ := flat_get m i hi
  exact ⟨(World.ownsRow.cellAt h (i * 2) (by omega)).trans h1, (World.ownsRow.cellAt h (i * 2 + 1) (by omega)).trans h2⟩
theorem Prs.step {w w' : World} {base : Nat} {v : Value} {m : List It} {F : List Nat} (h : Prs w base v m) (hs : Step F w w') (hn : ∀ k, k ∈ foot v → k ∉ F) : Prs w' base v m := owns_step h hs hn

theorem ahead_any (a b : It) (w : World) : Calls Try.prog 42 #[.agg #[.int .u8 a.1, .int .i64 a.2], .agg #[.int .u8 b.1, .int .i64 b.2]] w fun e w' => e = .returned (.bool (HpB.lt a b)) ∧ Step [] w w' := by
  obtain ⟨ak, ar⟩ := a
  obtain ⟨bk, br⟩ := b
  dsimp only
  have HL := Lib.hid (show HpB.lt (ak, ar) (bk, br) = (decide (ar < br) || (decide (ar = br) && decide (ak < bk))) from rfl)
  go_enter Try.func42, Try.ntmps42
  by_cases h1 : ar < br
  · have p1 : decide (ar < br) = true := by simpa using h1
    go_wp2_with fail
    go_ret
    exact ⟨by rw [HL.out, p1]; rfl, ((Step.refl [] w).alloc _).alloc _⟩
  · have p1 : decide (ar < br) = false := by simpa using h1
    by_cases h2 : ar = br
    · subst h2
      go_wp2_with fail
      all_goals
        go_ret
        exact ⟨by rw [HL.out]; simp, ((Step.refl [] w).alloc _).alloc _⟩
    · have p2 : (ar == br) = false := by simpa using h2
      go_wp2_with fail
      all_goals
        go_ret
        exact ⟨by rw [HL.out]; simp [h1, h2], ((Step.refl [] w).alloc _).alloc _⟩

/-- where a key is -/
def FindPost (m : List It) (k : Int) (w : World) (e : Ending) (w' : World) : Prop :=
  w = w' ∧ ∃ r : Int, e = .returned (.int .i64 r) ∧ ((r = -1 ∧ ∀ x ∈ m, x.1 ≠ k) ∨ ∃ i : Nat, i < m.length ∧ r = (i : Int) ∧ (Hp.nth m i).1 = k)
set_option maxHeartbeats 1000000 in
theorem find_any (base : Nat) (v : Value) (m : List It) (k : Int) (w : World) (h : Prs w base v m) (hfew : m.length ≤ 100000) :
    Calls Try.prog 12 #[v, .int .u8 k] w (FindPost m k w) := by
  obtain ⟨ao, cap, rfl⟩ := h.form
  have HH := Lib.hid h
  obtain ⟨n, hn⟩ : ∃ n, m.length = n := ⟨_, rfl⟩
  have HN := Lib.hid hn
  rw [hn] at hfew ⊢
  clear h hn
  go_enter Try.func12, Try.ntmps12
  go_wp2_with fail
  go_loop [8] (fun s => ∃ i : Nat, s = .int .i64 (i : Int) ∧ i ≤ n ∧ ∀ j, j < i → (Hp.nth m j).1 ≠ k) (fun s => n - (intOf s).toNat)
  case atStart => exact ⟨0, rfl, Nat.zero_le _, fun j hj => absurd hj (Nat.not_lt_zero _)⟩
  case round =>
    obtain ⟨i, rfl, hi, hall⟩ := hrel
    have HA := Lib.hid hall
    clear hall
    by_cases hik : i < n
    · have p1 : (i : Int) < (n : Int) := by omega
      obtain ⟨g, cap', hv⟩ := HH.out.at0 (by have := HN.out; omega)
      injection hv with hv1 hv2 hv3
      subst hv1
      subst hv3
      clear hv2
      have c0 := (HH.out.cell i (by have := HN.out; omega)).1
      obtain ⟨y, hy⟩ : ∃ y, (Hp.nth m i).1 = y := ⟨_, rfl⟩
      have HY := Lib.hid hy
      rw [hy] at c0
      clear hy
      by_cases e : y = k
      · have p2 : (y == k) = true := by simpa using e
        go_wp2_with fail
        go_ret
        exact ⟨rfl, _, rfl, .inr ⟨i, by have := HN.out; omega, rfl, by rw [HY.out]; exact e⟩⟩
      · have p2 : (y == k) = false := by simpa using e
        go_wp2_with fail
        go_round
        case rel =>
          refine ⟨i + 1, by go_num, by omega, fun j hj => ?_⟩
          by_cases hj2 : j = i
          · subst hj2
            rw [HY.out]
            exact e
          · exact HA.out j (by omega)
        case measure => simp [intOf]; omega
    · have hie : i = n := by omega
      subst hie
      have p1 : decide ((i : Int) < (i : Int)) = false := by simp
      go_wp2_with fail
      go_ret
      refine ⟨rfl, -1, rfl, .inl ⟨rfl, fun x hx => ?_⟩⟩
      obtain ⟨j, hj, rfl⟩ := Hp.mem_nth hx
      exact HA.out j (by have := HN.out; omega)

/-- where the first one is -/
def LeastPost (m : List It) (w : World) (e : Ending) (w' : World) : Prop :=
  Step [] w w' ∧ ∃ r : Int, e = .returned (.int .i64 r) ∧ ((r = -1 ∧ m.length = 0) ∨ ∃ i : Nat, i < m.length ∧ r = (i : Int) ∧ ∀ j, j < m.length → HpB.lt (Hp.nth m j) (Hp.nth m i) = false)
set_option maxRecDepth 20000 in
set_option maxHeartbeats 1000000 in
theorem least_any (base : Nat) (v : Value) (m : List It) (w : World) (h : Prs w base v m) (hfew : m.length ≤ 100000) :
    Calls Try.prog 18 #[v] w (LeastPost m w) := by
  obtain ⟨ao, cap, rfl⟩ := h.form
  have HH := Lib.hid h
  obtain ⟨n, hn⟩ : ∃ n, m.length = n := ⟨_, rfl⟩
  have HN := Lib.hid hn
  rw [hn] at hfew ⊢
  clear h hn
  go_enter Try.func18, Try.ntmps18
  go_wp2_with fail
  go_loopw [3, 7] (fun b s wr => ∃ i : Nat, s = .int .i64 (i : Int) ∧ i ≤ n ∧ Step [] w wr ∧ (i = 0 ∧ b = .int .i64 (-1) ∨ ∃ q : Nat, q < i ∧ b = .int .i64 (q : Int) ∧ ∀ j, j < i → HpB.lt (Hp.nth m j) (Hp.nth m q) = false)) (fun _ s _ => n - (intOf s).toNat)
  case atStart => exact ⟨0, rfl, Nat.zero_le _, Step.refl _ _, .inl ⟨rfl, rfl⟩⟩
  case round =>
    obtain ⟨i, rfl, hi, hst, hb⟩ := hrel
    have HS := Lib.hid hst
    clear hst
    by_cases hik : i < n
    · have p1 : (i : Int) < (n : Int) := by omega
      rcases hb with ⟨rfl, rfl⟩ | ⟨q, hq, rfl, hall⟩
      · have h0 : m.length ≠ 0 := by have := HN.out; omega
        go_wp2_with fail
        refine region_cls (G := fun W => W = wr.drew) (by kernel_rfl) (by kernel_rfl) rfl ?_
        have hne : Nonempty (ClsW (fun W => W = wr.drew)) := ⟨⟨_, rfl⟩⟩
        repeat (go_big_quiet_step (fail))
        refine wpQuiet_nil ?_
        rintro _ ⟨⟨w3, hw3⟩, rfl⟩
        subst hw3
        clear hne
        have HS2 := Lib.hid (HS.out.drew)
        go_wp2_with fail
        go_roundw
        case rel => exact ⟨1, rfl, by omega, HS2.out, .inr ⟨0, by omega, rfl, fun j hj => by rw [show j = 0 by omega]; exact HpB.olt.irr _⟩⟩
        case measure => simp [intOf]; omega
      · have HA := Lib.hid hall
        clear hall
        have hq0 : decide ((q : Int) < 0) = false := by simp
        have p3 : (q : Int) < (n : Int) := by omega
        obtain ⟨g, cap', hv⟩ := HH.out.at0 (by have := HN.out; omega)
        injection hv with hv1 hv2 hv3
        subst hv1
        subst hv3
        clear hv2
        have hci := (HH.out.step HS.out (by simp)).cell i (by have := HN.out; omega)
        have hcq := (HH.out.step HS.out (by simp)).cell q (by have := HN.out; omega)
        obtain ⟨⟨ki, vi⟩, hxi⟩ : ∃ x, Hp.nth m i = x := ⟨_, rfl⟩
        obtain ⟨⟨kq, vq⟩, hxq⟩ : ∃ x, Hp.nth m q = x := ⟨_, rfl⟩
        rw [hxi] at hci
        rw [hxq] at hcq
        dsimp only at hci hcq
        have ho := ahead_any (ki, vi) (kq, vq)
        dsimp only at ho
        obtain ⟨c, hc⟩ : ∃ c, HpB.lt (ki, vi) (kq, vq) = c := ⟨_, rfl⟩
        rw [hc] at ho
        have HO := Lib.hid ho
        have HX := Lib.hid (And.intro hxi (And.intro hxq hc))
        have HC := Lib.hid (fun (W : World) (hs : Step [] wr W) => (show W.cell? ⟨g, i * 2, none⟩ = some (.int .u8 ki) ∧ W.cell? ⟨g, i * 2 + 1, none⟩ = some (.int .i64 vi) ∧ W.cell? ⟨g, q * 2, none⟩ = some (.int .u8 kq) ∧ W.cell? ⟨g, q * 2 + 1, none⟩ = some (.int .i64 vq) from
          ⟨(hs.cell (World.block_lt_of_cell? wr _ hci.1) (by simp)).trans hci.1, (hs.cell (World.block_lt_of_cell? wr _ hci.2) (by simp)).trans hci.2, (hs.cell (World.block_lt_of_cell? wr _ hcq.1) (by simp)).trans hcq.1, (hs.cell (World.block_lt_of_cell? wr _ hcq.2) (by simp)).trans hcq.2⟩))
        clear ho hxi hxq hc hci hcq
        go_wp2_with fail
        have hk : Step [] wr wr.drew := (Step.refl [] wr).drew
        refine region_cls (G := Step [] wr) (by kernel_rfl) (by kernel_rfl) hk ?_
        have hne : Nonempty (ClsW (Step [] wr)) := ⟨⟨_, hk⟩⟩
        have d1 : ∀ x : ClsW (Step [] wr), x.val.cell? ⟨g, i * 2, none⟩ = some (.int .u8 ki) := fun x => (HC.out _ x.ok).1
        have d2 : ∀ x : ClsW (Step [] wr), x.val.cell? ⟨g, i * 2 + 1, none⟩ = some (.int .i64 vi) := fun x => (HC.out _ x.ok).2.1
        have d3 : ∀ x : ClsW (Step [] wr), x.val.cell? ⟨g, q * 2, none⟩ = some (.int .u8 kq) := fun x => (HC.out _ x.ok).2.2.1
        have d4 : ∀ x : ClsW (Step [] wr), x.val.cell? ⟨g, q * 2 + 1, none⟩ = some (.int .i64 vq) := fun x => (HC.out _ x.ok).2.2.2
        repeat (go_big_quiet_step ((go_at_call 42; exact cls_call ((HO.out _).mono fun e w3 h => ⟨h.1, Step.then (ClsW.ok _) h.2 (by simp)⟩))))
        refine wpQuiet_nil ?_
        rintro W2 ⟨⟨w2, hw2⟩, rfl⟩
        clear hne d1 d2 d3 d4 hk
        have HS2 := Lib.hid (HS.out.then hw2 (by simp))
        clear hw2
        cases c with
        | true =>
          go_wp2_with fail
          go_roundw
          case rel =>
            obtain ⟨x1, x2, x3⟩ := HX.out
            refine ⟨i + 1, by go_num, by omega, HS2.out, .inr ⟨i, by omega, rfl, fun j hj => ?_⟩⟩
            by_cases e : j = i
            · subst e
              exact HpB.olt.irr _
            · cases hlt : HpB.lt (Hp.nth m j) (Hp.nth m i) with
              | false => rfl
              | true =>
                have h1 := HA.out j (by omega)
                rw [x1] at hlt
                rw [x2, HpB.olt.tr _ _ _ hlt x3] at h1
                cases h1
          case measure => simp [intOf]; omega
        | false =>
          go_wp2_with fail
          go_roundw
          case rel =>
            obtain ⟨x1, x2, x3⟩ := HX.out
            refine ⟨i + 1, by go_num, by omega, HS2.out, .inr ⟨q, by omega, rfl, fun j hj => ?_⟩⟩
            by_cases e : j = i
            · subst e
              rw [x1, x2]
              exact x3
            · exact HA.out j (by omega)
          case measure => simp [intOf]; omega
    · have hie : i = n := by omega
      subst hie
      have p1 : decide ((i : Int) < (i : Int)) = false := by simp
      rcases hb with ⟨h0, rfl⟩ | ⟨q, hq, rfl, hall⟩
      · go_wp2_with fail
        go_ret
        exact ⟨HS.out, -1, rfl, .inl ⟨rfl, by rw [HN.out]; exact h0⟩⟩
      · have HA := Lib.hid hall
        clear hall
        go_wp2_with fail
        go_ret
        exact ⟨HS.out, _, rfl, .inr ⟨q, by rw [HN.out]; exact hq, rfl, fun j hj => HA.out j (by rw [HN.out] at hj; exact hj)⟩⟩
end Go.Proofs.Ytdbhldlgfchjpaa
