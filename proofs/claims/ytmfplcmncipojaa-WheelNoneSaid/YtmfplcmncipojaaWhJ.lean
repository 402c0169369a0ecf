/- wheel.Add. -/
import Derived.Test.YtmfplcmncipojaaWhD
import Derived.Test.YtmfplcmncipojaaWhF
namespace Go.Proofs.Ytmfplcmncipojaa
set_option linter.unusedVariables false
set_option linter.unusedSimpArgs false
open Go.RowKit Go.Maps

theorem zeroPl (w : World) : (zeroValue 70).run Try.prog w = .ok (plE.val (0, 0)) w := Try.zeroP w
theorem add_tim {T : ByteArray → Option Int} {ks : List ByteArray} {x : ByteArray} {a : Int} (h : Tim T ks) (hx : x.size ≤ maxLen) (hn : T x = none) (ha : 0 ≤ a ∧ a ≤ 1099511627776) (hl : ks.length + 1 ≤ 1000000) : Tim (upd T x (some a)) (x :: ks) where
  nd := by
    rw [List.nodup_cons]
    exact ⟨fun h2 => ((h.mem x hx).2 h2) hn, h.nd⟩
  good := fun y hy => by
    rcases List.mem_cons.1 hy with rfl | hy
    · exact hx
    · exact h.good y hy
  mem := fun y hy => by
    unfold upd
    by_cases e : y = x
    · subst e
      simp
    · simp [e, h.mem y hy]
  bd := fun y b hb => by
    unfold upd at hb
    split at hb
    · cases hb
      exact ha
    · exact h.bd y b hb
  len := by simpa using hl
theorem add_state (now : Int) (T : ByteArray → Option Int) (x : ByteArray) (a : Int) (hn : T x = none) : upd (WL T (PI now T)) x (some (fnd now a)) = WL (upd T x (some a)) (PI now (upd T x (some a)))
    ∧ updS (SL T (PI now T)) (slt (fnd now a)) (upd (SL T (PI now T) (slt (fnd now a))) x (some a)) = SL (upd T x (some a)) (PI now (upd T x (some a))) := by
  constructor
  · funext y
    unfold WL PI upd
    by_cases e : y = x
    · subst e
      simp
    · simp [e]
  · funext s y
    unfold updS SL PI upd
    by_cases e : y = x
    · subst e
      by_cases h2 : s = slt (fnd now a)
      · simp [h2]
      · have h3 : ¬ slt (fnd now a) = s := fun e => h2 e.symm
        simp [h2, h3, hn]
    · by_cases h2 : s = slt (fnd now a) <;> simp [e, h2]
/-- what Add leaves -/
def Added (wb : Nat) (mb : Nat → Nat) (hb : Nat) (now most : Int) (T : ByteArray → Option Int) (ks : List ByteArray) (x : ByteArray) (a : Int) (w : World) (e : Ending) (w' : World) : Prop :=
  Step (mapsF mb hb) w w' ∧ ((((x = ⟨#[]⟩ ∨ a < 0 ∨ 1099511627776 < a) ∧ e = .returned (.int .i64 1)) ∨ (¬ (x = ⟨#[]⟩ ∨ a < 0 ∨ 1099511627776 < a) ∧ T x ≠ none ∧ e = .returned (.int .i64 8)) ∨ (¬ (x = ⟨#[]⟩ ∨ a < 0 ∨ 1099511627776 < a) ∧ T x = none ∧ most ≤ (ks.length : Int) ∧ e = .returned (.int .i64 6))) ∧ Wh w' wb mb hb now most ks.length (WL T (PI now T)) (SL T (PI now T))
    ∨ (¬ (x = ⟨#[]⟩ ∨ a < 0 ∨ 1099511627776 < a) ∧ T x = none ∧ (ks.length : Int) < most ∧ e = .returned (.int .i64 0) ∧ Wh w' wb mb hb now most (x :: ks).length (WL (upd T x (some a)) (PI now (upd T x (some a)))) (SL (upd T x (some a)) (PI now (upd T x (some a))))))

set_option maxRecDepth 20000 in
set_option maxHeartbeats 4000000 in
theorem wadd_any (wb : Nat) (mb : Nat → Nat) (hb : Nat) (now most : Int) (T : ByteArray → Option Int) (ks : List ByteArray) (x : ByteArray) (a : Int) (w : World) (h : Wh w wb mb hb now most ks.length (WL T (PI now T)) (SL T (PI now T))) (ht : Tim T ks) (h0 : 0 ≤ now) (hm : now ≤ 1099511627776) (hx : x.size ≤ maxLen) (hl : ks.length + 1 ≤ 1000000) :
    Calls Try.prog 10 #[ptr wb, .string x, .int .i64 a] w (Added wb mb hb now most T ks x a w) := by
  have HH := Lib.hid h
  have HT := Lib.hid ht
  have HX := Lib.hid (And.intro hx hl)
  have c260 := h.where_
  have c1 := h.cmost
  clear h ht hx hl
  unfold ptr
  by_cases g0 : x = ⟨#[]⟩
  · have HG := Lib.hid g0
    subst g0
    go_enter Try.func10, Try.ntmps10
    go_wp2_with fail
    go_ret
    exact ⟨Step.refl _ _, .inl ⟨.inl ⟨.inl rfl, rfl⟩, HH.out⟩⟩
  · have gc : (x.toList == []) = false := by
      have : x.toList ≠ [] := fun e => g0 (by
        rw [ByteArray.toList_eq] at e
        obtain ⟨⟨d⟩⟩ := x
        simp at e
        rw [e])
      simpa using this
    by_cases g1 : a < 0
    · go_enter Try.func10, Try.ntmps10
      go_wp2_with fail
      go_ret
      exact ⟨Step.refl _ _, .inl ⟨.inl ⟨.inr (.inl g1), rfl⟩, HH.out⟩⟩
    · by_cases g2 : 1099511627776 < a
      · go_enter Try.func10, Try.ntmps10
        go_wp2_with fail
        go_ret
        exact ⟨Step.refl _ _, .inl ⟨.inl ⟨.inr (.inr g2), rfl⟩, HH.out⟩⟩
      · have HG := Lib.hid (show ¬ (x = ⟨#[]⟩ ∨ a < 0 ∨ 1099511627776 < a) by
          rintro (h | h | h)
          · exact g0 h
          · omega
          · omega)
        cases hT : T x with
        | some b =>
          obtain ⟨p1, hp1⟩ : ∃ p, (PI now T x).1 = p := ⟨_, rfl⟩
          obtain ⟨p2, hp2⟩ : ∃ p, (PI now T x).2 = p := ⟨_, rfl⟩
          have hW : WL T (PI now T) x = some (p1, p2) := by
            unfold WL
            rw [hT, ← hp1, ← hp2]
            rfl
          have HW := Lib.hid hW
          have HTx := Lib.hid hT
          clear hW hT hp1 hp2
          go_enter Try.func10, Try.ntmps10
          go_wp2_with (at_lookup; refine wpList_look_ok nmK plE rfl _ _ _ 70 rfl Try.underlying63 (0, 0) (zeroPl _) rfl HH.out.wh x rfl HX.out.1 ?_; rw [HW.out]; simp only [Option.getD_some, Option.isSome_some, plE_val])
          go_ret
          exact ⟨(Step.refl _ _).alloc _, .inl ⟨.inr (.inl ⟨HG.out, by rw [HTx.out]; simp, rfl⟩), HH.out.step0 ((Step.refl _ _).alloc _)⟩⟩
        | none =>
          have hW : WL T (PI now T) x = none := by
            unfold WL
            rw [hT]
            rfl
          have HW := Lib.hid hW
          have HTx := Lib.hid hT
          have hh1 := HH.out.step0 ((Step.refl [] w).alloc (.cells #[.int .i64 0, .int .i64 0] 70))
          have hs1 := (Step.refl [] w).alloc (.cells #[.int .i64 0, .int .i64 0] 70)
          obtain ⟨W1, hW1⟩ : ∃ W1, w.alloc (.cells #[.int .i64 0, .int .i64 0] 70) = W1 := ⟨_, rfl⟩
          rw [hW1] at hh1 hs1
          have X := Lib.hid hW1
          have HH1 := Lib.hid hh1
          have HS1 := Lib.hid hs1
          have d260 := hh1.where_
          have d1 := hh1.cmost
          have hln : ∀ (W : World) (ty : TypeId), Step [] W1 W → (Builtin.len_ #[63] ty #[.map (some hb)]).run Try.prog W = .ok (.int .i64 (ks.length : Int)) W := fun W ty hs =>
            (hh1.step0 hs).wh.len ks HT.out.nd (fun y hy => by rw [← HT.out.mem y hy]; unfold WL; simp) HT.out.good Try.underlying63 ty
          have l1 := fun ty => hln W1 ty (Step.refl _ _)
          have l2 := fun ty => hln W1.drew ty (Step.refl _ _).drew
          clear hW hT hh1 hs1 hW1 hln
          obtain ⟨kl, hkl⟩ : ∃ kl, ks.length = kl := ⟨_, rfl⟩
          have HKL := Lib.hid hkl
          rw [hkl] at l1 l2
          clear hkl
          by_cases g6 : most ≤ (kl : Int)
          · go_enter Try.func10, Try.ntmps10
            go_wp2_with (first | (at_lookup; refine wpList_look_ok nmK plE rfl _ _ _ 70 rfl Try.underlying63 (0, 0) (zeroPl _) rfl HH.out.wh x rfl HX.out.1 ?_; rw [HW.out]; simp only [Option.getD_none, Option.isSome_none, plE_val]))
            rw [X.out]
            go_region
            all_goals
              go_wp2_with fail
              go_ret
              exact ⟨(HS1.out.drew).mono (by simp), .inl ⟨.inr (.inr ⟨HG.out, HTx.out, by rw [HKL.out]; exact g6, rfl⟩), HH1.out.step0 ((Step.refl _ _).drew)⟩⟩
          · go_enter Try.func10, Try.ntmps10
            go_wp2_with (first | (at_lookup; refine wpList_look_ok nmK plE rfl _ _ _ 70 rfl Try.underlying63 (0, 0) (zeroPl _) rfl HH.out.wh x rfl HX.out.1 ?_; rw [HW.out]; simp only [Option.getD_none, Option.isSome_none, plE_val]))
            rw [X.out]
            go_region
            all_goals
              have hdr := HH1.out.step0 ((Step.refl [] W1).drew)
              have HP := Lib.hid (wput_any wb mb hb now most ks.length _ _ x a _ hdr h0 (by omega) hm (by omega) HX.out.1 (by have := HX.out.2; unfold maxLen; omega))
              unfold ptr at HP
              clear hdr d260 d1 l1 l2
              go_wp2_with fail
              refine HP.out.mono ?_
              rintro e w5 ⟨rfl, hh5, hs5⟩
              obtain ⟨as1, as2⟩ := add_state now T x a HTx.out
              rw [as1, as2] at hh5
              have hat := add_tim (a := a) HT.out HX.out.1 HTx.out ⟨by omega, by omega⟩ HX.out.2
              have hh6 := hh5.shrink _ hat.nd hat.good (fun y hy => by rw [← hat.mem y hy]; unfold WL; simp) (fun t _ y hy h2 => by
                rw [← hat.mem y hy]
                intro h3
                unfold SL at h2
                rw [h3] at h2
                simp at h2)
              have HF := Lib.hid (And.intro hh6 (((HS1.out.drew).mono (G := mapsF mb hb) (by simp)).trans hs5 (fun k hk => .inl hk)))
              clear hh5 hs5 as1 as2 hat hh6 HP
              go_wp2_with fail
              go_ret
              exact ⟨HF.out.2, .inr ⟨HG.out, HTx.out, by rw [HKL.out]; omega, rfl, HF.out.1⟩⟩
end Go.Proofs.Ytmfplcmncipojaa
