/- EntryTwice: the walks of the law's Follow and of the law. -/
import Derived.Test.YtjepglbolkbldaaEntT
namespace Go.Proofs.Ytjepglbolkbldaa
set_option linter.unusedVariables false
open Go.RowKit

theorem Came.step {w w' : World} {a : Option Addr} {cap : Nat} {l : List En} (h : Came w a cap l) (hs : Step [] w w') : Came w' a cap l :=
  ⟨h.ents.step hs (by simp), h.room, fun x hx => ⟨(h.data x hx).1.step hs, fun hq b off hb => Nat.lt_of_lt_of_le ((h.data x hx).2.1 hq b off hb) hs.size, (h.data x hx).2.2⟩⟩

/-- entries that came in ahead of a log are put -/
theorem put_came {w w1 : World} {base lb : Nat} {a : Option Addr} {cap ix tm : Nat} {ts : List Nat} (h : Log w1 base lb a cap ix tm ts) (hs : Step [] w w1) {ea : Option Addr} {ec : Nat} {l : List En} (hc : Came w ea ec l) (hb : w.heap.size ≤ base) (i t : Nat) (hl : l.length ≤ 20) (hi : i + l.length < 4611686018427387904) (hix : ix + ts.length < 4611686018427387904) :
    Calls Try.prog 8 #[.pointer (some ⟨lb, 0, none⟩), .int .u64 (i : Int), .int .u64 (t : Int), .slice ea l.length ec] w1 fun e w' => e = .returned (.tuple #[.int .u64 (((putR ix tm ts i t l).1 : Nat) : Int), .int .i64 (putR ix tm ts i t l).2.1]) ∧ ∃ a2 c2, Log w' base lb a2 c2 ix tm (putR ix tm ts i t l).2.2 ∧ Step [] w w' := by
  have hlow := h.low
  have hf := h.footB
  have h2 := hc.step hs
  refine (put_any base lb a cap ix tm ts i t ea ec l w1 h h2.ents (fun x hx => (h2.data x hx).1) (fun x hx hq b off hb2 => ?_) (fun hq b off hb2 => ?_) h2.room (by omega) hi hix).mono ?_
  · have h3 := (hc.data x hx).2.1 hq b off hb2
    exact ⟨by omega, fun hm => by have := hf b hm; omega⟩
  · obtain ⟨b3, off3, hb3, hlt, -⟩ := hc.ents 0 hq
    rw [hb2] at hb3
    cases hb3
    exact ⟨by omega, fun hm => by have := hf b hm; omega⟩
  · rintro e w2 ⟨rfl, a2, c2, hL, hs2, hf2⟩
    refine ⟨rfl, a2, c2, hL, hs.then hs2 (fun k hk => .inr ?_)⟩
    rcases List.mem_cons.1 hk with h | h
    · omega
    · have := hf k h; omega

set_option maxHeartbeats 1000000 in
theorem lawFollow_any (a : Option Addr) (cap : Nat) (l : List En) (i0 t0 : Nat) (w : World) (hE : Ents w a l) (hi : i0 + l.length < 4611686018427387904) :
    Calls Try.prog 10 #[.int .u64 (i0 : Int), .int .u64 (t0 : Int), .slice a l.length cap] w fun e w' => e = .returned (.int .i64 (followF i0 t0 false l)) ∧ Step [] w w' := by
  obtain ⟨r0, hr0⟩ : ∃ r, followF i0 t0 false l = r := ⟨_, rfl⟩
  rw [hr0]
  have HR := Lib.hid hr0
  have HE := Lib.hid hE
  clear hr0 hE
  go_enter Try.func10, Try.ntmps10
  go_wp2_with fail
  go_loopw [1, 7, 12] (fun t lg j wr => ∃ (k t' : Nat) (g : Bool) (G : Int), k ≤ l.length ∧ t = .int .u64 (t' : Int) ∧ lg = .int .i64 G ∧ G = (if g then 15 else 0) ∧ j = .int .i64 k ∧ followF (i0 + k) t' g (l.drop k) = r0 ∧ Step [] w wr) (fun _ _ j _ => l.length - (intOf j).toNat)
  case atStart => exact ⟨0, t0, false, 0, Nat.zero_le _, rfl, rfl, rfl, rfl, HR.out, Step.refl _ _⟩
  case round =>
    obtain ⟨k, t, g, G, hk, rfl, rfl, hG, rfl, hF, hs⟩ := hrel
    have HG := Lib.hid hG
    clear hG
    have HF := Lib.hid hF
    have HS := Lib.hid hs
    clear hF hs
    by_cases hkl : k < l.length
    · obtain ⟨b1, off, rfl, hlt, c0, c1, c2, c3⟩ := HE.out.step HS.out (by simp) k hkl
      have hkm : (k : Int) < (l.length : Int) := by omega
      have hd := drop_cons hkl
      rw [hd] at HF
      clear hd
      generalize l.getD k en0 = x at *
      obtain ⟨xi, xt, xc, xa, xn, xk⟩ := x
      simp only at c0 c1 c2 c3
      obtain ⟨I, hI⟩ : ∃ I, i0 + k = I := ⟨_, rfl⟩
      have hI2 : i0 + (k + 1) = I + 1 := by omega
      have hIs : I + 1 < 9223372036854775808 := by omega
      have HF2 := Lib.hid (show r0 = if xi = I + 1 ∧ ¬ xt < t then followF (I + 1) xt (g || decide (900 < xn)) (l.drop (k + 1)) else 2 from by rw [← hI]; exact HF.out.symm)
      have e0 : IntKind.u64.wrap (k : Int) = (k : Int) := u64_self _ (by omega) (by omega)
      have e1 : IntKind.u64.wrap ((i0 : Int) + (k : Int)) = (I : Int) := by rw [u64_self _ (by omega) (by omega)]; omega
      have e2 : IntKind.u64.wrap ((I : Int) + 1) = (I : Int) + 1 := u64_self _ (by omega) (by omega)
      clear hI HF
      by_cases q1 : xi = I + 1
      · subst q1
        by_cases q2 : xt < t
        · have p2 : decide ((xt : Int) < (t : Int)) = true := by simp; omega
          have hr := Lib.hid (HF2.out.trans (if_neg (by omega)))
          clear HF2
          go_wp2_with fail
          go_ret
          cases hr.out
          exact ⟨rfl, HS.out.alloc _⟩
        · have p2 : decide ((xt : Int) < (t : Int)) = false := by simp; omega
          have hr := Lib.hid (HF2.out.trans (if_pos ⟨rfl, q2⟩))
          clear HF2
          by_cases q3 : 900 < xn
          · have p3 : decide ((900 : Int) < (xn : Int)) = true := by simp; omega
            have p4 : (g || decide (900 < xn)) = true := by simp [q3]
            rw [p4] at hr
            go_wp2_with fail
            go_roundw
            case rel => exact ⟨k + 1, xt, true, 15, by omega, rfl, rfl, rfl, by go_num, by rw [hI2]; exact hr.out.symm, (HS.out.alloc _)⟩
            case measure => simp [intOf]; omega
          · have p3 : decide ((900 : Int) < (xn : Int)) = false := by simp; omega
            have p4 : (g || decide (900 < xn)) = g := by simp [q3]
            rw [p4] at hr
            go_wp2_with fail
            go_roundw
            case rel => exact ⟨k + 1, xt, g, G, by omega, rfl, rfl, HG.out, by go_num, by rw [hI2]; exact hr.out.symm, (HS.out.alloc _)⟩
            case measure => simp [intOf]; omega
      · have p1 : ((xi : Int) == (I : Int) + 1) = false := by simp; omega
        have hr := Lib.hid (HF2.out.trans (if_neg (by omega)))
        clear HF2
        go_wp2_with fail
        go_ret
        cases hr.out
        exact ⟨rfl, HS.out.alloc _⟩
    · have hke : k = l.length := by omega
      have hr : r0 = if g then 15 else 0 := by
        have := HF.out
        rw [hke, List.drop_length] at this
        exact this.symm
      have hr2 := Lib.hid hr
      clear hr HF
      have hkm : ¬ (k : Int) < (l.length : Int) := by omega
      go_wp2_with fail
      go_ret
      exact ⟨by rw [hr2.out, ← HG.out]; rfl, HS.out⟩

/-- entries that are too many, or an index that is too great: the law's example alone -/
theorem twice_small (i t : Nat) (a b : Option Addr) (ca cb : Nat) (l r : List En) (w : World) (h : 20 < l.length ∨ 20 < r.length ∨ 1099511627776 < i) :
    Calls Try.prog 3 #[.int .u64 (i : Int), .int .u64 (t : Int), .slice a l.length ca, .slice b r.length cb] w fun e w' => e = .returned (.bool true) ∧ Step [] w w' := by
  generalize l.length = n at *
  generalize r.length = m at *
  obtain ⟨p1, p2, p3, hp⟩ : ∃ p1 p2 p3 : Bool, decide ((20 : Int) < (n : Int)) = p1 ∧ decide ((20 : Int) < (m : Int)) = p2 ∧ decide ((1099511627776 : Int) < (i : Int)) = p3 := ⟨_, _, _, rfl, rfl, rfl⟩
  obtain ⟨h1, h2, h3⟩ := hp
  have hor : p1 = true ∨ p2 = true ∨ p3 = true := by
    rw [← h1, ← h2, ← h3]
    simp
    omega
  have HO := Lib.hid hor
  clear hor h
  go_enter Try.func3, Try.ntmps3
  go_wp2_with fail
  refine (lives_any w).mono ?_
  rintro e w1 ⟨rfl, hs⟩
  have HS := Lib.hid hs
  clear hs
  have rest : ∀ (e2 : Ending) (w2 : World), e2 = Ending.returned (.bool true) ∧ Step [] w1 w2 → e2 = Ending.returned (.bool true) ∧ Step [] w w2 := fun e2 w2 h => ⟨h.1, HS.out.then h.2 (by simp)⟩
  have HRs := Lib.hid rest
  clear rest
  cases p1 with
  | true =>
    go_wp2_with fail
    refine (lives_any w1).mono ?_
    rintro e w2 ⟨rfl, hs⟩
    have HT := Lib.hid hs
    clear hs
    go_wp2_with fail
    go_ret
    exact HRs.out _ _ ⟨rfl, HT.out⟩
  | false =>
    cases p2 with
    | true =>
      go_wp2_with fail
      refine (lives_any w1).mono ?_
      rintro e w2 ⟨rfl, hs⟩
      have HT := Lib.hid hs
      clear hs
      go_wp2_with fail
      go_ret
      exact HRs.out _ _ ⟨rfl, HT.out⟩
    | false =>
      cases p3 with
      | true =>
        go_wp2_with fail
        refine (lives_any w1).mono ?_
        rintro e w2 ⟨rfl, hs⟩
        have HT := Lib.hid hs
        clear hs
        go_wp2_with fail
        go_ret
        exact HRs.out _ _ ⟨rfl, HT.out⟩
      | false => rcases HO.out with h | h | h <;> cases h

set_option maxRecDepth 20000 in
set_option maxHeartbeats 2000000 in
theorem twice_main (i t : Nat) (a b : Option Addr) (ca cb : Nat) (l r : List En) (w : World) (hl : Came w a ca l) (hr : Came w b cb r) (hi : i ≤ 1099511627776) (hl20 : l.length ≤ 20) (hr20 : r.length ≤ 20) :
    Calls Try.prog 3 #[.int .u64 (i : Int), .int .u64 (t : Int), .slice a l.length ca, .slice b r.length cb] w fun e w' => e = .returned (.bool true) ∧ Step [] w w' := by
  have p1 : decide ((20 : Int) < (l.length : Int)) = false := by simp; omega
  have p2 : decide ((20 : Int) < (r.length : Int)) = false := by simp; omega
  have p3 : decide ((1099511627776 : Int) < (i : Int)) = false := by simp; omega
  have HA := Lib.hid hl
  have HB := Lib.hid hr
  clear hl hr
  go_enter Try.func3, Try.ntmps3
  go_wp2_with fail
  refine (lives_any w).mono ?_
  rintro e w1 ⟨rfl, hs⟩
  have HS := Lib.hid hs
  clear hs
  go_wp2_with fail
  refine (new_any i t w1 (by omega)).mono ?_
  rintro e w2 ⟨rfl, hL, hs⟩
  have hlow := HS.out.size
  obtain ⟨lb, hlb⟩ : ∃ b, w1.heap.size = b := ⟨_, rfl⟩
  rw [hlb] at hL hlow ⊢
  have HL1 := Lib.hid hL
  have HS1 := Lib.hid (HS.out.then hs (by simp))
  clear hL hs HS hlb
  have HC := Lib.hid (put_came HL1.out HS1.out HA.out hlow i t hl20 (by omega) (by simp; omega))
  obtain ⟨F, hF⟩ : ∃ F, followF i t false l = F := ⟨_, rfl⟩
  by_cases q0 : ¬ F = 0
  · have hbad := put_bad i t [] i t l F hF q0
    obtain ⟨⟨x1, x2, x3⟩, hP⟩ : ∃ P, putR i t [] i t l = P := ⟨_, rfl⟩
    rw [hP] at HC hbad
    simp only at hbad
    subst hbad
    clear hP
    have p4 : (x2 == 0) = false := by simpa using q0
    go_wp2_with fail
    refine HC.out.mono ?_
    rintro e w3 ⟨rfl, a3, c3, -, hs3⟩
    have HS3 := Lib.hid hs3
    clear hs3 HC HS1
    go_wp2_with fail
    go_ret
    exact ⟨rfl, HS3.out⟩
  replace q0 : F = 0 := Decidable.not_not.1 q0
  subst q0
  have hP1 := put_past i t [] l (by simpa [lastT] using hF) (by simp; omega)
  simp only [List.length_nil, Nat.add_zero, lastT, if_pos, List.nil_append] at hP1
  rw [hP1] at HC
  have hP2 := put_again i t l hF
  obtain ⟨y1, hy1⟩ : ∃ y : Nat, (if l.length = 0 then 0 else i + 1) = y := ⟨_, rfl⟩
  rw [hy1] at HC
  have HP2 := Lib.hid hP2
  clear hP1 hP2 hF hy1
  go_wp2_with fail
  refine HC.out.mono ?_
  rintro e w3 ⟨rfl, a3, c3, hL3, hs3⟩
  have HC3 := Lib.hid (put_came hL3 hs3 HA.out hlow i t hl20 (by omega) (by simp; omega))
  rw [HP2.out] at HC3
  clear hL3 hs3 HC HL1 HS1 HP2
  go_wp2_with fail
  refine HC3.out.mono ?_
  rintro e w4 ⟨rfl, a4, c4, hL4, hs4⟩
  have HC4 := Lib.hid (last_any _ _ _ _ _ _ _ w4 hL4)
  have HL4 := Lib.hid hL4
  have HS4 := Lib.hid hs4
  clear hL4 hs4 HC3
  obtain ⟨ts, hts⟩ : ∃ ts, l.map (·.tm) = ts := ⟨_, rfl⟩
  have hlen : ts.length = l.length := by rw [← hts, List.length_map]
  rw [hts] at HC4 HL4
  clear hts
  rw [hlen] at HC4
  obtain ⟨J, hJ⟩ : ∃ J, i + l.length = J := ⟨_, rfl⟩
  obtain ⟨T, hT⟩ : ∃ T, lastT t ts = T := ⟨_, rfl⟩
  rw [hJ, hT] at HC4
  have u1 : IntKind.u64.wrap (l.length : Int) = (l.length : Int) := u64_self _ (by omega) (by omega)
  have u2 : IntKind.u64.wrap ((i : Int) + (l.length : Int)) = (J : Int) := by rw [u64_self _ (by omega) (by omega)]; omega
  go_wp2_with fail
  refine HC4.out.mono ?_
  rintro e w5 ⟨rfl, hs⟩
  have HL5 := Lib.hid (HL4.out.step0 hs)
  have HS5 := Lib.hid (HS4.out.then hs (by simp))
  clear hs HC4 HL4 HS4
  have HC6 := Lib.hid (lawFollow_any b cb r J T w5 (HB.out.step HS5.out).ents (by omega))
  obtain ⟨F2, hF2⟩ : ∃ F, followF J T false r = F := ⟨_, rfl⟩
  rw [hF2] at HC6
  go_wp2_with fail
  refine HC6.out.mono ?_
  rintro e w6 ⟨rfl, hs⟩
  have HL6 := Lib.hid (HL5.out.step0 hs)
  have HS6 := Lib.hid (HS5.out.then hs (by simp))
  clear hs HC6 HL5 HS5
  by_cases q1 : ¬ F2 = 0
  · have p4 : (F2 == 0) = false := by simpa using q1
    clear hF2
    go_wp2_with fail
    go_ret
    exact ⟨rfl, HS6.out⟩
  replace q1 : F2 = 0 := Decidable.not_not.1 q1
  subst q1
  have HC7 := Lib.hid (put_came HL6.out HS6.out HB.out hlow J T hr20 (by omega) (by omega))
  have hP := put_past i t ts r (by rw [hlen, hJ, hT]; exact hF2) (by omega)
  rw [hlen, hJ, hT] at hP
  rw [hP] at HC7
  clear hP hF2
  have u3 : IntKind.u64.wrap (r.length : Int) = (r.length : Int) := u64_self _ (by omega) (by omega)
  have u4 : IntKind.u64.wrap ((J : Int) + 1) = (J : Int) + 1 := u64_self _ (by omega) (by omega)
  have u5 : IntKind.u64.wrap ((J : Int) + (r.length : Int)) = (J : Int) + (r.length : Int) := u64_self _ (by omega) (by omega)
  obtain ⟨z1, hz1⟩ : ∃ y : Nat, (if r.length = 0 then 0 else J + 1) = y := ⟨_, rfl⟩
  rw [hz1] at HC7
  have HZ := Lib.hid hz1
  clear hz1
  go_wp2_with fail
  refine HC7.out.mono ?_
  rintro e w7 ⟨rfl, a7, c7, hL7, hs7⟩
  have HC8 := Lib.hid (last_any _ _ _ _ _ _ _ w7 hL7)
  have HS7 := Lib.hid hs7
  clear hL7 hs7 HC7 HL6 HS6
  rw [show i + (ts ++ r.map (·.tm)).length = J + r.length by simp; omega] at HC8
  obtain ⟨T8, hT8⟩ : ∃ T, lastT t (ts ++ r.map (·.tm)) = T := ⟨_, rfl⟩
  rw [hT8] at HC8
  go_wp2_with fail
  refine HC8.out.mono ?_
  rintro e w8 ⟨rfl, hs⟩
  have HS8 := Lib.hid (HS7.out.then hs (by simp))
  clear hs HC8 HS7 hT8
  have u6 : ((J + r.length : Nat) : Int) = (J : Int) + (r.length : Int) := by omega
  rw [u6]
  by_cases q2 : r.length = 0
  · have hz := HZ.out
    rw [if_pos q2] at hz
    subst hz
    rw [q2] at u3 u5 ⊢
    have p5 : ((0 : Int) == (J : Int) + 1) = false := by simp; omega
    go_wp2_with fail
    go_ret
    exact ⟨rfl, HS8.out⟩
  · have hz := HZ.out
    rw [if_neg q2] at hz
    subst hz
    have p5 : decide ((0 : Int) < (r.length : Int)) = true := by simp; omega
    go_wp2_with fail
    go_ret
    exact ⟨rfl, HS8.out⟩

theorem entryTwice_any (i t : Nat) (a b : Option Addr) (ca cb : Nat) (l r : List En) (w : World) (hl : Came w a ca l) (hr : Came w b cb r) :
    Calls Try.prog 3 #[.int .u64 (i : Int), .int .u64 (t : Int), .slice a l.length ca, .slice b r.length cb] w fun e w' => e = .returned (.bool true) ∧ Below w.heap.size w w' := by
  refine Calls.mono (R := fun e w' => e = .returned (.bool true) ∧ Step [] w w') ?_ (fun e w' h => ⟨h.1, h.2.below'⟩)
  by_cases h : 20 < l.length ∨ 20 < r.length ∨ 1099511627776 < i
  · exact twice_small i t a b ca cb l r w h
  · exact twice_main i t a b ca cb l r w hl hr (by omega) (by omega) (by omega)
end Go.Proofs.Ytjepglbolkbldaa
