/- ProgressMeets: the law's own walk. -/
import Derived.Test.YtffhldfbdchdkaaTrackD
namespace Go.Proofs.Ytffhldfbdchdkaa
set_option linter.unusedVariables false
open Go.RowKit Go.Maps

structure MeetS (f : Int → Option Mk) (at_ : Int) : Prop where
  is : (f 2).isSome = true
  mat : mat f 2 = 0
  nxt : nxt f 2 = at_ + 1

theorem MeetS.start (last : Int) (h : 0 ≤ last) : MeetS (follF (fun _ => none) [2] last) last :=
  ⟨by simp [follF], by simp [Go.Proofs.Ytffhldfbdchdkaa.mat, follF], by simp [Go.Proofs.Ytffhldfbdchdkaa.nxt, follF]⟩

theorem MeetS.down {f : Int → Option Mk} {at_ n : Int} (h : MeetS f at_) (h0 : 0 < at_) (hn : 0 ≤ n) : noDown f 2 (min (at_ - 1) n) = true ∧ MeetS (noF f 2 (min (at_ - 1) n)) (min (at_ - 1) n) := by
  have h1 : noNext f 2 (min (at_ - 1) n) = min (at_ - 1) n + 1 := by
    unfold noNext
    rw [h.mat, h.nxt]
    omega
  have h2 : noDown f 2 (min (at_ - 1) n) = true := by
    unfold noDown
    rw [h.is, h1, h.nxt]
    simp
    omega
  refine ⟨h2, ?_⟩
  unfold noF
  rw [h2, h1, h.mat]
  exact ⟨by simp [upd], by simp [Go.Proofs.Ytffhldfbdchdkaa.mat, upd], by simp [Go.Proofs.Ytffhldfbdchdkaa.nxt, upd]⟩

theorem meetS_yes {f : Int → Option Mk} {at_ : Int} (h : MeetS f at_) : Go.Proofs.Ytffhldfbdchdkaa.nxt (Go.Proofs.Ytffhldfbdchdkaa.yesF f 2 at_) 2 = at_ + 1 := by
  unfold Go.Proofs.Ytffhldfbdchdkaa.yesF
  split
  · simp [Go.Proofs.Ytffhldfbdchdkaa.nxt, upd]
    have := h.nxt
    unfold Go.Proofs.Ytffhldfbdchdkaa.nxt at this
    omega
  · exact h.nxt

set_option maxRecDepth 100000 in
set_option maxHeartbeats 4000000 in
theorem progressMeets_in (a b : Option Addr) (cap cap2 : Nat) (l r : List UInt8) (w : World) (hl : Bytes w a l) (hr : Bytes w b r) (hlen : l.length ≤ 60) (hlen2 : r.length ≤ 60) :
    Calls Try.prog 4 #[.slice a l.length cap, .slice b r.length cap2] w fun e w' => e = .returned (.bool true) ∧ Below w.heap.size w w' := by
  have HL := Lib.hid hl
  have HR := Lib.hid hr
  clear hl hr
  go_enter Try.func4, Try.ntmps4
  go_wp2_with fail
  refine (lives_any w).mono ?_
  rintro e w1 ⟨rfl, hs⟩
  have HS := Lib.hid hs
  clear hs
  go_wp2_with fail
  go_loopw [5] (fun c wr => ∃ k : Nat, k ≤ l.length ∧ c = .int .i64 k ∧ Step [] w wr) (fun c _ => l.length - (intOf c).toNat)
  case atStart => exact ⟨0, Nat.zero_le _, rfl, HS.out⟩
  case round =>
    obtain ⟨k, hk, rfl, hs⟩ := hrel
    have HS := Lib.hid hs
    clear hs
    by_cases hkl : k < l.length
    · have d1 : decide ((k : Int) < (l.length : Int)) = true := by simpa using hkl
      have i1 : (k : Int) < (l.length : Int) := by omega
      by_cases hkr : k < r.length
      · have d2 : decide ((k : Int) < (r.length : Int)) = true := by simpa using hkr
        have i2 : (k : Int) < (r.length : Int) := by omega
        obtain ⟨b1, o1, rfl, hlt1, hc1⟩ := (HL.out.step HS.out (fun _ _ _ h => by cases h)) k hkl
        obtain ⟨b2, o2, rfl, hlt2, hc2⟩ := (HR.out.step HS.out (fun _ _ _ h => by cases h)) k hkr
        generalize l.getD k 0 = x at *
        generalize r.getD k 0 = y at *
        by_cases hxy : (x.toNat : Int) = (y.toNat : Int)
        · have hb : ((x.toNat : Int) == (y.toNat : Int)) = true := by simpa using hxy
          go_wp2_with fail
          go_quiet (fail)
          go_wp2_with fail
          go_roundw
          case rel => exact ⟨k + 1, by omega, by go_num, HS.out.drewN _⟩
          case measure => simp [intOf]; omega
        · have hb : ((x.toNat : Int) == (y.toNat : Int)) = false := by simpa using hxy
          go_wp2_with fail
          go_quiet (fail)
          go_wp2_with fail
          have hcn := new_any (some ⟨wr.heap.size, 0, none⟩) 1 [2] (l.length : Int) _ (one_int (wr.drewN nq) 2 3) (by decide) (by decide) ⟨by omega, by omega⟩
          refine Calls.mono hcn ?_
          clear hcn
          rintro e w2 ⟨tb, mb, rfl, hT, hs, hb1, hb2⟩
          have hT2 := Lib.hid (((HS.out.drewN nq).alloc (.cells #[.int .i64 2] 3)).then hs (fun k hk => by cases hk))
          have hb3 : w.heap.size ≤ tb := by have := HS.out.size; simp at hb1; omega
          have hb4 : w.heap.size ≤ mb := by have := HS.out.size; simp at hb2; omega
          have HT := Lib.hid hT
          have HU := Lib.hid (MeetS.start (l.length : Int) (by omega))
          clear hT hs hb1 hb2 HS
          generalize follF (fun _ => none) [2] (l.length : Int) = f0 at *
          go_wp2_with fail
          go_loopw [7, 49] (fun _ i wr => ∃ (k : Nat) (x : Int) (f : Int → Option Mk), 0 ≤ x ∧ (k : Int) + x ≤ 60 ∧ i = .int .i64 k ∧ Trk wr tb mb (1 + k) f ∧ MeetS f x ∧ Step [] w wr) (fun _ i _ => 200 - (intOf i).toNat)
          case atStart => exact ⟨0, _, f0, by omega, by omega, rfl, HT.out, HU.out, hT2.out⟩
          case round =>
            obtain ⟨j, x, f, hx0, hx1, rfl, hTr, hMe, hs⟩ := hrel
            have HTr := Lib.hid hTr
            have HMe := Lib.hid hMe
            have HS := Lib.hid hs
            clear hTr hMe hs HT HU hT2
            have HN := Lib.hid (next_any tb mb _ _ 2 _ HTr.out (by decide))
            rw [HMe.out.nxt] at HN
            go_wp2_with fail
            refine HN.out.mono ?_
            rintro e w4 ⟨rfl, rfl⟩
            by_cases hxk : x ≤ k
            · have HY := Lib.hid (yes_any tb mb (1 + j) f 2 x _ HTr.out (by decide) ⟨hx0, by omega⟩ (by omega))
              generalize yesUp f 2 x = up at HY
              have hny := meetS_yes HMe.out
              generalize yesF f 2 x = f2 at HY hny
              go_wp2_with fail
              refine HY.out.mono ?_
              rintro e w5 ⟨rfl, hT5, hs5⟩
              have HS5 := Lib.hid (HS.out.then hs5 (fun k hk => by simp at hk; exact .inr (by omega)))
              have HN5 := Lib.hid (next_any tb mb _ _ 2 _ hT5 (by decide))
              rw [hny] at HN5
              clear hT5 hs5 HY HN hny
              by_cases hxe : x = k
              · have hbe : (x == (k : Int)) = true := by simpa using hxe
                go_wp2_with fail
                go_ret
                exact ⟨rfl, HS5.out.below'⟩
              · have hbe : (x == (k : Int)) = false := by simpa using hxe
                have hlt : decide (x < (k : Int)) = true := by simp; omega
                have hbl : (x == (l.length : Int)) = false := by simp; omega
                go_wp2_with fail
                refine HN5.out.mono ?_
                rintro e w6 ⟨rfl, rfl⟩
                go_wp2_with fail
                go_ret
                refine ⟨ret_bool ?_, HS5.out.below'⟩
                simp
                omega
            · obtain ⟨e1, hM⟩ := HMe.out.down (n := (r.length : Int)) (by omega) (by omega)
              have HD := Lib.hid (no_any tb mb (1 + j) f 2 (min (x - 1) (r.length : Int)) _ HTr.out (by decide) ⟨by omega, by omega⟩ (by rw [HMe.out.mat]; decide) (by omega))
              rw [e1] at HD
              have HM := Lib.hid hM
              clear hM e1 HMe HTr
              by_cases hmn : ¬ (r.length : Int) < x - 1
              · rw [show min (x - 1) (r.length : Int) = x - 1 by omega] at HD HM
                go_wp2_with fail
                refine HD.out.mono ?_
                rintro e w5 ⟨rfl, hT5, hs5⟩
                have HS5 := Lib.hid (HS.out.then hs5 (fun k hk => by simp at hk; exact .inr (by omega)))
                have HT5 := Lib.hid hT5
                clear hT5 hs5 HD HN
                go_wp2_with fail
                go_roundw
                case rel => exact ⟨j + 1, _, _, by omega, by omega, by go_num, by rw [← Nat.add_assoc]; exact HT5.out, HM.out, HS5.out⟩
                case measure => simp [intOf]; omega
              · rw [show min (x - 1) (r.length : Int) = r.length by omega] at HD HM
                go_wp2_with fail
                refine HD.out.mono ?_
                rintro e w5 ⟨rfl, hT5, hs5⟩
                have HS5 := Lib.hid (HS.out.then hs5 (fun k hk => by simp at hk; exact .inr (by omega)))
                have HT5 := Lib.hid hT5
                clear hT5 hs5 HD HN
                go_wp2_with fail
                go_roundw
                case rel => exact ⟨j + 1, _, _, by omega, by omega, by go_num, by rw [← Nat.add_assoc]; exact HT5.out, HM.out, HS5.out⟩
                case measure => simp [intOf]; omega
      · have d2 : decide ((k : Int) < (r.length : Int)) = false := by simpa using hkr
        go_wp2_with fail
        go_quiet (fail)
        go_wp2_with fail
        have hcn := new_any (some ⟨wr.heap.size, 0, none⟩) 1 [2] (l.length : Int) _ (one_int (wr.drewN nq) 2 3) (by decide) (by decide) ⟨by omega, by omega⟩
        refine Calls.mono hcn ?_
        clear hcn
        rintro e w2 ⟨tb, mb, rfl, hT, hs, hb1, hb2⟩
        have hT2 := Lib.hid (((HS.out.drewN nq).alloc (.cells #[.int .i64 2] 3)).then hs (fun k hk => by cases hk))
        have hb3 : w.heap.size ≤ tb := by have := HS.out.size; simp at hb1; omega
        have hb4 : w.heap.size ≤ mb := by have := HS.out.size; simp at hb2; omega
        have HT := Lib.hid hT
        have HU := Lib.hid (MeetS.start (l.length : Int) (by omega))
        clear hT hs hb1 hb2 HS
        generalize follF (fun _ => none) [2] (l.length : Int) = f0 at *
        go_wp2_with fail
        go_loopw [7, 49] (fun _ i wr => ∃ (k : Nat) (x : Int) (f : Int → Option Mk), 0 ≤ x ∧ (k : Int) + x ≤ 60 ∧ i = .int .i64 k ∧ Trk wr tb mb (1 + k) f ∧ MeetS f x ∧ Step [] w wr) (fun _ i _ => 200 - (intOf i).toNat)
        case atStart => exact ⟨0, _, f0, by omega, by omega, rfl, HT.out, HU.out, hT2.out⟩
        case round =>
          obtain ⟨j, x, f, hx0, hx1, rfl, hTr, hMe, hs⟩ := hrel
          have HTr := Lib.hid hTr
          have HMe := Lib.hid hMe
          have HS := Lib.hid hs
          clear hTr hMe hs HT HU hT2
          have HN := Lib.hid (next_any tb mb _ _ 2 _ HTr.out (by decide))
          rw [HMe.out.nxt] at HN
          go_wp2_with fail
          refine HN.out.mono ?_
          rintro e w4 ⟨rfl, rfl⟩
          by_cases hxk : x ≤ k
          · have HY := Lib.hid (yes_any tb mb (1 + j) f 2 x _ HTr.out (by decide) ⟨hx0, by omega⟩ (by omega))
            generalize yesUp f 2 x = up at HY
            have hny := meetS_yes HMe.out
            generalize yesF f 2 x = f2 at HY hny
            go_wp2_with fail
            refine HY.out.mono ?_
            rintro e w5 ⟨rfl, hT5, hs5⟩
            have HS5 := Lib.hid (HS.out.then hs5 (fun k hk => by simp at hk; exact .inr (by omega)))
            have HN5 := Lib.hid (next_any tb mb _ _ 2 _ hT5 (by decide))
            rw [hny] at HN5
            clear hT5 hs5 HY HN hny
            by_cases hxe : x = k
            · have hbe : (x == (k : Int)) = true := by simpa using hxe
              go_wp2_with fail
              go_ret
              exact ⟨rfl, HS5.out.below'⟩
            · have hbe : (x == (k : Int)) = false := by simpa using hxe
              have hlt : decide (x < (k : Int)) = true := by simp; omega
              have hbl : (x == (l.length : Int)) = false := by simp; omega
              go_wp2_with fail
              refine HN5.out.mono ?_
              rintro e w6 ⟨rfl, rfl⟩
              go_wp2_with fail
              go_ret
              refine ⟨ret_bool ?_, HS5.out.below'⟩
              simp
              omega
          · obtain ⟨e1, hM⟩ := HMe.out.down (n := (r.length : Int)) (by omega) (by omega)
            have HD := Lib.hid (no_any tb mb (1 + j) f 2 (min (x - 1) (r.length : Int)) _ HTr.out (by decide) ⟨by omega, by omega⟩ (by rw [HMe.out.mat]; decide) (by omega))
            rw [e1] at HD
            have HM := Lib.hid hM
            clear hM e1 HMe HTr
            by_cases hmn : ¬ (r.length : Int) < x - 1
            · rw [show min (x - 1) (r.length : Int) = x - 1 by omega] at HD HM
              go_wp2_with fail
              refine HD.out.mono ?_
              rintro e w5 ⟨rfl, hT5, hs5⟩
              have HS5 := Lib.hid (HS.out.then hs5 (fun k hk => by simp at hk; exact .inr (by omega)))
              have HT5 := Lib.hid hT5
              clear hT5 hs5 HD HN
              go_wp2_with fail
              go_roundw
              case rel => exact ⟨j + 1, _, _, by omega, by omega, by go_num, by rw [← Nat.add_assoc]; exact HT5.out, HM.out, HS5.out⟩
              case measure => simp [intOf]; omega
            · rw [show min (x - 1) (r.length : Int) = r.length by omega] at HD HM
              go_wp2_with fail
              refine HD.out.mono ?_
              rintro e w5 ⟨rfl, hT5, hs5⟩
              have HS5 := Lib.hid (HS.out.then hs5 (fun k hk => by simp at hk; exact .inr (by omega)))
              have HT5 := Lib.hid hT5
              clear hT5 hs5 HD HN
              go_wp2_with fail
              go_roundw
              case rel => exact ⟨j + 1, _, _, by omega, by omega, by go_num, by rw [← Nat.add_assoc]; exact HT5.out, HM.out, HS5.out⟩
              case measure => simp [intOf]; omega
    · have d1 : decide ((k : Int) < (l.length : Int)) = false := by simpa using hkl
      go_wp2_with fail
      go_quiet (fail)
      go_wp2_with fail
      have hcn := new_any (some ⟨wr.heap.size, 0, none⟩) 1 [2] (l.length : Int) _ (one_int (wr.drewN nq) 2 3) (by decide) (by decide) ⟨by omega, by omega⟩
      refine Calls.mono hcn ?_
      clear hcn
      rintro e w2 ⟨tb, mb, rfl, hT, hs, hb1, hb2⟩
      have hT2 := Lib.hid (((HS.out.drewN nq).alloc (.cells #[.int .i64 2] 3)).then hs (fun k hk => by cases hk))
      have hb3 : w.heap.size ≤ tb := by have := HS.out.size; simp at hb1; omega
      have hb4 : w.heap.size ≤ mb := by have := HS.out.size; simp at hb2; omega
      have HT := Lib.hid hT
      have HU := Lib.hid (MeetS.start (l.length : Int) (by omega))
      clear hT hs hb1 hb2 HS
      generalize follF (fun _ => none) [2] (l.length : Int) = f0 at *
      go_wp2_with fail
      go_loopw [7, 49] (fun _ i wr => ∃ (k : Nat) (x : Int) (f : Int → Option Mk), 0 ≤ x ∧ (k : Int) + x ≤ 60 ∧ i = .int .i64 k ∧ Trk wr tb mb (1 + k) f ∧ MeetS f x ∧ Step [] w wr) (fun _ i _ => 200 - (intOf i).toNat)
      case atStart => exact ⟨0, _, f0, by omega, by omega, rfl, HT.out, HU.out, hT2.out⟩
      case round =>
        obtain ⟨j, x, f, hx0, hx1, rfl, hTr, hMe, hs⟩ := hrel
        have HTr := Lib.hid hTr
        have HMe := Lib.hid hMe
        have HS := Lib.hid hs
        clear hTr hMe hs HT HU hT2
        have HN := Lib.hid (next_any tb mb _ _ 2 _ HTr.out (by decide))
        rw [HMe.out.nxt] at HN
        go_wp2_with fail
        refine HN.out.mono ?_
        rintro e w4 ⟨rfl, rfl⟩
        by_cases hxk : x ≤ k
        · have HY := Lib.hid (yes_any tb mb (1 + j) f 2 x _ HTr.out (by decide) ⟨hx0, by omega⟩ (by omega))
          generalize yesUp f 2 x = up at HY
          have hny := meetS_yes HMe.out
          generalize yesF f 2 x = f2 at HY hny
          go_wp2_with fail
          refine HY.out.mono ?_
          rintro e w5 ⟨rfl, hT5, hs5⟩
          have HS5 := Lib.hid (HS.out.then hs5 (fun k hk => by simp at hk; exact .inr (by omega)))
          have HN5 := Lib.hid (next_any tb mb _ _ 2 _ hT5 (by decide))
          rw [hny] at HN5
          clear hT5 hs5 HY HN hny
          by_cases hxe : x = k
          · have hbe : (x == (k : Int)) = true := by simpa using hxe
            go_wp2_with fail
            go_ret
            exact ⟨rfl, HS5.out.below'⟩
          · have hbe : (x == (k : Int)) = false := by simpa using hxe
            have hlt : decide (x < (k : Int)) = true := by simp; omega
            have hbl : (x == (l.length : Int)) = false := by simp; omega
            go_wp2_with fail
            refine HN5.out.mono ?_
            rintro e w6 ⟨rfl, rfl⟩
            go_wp2_with fail
            go_ret
            refine ⟨ret_bool ?_, HS5.out.below'⟩
            simp
            omega
        · obtain ⟨e1, hM⟩ := HMe.out.down (n := (r.length : Int)) (by omega) (by omega)
          have HD := Lib.hid (no_any tb mb (1 + j) f 2 (min (x - 1) (r.length : Int)) _ HTr.out (by decide) ⟨by omega, by omega⟩ (by rw [HMe.out.mat]; decide) (by omega))
          rw [e1] at HD
          have HM := Lib.hid hM
          clear hM e1 HMe HTr
          by_cases hmn : ¬ (r.length : Int) < x - 1
          · rw [show min (x - 1) (r.length : Int) = x - 1 by omega] at HD HM
            go_wp2_with fail
            refine HD.out.mono ?_
            rintro e w5 ⟨rfl, hT5, hs5⟩
            have HS5 := Lib.hid (HS.out.then hs5 (fun k hk => by simp at hk; exact .inr (by omega)))
            have HT5 := Lib.hid hT5
            clear hT5 hs5 HD HN
            go_wp2_with fail
            go_roundw
            case rel => exact ⟨j + 1, _, _, by omega, by omega, by go_num, by rw [← Nat.add_assoc]; exact HT5.out, HM.out, HS5.out⟩
            case measure => simp [intOf]; omega
          · rw [show min (x - 1) (r.length : Int) = r.length by omega] at HD HM
            go_wp2_with fail
            refine HD.out.mono ?_
            rintro e w5 ⟨rfl, hT5, hs5⟩
            have HS5 := Lib.hid (HS.out.then hs5 (fun k hk => by simp at hk; exact .inr (by omega)))
            have HT5 := Lib.hid hT5
            clear hT5 hs5 HD HN
            go_wp2_with fail
            go_roundw
            case rel => exact ⟨j + 1, _, _, by omega, by omega, by go_num, by rw [← Nat.add_assoc]; exact HT5.out, HM.out, HS5.out⟩
            case measure => simp [intOf]; omega

set_option maxHeartbeats 1000000 in
theorem progressMeets_any (a b : Option Addr) (cap cap2 : Nat) (l r : List UInt8) (w : World) (hl : Bytes w a l) (hr : Bytes w b r) :
    Calls Try.prog 4 #[.slice a l.length cap, .slice b r.length cap2] w fun e w' => e = .returned (.bool true) ∧ Below w.heap.size w w' := by
  by_cases hlen : l.length ≤ 60
  · by_cases h1 : r.length ≤ 60
    · exact progressMeets_in a b cap cap2 l r w hl hr hlen h1
    · clear hl hr
      go_enter Try.func4, Try.ntmps4
      go_wp2_with fail
      refine (lives_any w).mono ?_
      rintro e w1 ⟨rfl, hs⟩
      have HS := Lib.hid hs
      clear hs
      go_wp2_with fail
      refine (lives_any w1).mono ?_
      rintro e w2 ⟨rfl, hs⟩
      have HT := Lib.hid (HS.out.then hs (fun k hk => by cases hk))
      clear hs HS
      go_wp2_with fail
      go_ret
      exact ⟨rfl, HT.out.below'⟩
  · clear hl hr
    go_enter Try.func4, Try.ntmps4
    go_wp2_with fail
    refine (lives_any w).mono ?_
    rintro e w1 ⟨rfl, hs⟩
    have HS := Lib.hid hs
    clear hs
    go_wp2_with fail
    refine (lives_any w1).mono ?_
    rintro e w2 ⟨rfl, hs⟩
    have HT := Lib.hid (HS.out.then hs (fun k hk => by cases hk))
    clear hs HS
    go_wp2_with fail
    go_ret
    exact ⟨rfl, HT.out.below'⟩
end Go.Proofs.Ytffhldfbdchdkaa
