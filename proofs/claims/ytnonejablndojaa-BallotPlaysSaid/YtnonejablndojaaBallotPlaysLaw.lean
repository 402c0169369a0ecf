/- BallotPlays: the law's own walk. -/
import Derived.Test.YtnonejablndojaaBallotP
namespace Go.Proofs.Ytnonejablndojaa
set_option linter.unusedVariables false
open Go.RowKit Go.Maps

/-- who was heard -/
def heard (f : Int → Option Bool) : Int → Option Bool := fun x => if (f x).isSome then some true else none
theorem heard_upd (f : Int → Option Bool) (x : Int) (y : Bool) : upd (heard f) x (some true) = heard (upd f x (some y)) := by
  funext z
  unfold upd heard
  by_cases h : z = x
  · simp [h]
  · simp [h]

theorem mem_take_succ (l : List Int) (k : Nat) (hk : k < l.length) (n : Int) : n ∈ l.take (k + 1) ↔ n ∈ l.take k ∨ n = l.getD k 0 := by
  rw [List.take_succ_eq_append_getElem hk, List.mem_append]
  simp [List.getD, hk]

/-- the world of the law, between two votes -/
structure PlayS (w0 w : World) (bb mb sb n : Nat) (a2 : Option Addr) (cap2 : Nat) (l : List Int) (f : Int → Option Bool) : Prop where
  bal : Bal w bb mb n a2 cap2 l f
  said : MapF keyI boolEl w sb n (heard f)
  sup : SupK l f
  step : Step [] w0 w

theorem voteUp_eq (l : List Int) (f : Int → Option Bool) (x : Int) : voteUp l f x = (decide (x ∈ l) && goodM l && !(f x).isSome) := by
  unfold voteUp
  cases f x <;> cases goodM l <;> simp

theorem PlayS.look {w0 w : World} {bb mb sb n : Nat} {a2 : Option Addr} {cap2 : Nat} {l : List Int} {f : Int → Option Bool} (h : PlayS w0 w bb mb sb n a2 cap2 l f) (x : Int) (hx : IsI x) :
    (Instr.lookup 28 (.map (some sb)) (.int .i64 x) false).run Try.prog w = .ok (.bool (f x).isSome) w := by
  have h1 := h.said.run Try.underlying28 false (zeroB w) x hx.good
  have h2 : (heard f x).getD false = (f x).isSome := by
    unfold heard
    cases f x <;> rfl
  rw [h2] at h1
  exact h1

set_option maxRecDepth 100000 in
set_option maxHeartbeats 8000000 in
theorem ballotPlays_in (a b : Option Addr) (cap capv : Nat) (l : List Int) (vs : List (Int × Bool)) (w : World) (hl : Ints w a l) (hn : a = none → l.length = 0 ∧ cap = 0) (hv : Votes w b vs) (hvi : ∀ v ∈ vs, IsI v.1) (hlen : l.length ≤ 20) (hlenv : vs.length ≤ 60) :
    Calls Try.prog 3 #[.slice a l.length cap, .slice b vs.length capv] w fun e w' => e = .returned (.bool true) ∧ Below w.heap.size w w' := by
  obtain ⟨i0, hi, hz0, hz1, hz2⟩ := info_parts Try.infoI
  have hmm := @run_makeMap Try.prog
  have HL := Lib.hid hl
  have HV := Lib.hid hv
  have HN := Lib.hid hn
  have HVI := Lib.hid hvi
  clear hl hn hv hvi
  go_enter Try.func3, Try.ntmps3
  go_wp2_with fail
  refine (lives_any w).mono ?_
  rintro e w1 ⟨rfl, hs⟩
  have HS := Lib.hid hs
  clear hs
  go_wp2_with (at_builtin; refine wpList_append_own_any rfl (.tmp 37) (.tmp 38) 22 rfl w1.heap.size 3 i0 (.int .i64 0) 1 8 Try.underlying22 hi hz0 hz1 hz2 rfl (by decide) _ 0 [] rfl (World.ownsRow_made _ _ 0 (Nat.le_refl _) (Nat.zero_le _) rfl) a l.length cap (l.map iVal) rfl HN.out (by simp) (((HL.out.step HS.out (by simp)).step ((Step.refl [] w1).alloc _) (by simp)).news) (iVals_cell _) (by unfold maxLen; omega) (by omega) (by simp) ?_)
  intro v2 w2 hown2 hg2
  have hs2 : Step [] w w2 := (HS.out.alloc _).grown hg2 (fun k hk => by cases hk; exact .inr (by have := HS.out.size; simp; omega))
  obtain ⟨a3, cap3, rfl, -, -, -, hI3, hn3, hbl3⟩ := owns_ints (l := l) (by simpa using hown2)
  have HO := Lib.hid (show w2.ownsRow w1.heap.size 3 1 (.slice a3 l.length cap3) l.length (l.map iVal) by simpa using hown2)
  have HI := Lib.hid hI3
  have HS2 := Lib.hid hs2
  have hb1 := HS.out.size
  have HBL := Lib.hid hbl3
  clear hown2 hg2 hs2 hI3 HS hbl3
  go_wp2_with fail
  refine (bnew_any a3 cap3 l w2 hn3 HI.out (by omega)).mono ?_
  rintro e w3 ⟨bb, mb, a2, cap2, rfl, hB, hs, h1, h2, h3⟩
  have HB := Lib.hid hB
  have HO3 := Lib.hid (owns_step HO.out hs (fun _ _ => by simp))
  have HS3 := Lib.hid (HS2.out.then hs (fun _ h => by cases h))
  have hsz2 := HS2.out.size
  have hb3 : w.heap.size ≤ mb := by omega
  have F1 := Lib.hid (fun (g : Nat) (e : a3 = some ⟨g, 0, none⟩) => (show w.heap.size ≤ g ∧ bb ≠ g ∧ mb ≠ g ∧ ∀ b off, a2 = some ⟨b, off, none⟩ → 0 < l.length → b ≠ g from by
    have h := HBL.out g 0 none e
    refine ⟨by omega, by omega, by omega, fun b off e2 _ => ?_⟩
    have := h3 b off e2
    omega))
  clear hB hs HI HO HS2 h1 h2 h3 HBL hn3
  go_wp2_with fail
  go_loopw [7, 44] (fun _ i wr => ∃ (k : Nat) (xs : List Value), k ≤ l.length ∧ i = .int .i64 k ∧ wr.ownsRow w1.heap.size 3 1 (.slice a3 l.length cap3) l.length xs ∧ Bal wr bb mb 0 a2 cap2 l (fun _ => none) ∧ Step [] w wr) (fun _ i _ => l.length - (intOf i).toNat)
  case atStart => exact ⟨0, _, Nat.zero_le _, rfl, HO3.out, HB.out, HS3.out⟩
  case round =>
    obtain ⟨k, xs, hk, rfl, hO, hB, hs⟩ := hrel
    have HO4 := Lib.hid hO
    have HB4 := Lib.hid hB
    have HS4 := Lib.hid hs
    clear hO hB hs HO3 HB HS3
    by_cases hkl : k < l.length
    · obtain ⟨g, cg, hvg, hgb, hglt, hgc, hgm⟩ := owns_form HO4.out (by omega)
      cases hvg
      obtain ⟨q1, q2, q3, q4⟩ := F1.out g rfl
      have hxl : xs.length = l.length := by simpa using HO4.out.1
      have hc := HO4.out.cellAt k (by omega)
      rw [List.getElem?_eq_getElem (by omega)] at hc
      have hf := HO4.out.frozenAt k
      generalize xs[k] = u at hc
      have hm : (k : Int) < (l.length : Int) := by omega
      go_wp2_with fail
      have hst := (HO4.out.stored k (.int .i64 0)).1
      have hsg : Step [g] wr (wr.setCell ⟨g, k, none⟩ (.int .i64 0)) := (Step.refl [g] wr).setCell (.inl (by simp)) k _
      have HO5 := Lib.hid hst
      have HB5 := Lib.hid (HB4.out.step hsg (by simpa using q2) (by simpa using q3) (fun b off e h0 => by simpa using q4 b off e h0))
      have HS5 := Lib.hid (HS4.out.then hsg (fun k hk => by simp at hk; exact .inr (by omega)))
      clear hst hsg HO4 HB4 HS4
      go_roundw
      case rel => exact ⟨k + 1, _, by omega, by go_num, HO5.out, HB5.out, HS5.out⟩
      case measure => simp [intOf]; omega
    · have hke : k = l.length := by omega
      subst hke
      clear HO4 F1
      go_wp2_with fail
      refine (refright_any a cap l _ (HL.out.step HS4.out (by simp)) (by omega)).mono ?_
      rintro e w4 ⟨rfl, rfl⟩
      obtain ⟨G, hgm⟩ : ∃ G, goodM l = G := ⟨_, rfl⟩
      rw [hgm]
      have HGM := Lib.hid hgm
      clear hgm
      go_wp2_with fail
      have hM := MapF.made keyI boolEl wr
      have hBm := HB4.out.step0 ((Step.refl [] wr).alloc (.map #[] 0))
      have hSm := HS4.out.alloc (.map #[] 0)
      have hsb : w.heap.size ≤ wr.heap.size := HS4.out.size
      have n1 : wr.heap.size ≠ mb := by have := HB4.out.map.lt; omega
      have n2 : wr.heap.size ≠ bb := by have := HB4.out.blk.lt; omega
      have n3 : ∀ b off, a2 = some ⟨b, off, none⟩ → 0 < l.length → b ≠ wr.heap.size := fun b off e h0 => by
        obtain ⟨b', off', e', hlt', _⟩ := HB4.out.row 0 h0
        rw [e] at e'
        cases e'
        omega
      have N3 := Lib.hid n3
      have HP := Lib.hid (⟨hBm, hM, fun x h => by simp at h, hSm⟩ : PlayS w _ bb mb wr.heap.size 0 a2 cap2 l (fun _ => none))
      clear hM hBm hSm HB4 HS4 n3
      generalize wr.heap.size = sb at *
      generalize wr.alloc (.map #[] 0) = w5 at *
      go_loopw [10, 11, 12, 14, 15, 17, 18, 19, 20, 56] (fun y z s _ _ _ _ _ _ i wr => ∃ (k : Nat) (f : Int → Option Bool) (was : Int), k ≤ vs.length ∧ i = .int .i64 k ∧ y = .int .i64 (cnt f (ksOf l) true) ∧ z = .int .i64 (cnt f (ksOf l) false) ∧ s = .int .i64 was ∧ (was = 0 ∨ was = stateV l (cnt f (ksOf l) true) (cnt f (ksOf l) false)) ∧ PlayS w wr bb mb sb k a2 cap2 l f) (fun _ _ _ _ _ _ _ _ _ i _ => vs.length - (intOf i).toNat)
      case atStart =>
        have hz : ∀ (b : Bool) (ks : List Int), cnt (fun _ => none) ks b = 0 := fun b ks => by
          induction ks with
          | nil => rfl
          | cons k ks ih => simp [cnt, ih]
        exact ⟨0, _, 0, Nat.zero_le _, rfl, by rw [hz]; rfl, by rw [hz]; rfl, rfl, .inl rfl, HP.out⟩
      case round =>
        obtain ⟨k, f, was, hk, rfl, rfl, rfl, rfl, hwas, hP⟩ := hrel
        have HP2 := Lib.hid hP
        have HWAS := Lib.hid hwas
        clear hP hwas HP
        by_cases hkv : k < vs.length
        · obtain ⟨b2, off, rfl, hlt, hc0, hc1⟩ := HV.out.step HP2.out.step k hkv
          have hkm : (k : Int) < (vs.length : Int) := by omega
          have hxi : IsI (vs.getD k (0, false)).1 := HVI.out _ (by rw [List.getD, List.getElem?_eq_getElem hkv]; exact List.getElem_mem hkv)
          generalize (vs.getD k (0, false)).1 = x at *
          generalize (vs.getD k (0, false)).2 = y at *
          go_wp2_with fail
          have hs5 : Step [] wr (wr.alloc (.cells #[.int .i64 x, .bool y] 30)) := (Step.refl [] wr).alloc _
          have hvb := Blk.new wr #[.int .i64 x, .bool y] 30
          have hP5 : PlayS w (wr.alloc (.cells #[.int .i64 x, .bool y] 30)) bb mb sb k a2 cap2 l f := ⟨HP2.out.bal.step0 hs5, HP2.out.said.step hs5 (by simp), HP2.out.sup, HP2.out.step.then hs5 (fun _ h => by cases h)⟩
          have HP5 := Lib.hid hP5
          have HVB := Lib.hid hvb
          have hsz5 := HP2.out.step.size
          have hvne1 : wr.heap.size ≠ mb := by have := HP2.out.bal.map.lt; omega
          have hvne2 : wr.heap.size ≠ sb := by have := HP2.out.said.lt; omega
          have hv0 := hvb.cell 0
          have hv1 := hvb.cell 1
          simp only [List.getElem?_toArray, List.getElem?_cons_zero, List.getElem?_cons_succ] at hv0 hv1
          clear hs5 hvb hP5 HP2 hc0 hc1
          generalize wr.heap.size = vb at *
          generalize wr.alloc (.cells #[.int .i64 x, .bool y] 30) = w6 at *
          go_loop [15, 17, 62] (fun c _ i => ∃ j : Nat, j ≤ l.length ∧ i = .int .i64 j ∧ c = .bool (decide (x ∈ l.take j))) (fun _ _ i => l.length - (intOf i).toNat)
          case atStart => exact ⟨0, Nat.zero_le _, rfl, by simp⟩
          case round =>
            obtain ⟨j, hj, rfl, rfl⟩ := hrel
            by_cases hjl : j < l.length
            · obtain ⟨b3, off3, rfl, hlt3, hc3⟩ := HL.out.step HP5.out.step (by simp) j hjl
              have hjm : (j : Int) < (l.length : Int) := by omega
              have hmt := Lib.hid (mem_take_succ l j hjl x)
              generalize l.getD j 0 = q at *
              by_cases ht : x ∈ l.take j
              · have hd : decide (x ∈ l.take j) = true := by simpa using ht
                go_wp2_with fail
                go_round
                case rel => exact ⟨j + 1, by omega, by go_num, by rw [show decide (x ∈ l.take (j + 1)) = true from by simpa using hmt.out.2 (.inl ht)]⟩
                case measure => simp [intOf]; omega
              · have hd : decide (x ∈ l.take j) = false := by simpa using ht
                by_cases hxq : x = q
                · have hb : (q == x) = true := by simp [hxq]
                  have HXQ := Lib.hid hxq
                  clear hxq
                  go_wp2_with fail
                  go_round
                  case rel => exact ⟨j + 1, by omega, by go_num, by rw [show decide (x ∈ l.take (j + 1)) = true from by simpa using hmt.out.2 (.inr HXQ.out)]⟩
                  case measure => simp [intOf]; omega
                · have hb : (q == x) = false := by simp; exact fun e => hxq e.symm
                  go_wp2_with fail
                  go_round
                  case rel => exact ⟨j + 1, by omega, by go_num, by rw [show decide (x ∈ l.take (j + 1)) = false from by simpa using fun h => (hmt.out.1 h).elim ht hxq]⟩
                  case measure => simp [intOf]; omega
            · have hje : j = l.length := by omega
              subst hje
              rw [List.take_length]
              have hlk := HP5.out.look x hxi
              have HVE := Lib.hid (voteUp_eq l f x)
              go_upto_region 23 with fail
              go_cut [15] (fun c wx => c = .bool (voteUp l f x) ∧ wx = w6)
              case first =>
                by_cases hxl : x ∈ l
                · have hd : decide (x ∈ l) = true := by simpa using hxl
                  cases G with
                  | false =>
                    go_wp2_with fail
                    go_meet
                    exact ⟨congrArg Value.bool (by rw [HVE.out, hd, HGM.out]; rfl), rfl⟩
                  | true =>
                    cases hf : (f x).isSome with
                    | false =>
                      rw [hf] at hlk
                      go_wp2_with fail
                      go_meet
                      exact ⟨congrArg Value.bool (by rw [HVE.out, hd, HGM.out, hf]; rfl), rfl⟩
                    | true =>
                      rw [hf] at hlk
                      go_wp2_with fail
                      go_meet
                      exact ⟨congrArg Value.bool (by rw [HVE.out, hd, HGM.out, hf]; rfl), rfl⟩
                · have hd : decide (x ∈ l) = false := by simpa using hxl
                  go_wp2_with fail
                  go_meet
                  exact ⟨congrArg Value.bool (by rw [HVE.out, hd]; rfl), rfl⟩
              case rest =>
                obtain ⟨rfl, hw6⟩ := hcut
                rw [hw6]
                clear hlk HVE hw6
                have HQ := Lib.hid (vote_any x y w6 HP5.out.bal (by omega) hxi (by omega))
                obtain ⟨U, hU⟩ : ∃ U, voteUp l f x = U := ⟨_, rfl⟩
                rw [hU] at HQ ⊢
                have HU := Lib.hid hU
                clear hU
                go_wp2_with fail
                refine HQ.out.mono ?_
                rintro e w7 ⟨rfl, hB7, hs7⟩
                have HB7 := Lib.hid hB7
                have HM7 := Lib.hid (HP5.out.said.step hs7 (by simpa using n1))
                have HSUP := Lib.hid HP5.out.sup
                have hvb7 := HVB.out.step hs7 (by simpa using hvne1)
                have HVB7 := Lib.hid hvb7
                have hv0 := hvb7.cell 0
                have hv1 := hvb7.cell 1
                simp only [List.getElem?_toArray, List.getElem?_cons_zero, List.getElem?_cons_succ] at hv0 hv1
                have HS7 := Lib.hid (HP5.out.step.then hs7 (fun k hk => by simp at hk; exact .inr (by omega)))
                have hc1 := cnt_le f true (ksOf l)
                have hc2 := cnt_le f false (ksOf l)
                have hcl := ksOf_le l
                clear hB7 hs7 hvb7 HQ HVB HP5
                go_upto_if 93 with fail
                go_cut [10, 11] (fun yy zz wx => ∃ f', yy = .int .i64 (cnt f' (ksOf l) true) ∧ zz = .int .i64 (cnt f' (ksOf l) false) ∧ PlayS w wx bb mb sb (k + 1) a2 cap2 l f' ∧ cnt f (ksOf l) true ≤ cnt f' (ksOf l) true ∧ cnt f (ksOf l) false ≤ cnt f' (ksOf l) false)
                case first =>
                  cases U with
                  | false =>
                    have HE := Lib.hid (show voteF l f x y = f from by unfold voteF; rw [HU.out]; rfl)
                    rw [HE.out] at HB7
                    clear HE
                    go_wp2_with fail
                    go_meet
                    exact ⟨f, rfl, rfl, ⟨HB7.out, HM7.out.mono (by omega), HSUP.out, HS7.out⟩, Nat.le_refl _, Nat.le_refl _⟩
                  | true =>
                    obtain ⟨hxk, hfx⟩ := mem_ksOf HU.out
                    have HE := Lib.hid (show voteF l f x y = upd f x (some y) from by unfold voteF; rw [HU.out]; rfl)
                    rw [HE.out] at HB7
                    have HT := Lib.hid (cnt_upd f x y true hfx (ksOf l) (ksOf_nodup l) hxk)
                    have HF := Lib.hid (cnt_upd f x y false hfx (ksOf l) (ksOf_nodup l) hxk)
                    have HSU := Lib.hid (HSUP.out.upd hxk y)
                    have HXK := Lib.hid hxk
                    clear HE hxk hfx
                    generalize hyt : cnt f (ksOf l) true = ct at *
                    generalize hyf : cnt f (ksOf l) false = cf at *
                    cases y with
                    | true =>
                      go_wp2_with (at_mapUpdate; refine wpList_store keyI boolEl rfl _ _ _ 28 4 rfl Try.underlying28 rfl HM7.out (by unfold maxLen; omega) x rfl hxi.good true rfl ?_; intro w8 hm8 hs8; have hv1' : w8.cell? ⟨vb, 1, none⟩ = some (.bool true) := by rw [hs8.cell HVB7.out.lt (by simpa using hvne2)]; exact hv1)
                      go_meet
                      rw [heard_upd f x true] at hm8
                      exact ⟨_, by rw [HT.out]; simp, by rw [HF.out]; simp, ⟨HB7.out.step hs8 (by simpa using fun e => n2 e.symm) (by simpa using fun e => n1 e.symm) (fun b off e h0 => by simpa using N3.out b off e h0), hm8, HSU.out, HS7.out.then hs8 (fun k hk => by simp at hk; exact .inr (by omega))⟩, by rw [HT.out]; omega, by rw [HF.out]; omega⟩
                    | false =>
                      go_wp2_with (at_mapUpdate; refine wpList_store keyI boolEl rfl _ _ _ 28 4 rfl Try.underlying28 rfl HM7.out (by unfold maxLen; omega) x rfl hxi.good true rfl ?_; intro w8 hm8 hs8; have hv1' : w8.cell? ⟨vb, 1, none⟩ = some (.bool false) := by rw [hs8.cell HVB7.out.lt (by simpa using hvne2)]; exact hv1)
                      go_meet
                      rw [heard_upd f x false] at hm8
                      exact ⟨_, by rw [HT.out]; simp, by rw [HF.out]; simp, ⟨HB7.out.step hs8 (by simpa using fun e => n2 e.symm) (by simpa using fun e => n1 e.symm) (fun b off e h0 => by simpa using N3.out b off e h0), hm8, HSU.out, HS7.out.then hs8 (fun k hk => by simp at hk; exact .inr (by omega))⟩, by rw [HT.out]; omega, by rw [HF.out]; omega⟩
                case rest =>
                  obtain ⟨f', rfl, rfl, hP8, hle1, hle2⟩ := hcut
                  have HP8 := Lib.hid hP8
                  have hb8 := cnt_both f' (ksOf l)
                  have HW := Lib.hid (fun h : stateV l (cnt f (ksOf l) true) (cnt f (ksOf l) false) ≠ 0 => stateV_stays hle1 hle2 (Nat.le_trans hb8 hcl) h)
                  have HCO := Lib.hid (fun w9 (h : Step [] wc w9) => count_any (ksOf l) w9 (hP8.bal.step0 h) (ksOf_nodup l) (fun z _ hz => hP8.sup z hz) (ksOf_isI l) (by omega))
                  have HST := Lib.hid (fun w9 (h : Step [] wc w9) => state_any (ksOf l) w9 (hP8.bal.step0 h) (by omega) (ksOf_nodup l) (fun z _ hz => hP8.sup z hz) (ksOf_isI l) (by omega))
                  have HY := Lib.hid (rfl : cnt f' (ksOf l) true = cnt f' (ksOf l) true)
                  clear hP8 HB7 HM7 HSUP HS7 hv0 hv1 HVB7 hc1 hc2
                  generalize stateV l (cnt f (ksOf l) true) (cnt f (ksOf l) false) = V0 at *
                  generalize hct : cnt f' (ksOf l) true = ct at *
                  generalize hcf : cnt f' (ksOf l) false = cf at *
                  clear hle1 hle2
                  have hb9 : ct + cf ≤ l.length := by omega
                  have HWV : was = 0 ∨ was = stateV l ct cf := by
                    rcases HWAS.out with h | h
                    · exact .inl h
                    · by_cases h0 : V0 = 0
                      · exact .inl (h.trans h0)
                      · exact .inr (h.trans (HW.out h0).symm)
                  clear HWAS HW HY
                  cases G with
                  | false =>
                    have hV : stateV l ct cf = 2 := stateV_bad HGM.out
                    rw [hV] at HST HWV
                    rcases HWV with rfl | rfl
                    all_goals
                      go_wp2_with fail
                      refine (HCO.out wc (Step.refl _ _)).mono ?_
                      rintro e w9 ⟨rfl, hs9⟩
                      have HS9 := Lib.hid hs9
                      clear hs9
                      go_wp2_with fail
                      refine (HST.out w9 HS9.out).mono ?_
                      rintro e w10 ⟨rfl, hs10⟩
                      have HS10 := Lib.hid (HS9.out.then hs10 (fun _ h => by cases h))
                      have HP10 := Lib.hid (⟨HP8.out.bal.step0 HS10.out, HP8.out.said.step HS10.out (by simp), HP8.out.sup, HP8.out.step.then HS10.out (fun _ h => by cases h)⟩ : PlayS w w10 bb mb sb (k + 1) a2 cap2 l f')
                      clear hs10 HS9 HS10 HCO HST HP8
                      go_wp2_with fail
                      go_roundw
                      case rel => exact ⟨k + 1, f', 2, by omega, by go_num, by rw [hct], by rw [hcf], rfl, .inr (by rw [hct, hcf]; exact hV.symm), HP10.out⟩
                      case measure => simp [intOf]; omega
                  | true =>
                    by_cases h2 : 2 * (l.length - cf) ≤ l.length
                    · have hV : stateV l ct cf = 2 := stateV_lost HGM.out hb9 h2
                      have hi2 : 2 * ((l.length : Int) - (cf : Int)) ≤ (l.length : Int) := by omega
                      have hd2 : decide (2 * ((l.length : Int) - (cf : Int)) ≤ (l.length : Int)) = true := by simpa using hi2
                      rw [hV] at HST HWV
                      rcases HWV with rfl | rfl
                      all_goals
                        go_wp2_with fail
                        refine (HCO.out wc (Step.refl _ _)).mono ?_
                        rintro e w9 ⟨rfl, hs9⟩
                        have HS9 := Lib.hid hs9
                        clear hs9
                        go_wp2_with fail
                        refine (HST.out w9 HS9.out).mono ?_
                        rintro e w10 ⟨rfl, hs10⟩
                        have HS10 := Lib.hid (HS9.out.then hs10 (fun _ h => by cases h))
                        have HP10 := Lib.hid (⟨HP8.out.bal.step0 HS10.out, HP8.out.said.step HS10.out (by simp), HP8.out.sup, HP8.out.step.then HS10.out (fun _ h => by cases h)⟩ : PlayS w w10 bb mb sb (k + 1) a2 cap2 l f')
                        clear hs10 HS9 HS10 HCO HST HP8
                        go_wp2_with fail
                        go_roundw
                        case rel => exact ⟨k + 1, f', 2, by omega, by go_num, by rw [hct], by rw [hcf], rfl, .inr (by rw [hct, hcf]; exact hV.symm), HP10.out⟩
                        case measure => simp [intOf]; omega
                    · have hi2 : (l.length : Int) < 2 * ((l.length : Int) - (cf : Int)) := by omega
                      have hd2 : decide (2 * ((l.length : Int) - (cf : Int)) ≤ (l.length : Int)) = false := by simpa using hi2
                      by_cases h1 : l.length < 2 * ct
                      · have hV : stateV l ct cf = 1 := stateV_won HGM.out h1
                        have hi1 : (l.length : Int) < 2 * (ct : Int) := by omega
                        rw [hV] at HST HWV
                        rcases HWV with rfl | rfl
                        all_goals
                          go_wp2_with fail
                          refine (HCO.out wc (Step.refl _ _)).mono ?_
                          rintro e w9 ⟨rfl, hs9⟩
                          have HS9 := Lib.hid hs9
                          clear hs9
                          go_wp2_with fail
                          refine (HST.out w9 HS9.out).mono ?_
                          rintro e w10 ⟨rfl, hs10⟩
                          have HS10 := Lib.hid (HS9.out.then hs10 (fun _ h => by cases h))
                          have HP10 := Lib.hid (⟨HP8.out.bal.step0 HS10.out, HP8.out.said.step HS10.out (by simp), HP8.out.sup, HP8.out.step.then HS10.out (fun _ h => by cases h)⟩ : PlayS w w10 bb mb sb (k + 1) a2 cap2 l f')
                          clear hs10 HS9 HS10 HCO HST HP8
                          go_wp2_with fail
                          go_roundw
                          case rel => exact ⟨k + 1, f', 1, by omega, by go_num, by rw [hct], by rw [hcf], rfl, .inr (by rw [hct, hcf]; exact hV.symm), HP10.out⟩
                          case measure => simp [intOf]; omega
                      · have hV : stateV l ct cf = 0 := stateV_open HGM.out h1 h2
                        have hi1 : ¬ (l.length : Int) < 2 * (ct : Int) := by omega
                        rw [hV] at HST HWV
                        rcases HWV with rfl | rfl
                        all_goals
                          go_wp2_with fail
                          refine (HCO.out wc (Step.refl _ _)).mono ?_
                          rintro e w9 ⟨rfl, hs9⟩
                          have HS9 := Lib.hid hs9
                          clear hs9
                          go_wp2_with fail
                          refine (HST.out w9 HS9.out).mono ?_
                          rintro e w10 ⟨rfl, hs10⟩
                          have HS10 := Lib.hid (HS9.out.then hs10 (fun _ h => by cases h))
                          have HP10 := Lib.hid (⟨HP8.out.bal.step0 HS10.out, HP8.out.said.step HS10.out (by simp), HP8.out.sup, HP8.out.step.then HS10.out (fun _ h => by cases h)⟩ : PlayS w w10 bb mb sb (k + 1) a2 cap2 l f')
                          clear hs10 HS9 HS10 HCO HST HP8
                          go_wp2_with fail
                          go_roundw
                          case rel => exact ⟨k + 1, f', 0, by omega, by go_num, by rw [hct], by rw [hcf], rfl, .inr (by rw [hct, hcf]; exact hV.symm), HP10.out⟩
                          case measure => simp [intOf]; omega
        · have hke : k = vs.length := by omega
          subst hke
          go_wp2_with fail
          refine (count_nil wr).mono ?_
          rintro e w6 ⟨rfl, rfl⟩
          go_wp2_with fail
          refine (vote_nil 1 true wr).mono ?_
          rintro e w6 ⟨rfl, rfl⟩
          go_wp2_with fail
          refine (state_nil wr).mono ?_
          rintro e w6 ⟨rfl, rfl⟩
          go_wp2_with fail
          go_ret
          exact ⟨rfl, HP2.out.step.below'⟩

set_option maxRecDepth 100000 in
set_option maxHeartbeats 1000000 in
theorem ballotPlays_any (a b : Option Addr) (cap capv : Nat) (l : List Int) (vs : List (Int × Bool)) (w : World) (hl : Ints w a l) (hn : a = none → l.length = 0 ∧ cap = 0) (hv : Votes w b vs) (hvi : ∀ v ∈ vs, IsI v.1) :
    Calls Try.prog 3 #[.slice a l.length cap, .slice b vs.length capv] w fun e w' => e = .returned (.bool true) ∧ Below w.heap.size w w' := by
  by_cases hlen : l.length ≤ 20
  · by_cases hlenv : vs.length ≤ 60
    · exact ballotPlays_in a b cap capv l vs w hl hn hv hvi hlen hlenv
    · clear hl hn hv hvi
      go_enter Try.func3, Try.ntmps3
      go_wp2_with fail
      refine (lives_any w).mono ?_
      rintro e w1 ⟨rfl, hs⟩
      have HS := Lib.hid hs
      clear hs
      go_wp2_with fail
      refine (lives_any w1).mono ?_
      rintro e w2 ⟨rfl, hs⟩
      have HT := Lib.hid (HS.out.then hs (fun k hk => by cases hk))
      clear hs HS
      go_wp2_with fail
      go_ret
      exact ⟨rfl, HT.out.below'⟩
  · clear hl hn hv hvi
    go_enter Try.func3, Try.ntmps3
    go_wp2_with fail
    refine (lives_any w).mono ?_
    rintro e w1 ⟨rfl, hs⟩
    have HS := Lib.hid hs
    clear hs
    go_wp2_with fail
    refine (lives_any w1).mono ?_
    rintro e w2 ⟨rfl, hs⟩
    have HT := Lib.hid (HS.out.then hs (fun k hk => by cases hk))
    clear hs HS
    go_wp2_with fail
    go_ret
    exact ⟨rfl, HT.out.below'⟩
end Go.Proofs.Ytnonejablndojaa
