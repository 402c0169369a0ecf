/- HeapMerges: the law's own walk. -/
import Derived.Test.YtdbhldlgfchjpaaHpTri
import Derived.Test.YtdbhldlgfchjpaaHpLives
import Derived.Test.YtdbhldlgfchjpaaNums
namespace Go.Proofs.Ytdbhldlgfchjpaa
set_option linter.unusedVariables false
open Go.RowKit HpA
abbrev rk7 (k : Int) : Int := k % 7
theorem good16 {k : Int} (h : (Lit.int .u16 k).wf = true) : HpA.good k := h
theorem u16r {x : Int} (h : (Lit.int .u16 x).wf = true) : 0 ≤ x ∧ x ≤ 65535 := by
  simp [Lit.wf, IntKind.min, IntKind.max, IntKind.bits, IntKind.signed] at h
  omega
theorem take_mem (l : List Int) (i : Nat) (h : i < l.length) (y : Int) : y ∈ l.take (i + 1) ↔ y = l.getD i 0 ∨ y ∈ l.take i := by
  rw [List.take_succ_eq_append_getElem h, List.mem_append]
  have e : l.getD i 0 = l[i] := by simp [List.getD, h]
  rw [e]
  simp only [List.mem_singleton]
  exact Or.comm
set_option maxRecDepth 100000 in
set_option maxHeartbeats 8000000 in
theorem merges_in (a b : Option Addr) (ca cb : Nat) (la lb : List Int) (w : World) (hA : Nums .u16 w a la) (hB : Nums .u16 w b lb) (wa : ∀ x ∈ la, (Lit.int .u16 x).wf = true) (wb : ∀ x ∈ lb, (Lit.int .u16 x).wf = true) (na : la.length ≤ 60) (nb : lb.length ≤ 60) :
    Calls Try.prog 3 #[.slice a la.length ca, .slice b lb.length cb] w fun e w' => e = .returned (.bool true) ∧ Below w.heap.size w w' := by
  have HA := Lib.hid (And.intro hA wa)
  have HB := Lib.hid (And.intro hB wb)
  obtain ⟨nA, hnA⟩ : ∃ n, la.length = n := ⟨_, rfl⟩
  obtain ⟨nB, hnB⟩ : ∃ n, lb.length = n := ⟨_, rfl⟩
  have HN := Lib.hid (And.intro hnA hnB)
  rw [hnA] at na ⊢
  rw [hnB] at nb ⊢
  clear hA hB wa wb hnA hnB
  have q1 : ((60 : Int) < (nA : Int)) = False := by simp; omega
  have q2 : ((60 : Int) < (nB : Int)) = False := by simp; omega
  go_enter Try.func3, Try.ntmps3
  go_wp2_with fail
  refine (lives_any w).mono ?_
  rintro e w1 ⟨rfl, hs⟩
  have HS := Lib.hid hs
  clear hs
  go_wp2_with fail
  refine (new_hs w1).mono ?_
  rintro e w2 ⟨hx, F1, rfl, h1, s1⟩
  have H1 := Lib.hid (And.intro h1 s1)
  clear h1 s1
  go_wp2_with fail
  refine (new_hs w2).mono ?_
  rintro e w3 ⟨hy, F2, rfl, h2, s2⟩
  have H2 := Lib.hid (And.intro h2 s2)
  clear h2 s2
  go_wp2_with fail
  refine (new_hs w3).mono ?_
  rintro e w4 ⟨hz, F3, rfl, h3, s3⟩
  have HT := Lib.hid (Tri.made H1.out.1 H1.out.2 H2.out.1 H2.out.2 h3 s3)
  clear h3 s3 H1 H2
  go_wp2_with fail
  go_loopw [36] (fun s wr => ∃ (i : Nat) (X Z : List It), s = .int .i64 (i : Int) ∧ i ≤ nA ∧ Tri w1 wr hx X hy [] hz Z ∧ Gr rk7 X (fun y => y ∈ la.take i) ∧ Gr rk7 Z (fun y => y ∈ la.take i) ∧ X.length ≤ i ∧ Z.length ≤ i) (fun s _ => nA - (intOf s).toNat)
  case atStart => exact ⟨0, [], [], rfl, Nat.zero_le _, HT.out, gr_iff gr_nil (by simp), gr_iff gr_nil (by simp), Nat.le_refl _, Nat.le_refl _⟩
  case round =>
    obtain ⟨i, X, Z, rfl, hi, hT, hgX, hgZ, hlX, hlZ⟩ := hrel
    have HT2 := Lib.hid hT
    have HG := Lib.hid (And.intro hgX (And.intro hgZ (And.intro hlX hlZ)))
    clear hT hgX hgZ hlX hlZ HT
    by_cases hik : i < nA
    · have p1 : (i : Int) < (nA : Int) := by omega
      obtain ⟨bb, off, ha, hlt, hc⟩ := HA.out.1 i (by have := HN.out.1; omega)
      have hc2 : wr.cell? ⟨bb, off + i, none⟩ = some (.int .u16 (la.getD i 0)) := by rw [(HS.out.then HT2.out.st (by simp)).cell hlt (by simp)]; exact hc
      have hw : (Lit.int .u16 (la.getD i 0)).wf = true := HA.out.2 _ (by have := HN.out.1; rw [show la.getD i 0 = la[i]'(by omega) from by simp [List.getD, show i < la.length by omega]]; exact List.getElem_mem _)
      obtain ⟨k, hk⟩ : ∃ k, la.getD i 0 = k := ⟨_, rfl⟩
      rw [hk] at hc2 hw
      have hr := u16r hw
      have HK := Lib.hid hk
      subst ha
      clear hc hk
      go_wp2_with fail
      refine (HT2.out.put k (k % 7) (good16 hw) (by have := HG.out.2.2.1; omega)).mono ?_
      rintro e w5 ⟨⟨b5, rfl⟩, hT5⟩
      have HT5 := Lib.hid hT5.xz
      clear hT5
      go_wp2_with fail
      refine (HT5.out.put k (k % 7) (good16 hw) (by have := HG.out.2.2.2; omega)).mono ?_
      rintro e w6 ⟨⟨b6, rfl⟩, hT6⟩
      have HT6 := Lib.hid hT6.xz
      clear hT6
      go_wp2_with fail
      go_roundw
      case rel =>
        obtain ⟨g1, g2, g3, g4⟩ := HG.out
        have hm : ∀ y, y = k ∨ y ∈ la.take i ↔ y ∈ la.take (i + 1) := fun y => by rw [take_mem la i (by have := HN.out.1; omega), HK.out]
        exact ⟨i + 1, _, _, by go_num, by omega, HT6.out, gr_iff (gr_put g1 k) hm, gr_iff (gr_put g2 k) hm, by rw [Hp.ins_len]; have := Hp.wok_len k X; omega, by rw [Hp.ins_len]; have := Hp.wok_len k Z; omega⟩
      case measure => simp [intOf]; omega
    · have hie : i = nA := by omega
      subst hie
      have p1 : decide ((i : Int) < (i : Int)) = false := by simp
      have HG2 := Lib.hid (show Gr rk7 X (fun y => y ∈ la) ∧ Gr rk7 Z (fun y => y ∈ la) ∧ X.length ≤ i ∧ Z.length ≤ i from by
        obtain ⟨g1, g2, g3, g4⟩ := HG.out
        rw [List.take_of_length_le (by have := HN.out.1; omega)] at g1 g2
        exact ⟨g1, g2, g3, g4⟩)
      clear HG
      go_wp2_with fail
      go_loopw [53] (fun s wr => ∃ (j : Nat) (Y Z : List It), s = .int .i64 (j : Int) ∧ j ≤ nB ∧ Tri w1 wr hx X hy Y hz Z ∧ Gr rk7 Y (fun y => y ∈ lb.take j) ∧ Gr rk7 Z (fun y => y ∈ la ∨ y ∈ lb.take j) ∧ Y.length ≤ j ∧ Z.length ≤ i + j) (fun s _ => nB - (intOf s).toNat)
      case atStart => exact ⟨0, [], Z, rfl, Nat.zero_le _, HT2.out, gr_iff gr_nil (by simp), gr_iff HG2.out.2.1 (by simp), Nat.le_refl _, HG2.out.2.2.2⟩
      case round =>
        obtain ⟨j, Y, Z', rfl, hj, hT, hgY, hgZ, hlY, hlZ⟩ := hrel
        have HT3 := Lib.hid hT
        have HG := Lib.hid (And.intro hgY (And.intro hgZ (And.intro hlY hlZ)))
        clear hT hgY hgZ hlY hlZ HT2
        by_cases hjk : j < nB
        · have p1 : (j : Int) < (nB : Int) := by omega
          obtain ⟨bb, off, ha, hlt, hc⟩ := HB.out.1 j (by have := HN.out.2; omega)
          have hc2 : wr.cell? ⟨bb, off + j, none⟩ = some (.int .u16 (lb.getD j 0)) := by rw [(HS.out.then HT3.out.st (by simp)).cell hlt (by simp)]; exact hc
          have hw : (Lit.int .u16 (lb.getD j 0)).wf = true := HB.out.2 _ (by have := HN.out.2; rw [show lb.getD j 0 = lb[j]'(by omega) from by simp [List.getD, show j < lb.length by omega]]; exact List.getElem_mem _)
          obtain ⟨k, hk⟩ : ∃ k, lb.getD j 0 = k := ⟨_, rfl⟩
          rw [hk] at hc2 hw
          have hr := u16r hw
          have HK := Lib.hid hk
          subst ha
          clear hc hk
          go_wp2_with fail
          refine (HT3.out.xy.put k (k % 7) (good16 hw) (by have := HG.out.2.2.1; omega)).mono ?_
          rintro e w5 ⟨⟨b5, rfl⟩, hT5⟩
          have HT5 := Lib.hid hT5.xz
          clear hT5
          go_wp2_with fail
          refine (HT5.out.put k (k % 7) (good16 hw) (by have := HG.out.2.2.2; omega)).mono ?_
          rintro e w6 ⟨⟨b6, rfl⟩, hT6⟩
          have HT6 := Lib.hid hT6.xz.xy
          clear hT6
          go_wp2_with fail
          go_roundw
          case rel =>
            obtain ⟨g1, g2, g3, g4⟩ := HG.out
            have hm : ∀ y, y = k ∨ y ∈ lb.take j ↔ y ∈ lb.take (j + 1) := fun y => by rw [take_mem lb j (by have := HN.out.2; omega), HK.out]
            refine ⟨j + 1, _, _, by go_num, by omega, HT6.out, gr_iff (gr_put g1 k) hm, gr_iff (gr_put g2 k) (fun y => ?_), by rw [Hp.ins_len]; have := Hp.wok_len k Y; omega, by rw [Hp.ins_len]; have := Hp.wok_len k Z'; omega⟩
            rw [← hm]
            exact or_left_comm
          case measure => simp [intOf]; omega
        · have hje : j = nB := by omega
          subst hje
          have p1 : decide ((j : Int) < (j : Int)) = false := by simp
          have HG3 := Lib.hid (show Gr rk7 Y (fun y => y ∈ lb) ∧ Gr rk7 Z' (fun y => y ∈ la ∨ y ∈ lb) ∧ Y.length ≤ j from by
            obtain ⟨g1, g2, g3, g4⟩ := HG.out
            rw [List.take_of_length_le (by have := HN.out.2; omega)] at g1 g2
            exact ⟨g1, g2, g3⟩)
          clear HG
          go_wp2_with fail
          go_loopw [70] (fun _ wr => ∃ (X Y : List It) (A B : Int → Prop), Tri w1 wr hx X hy Y hz Z' ∧ Gr rk7 X A ∧ Gr rk7 Y B ∧ (∀ y, A y ∨ B y ↔ y ∈ la ∨ y ∈ lb) ∧ X.length + Y.length ≤ 120) (fun _ wr => lenAt wr hy)
          case atStart => exact ⟨X, Y, _, _, HT3.out, HG2.out.1, HG3.out.1, fun y => Iff.rfl, by have := HG2.out.2.2.1; have := HG3.out.2.2; omega⟩
          case round =>
            obtain ⟨X, Y, A, B, hT, hgX, hgY, hab, hl⟩ := hrel
            have HT4 := Lib.hid hT
            have HG := Lib.hid (And.intro hgX (And.intro hgY (And.intro hab hl)))
            clear hT hgX hgY hab hl HT3
            go_wp2_with fail
            refine HT4.out.xy.len.mono ?_
            rintro e w5 ⟨rfl, rfl⟩
            cases Y with
            | nil =>
              have HZ := Lib.hid (show X = Z' from gr_eq HG.out.1 (gr_iff HG3.out.2.1 (fun y => by
                have h1 := HG.out.2.2.1 y
                have h2 : ¬ B y := fun hb => by
                  have := (HG.out.2.1 (y, rk7 y)).2 ⟨hb, rfl⟩
                  cases this
                rw [← h1]
                exact ⟨fun h => h.elim id (fun h => absurd h h2), .inl⟩)) HT4.out.srt HT4.out.xz.srt)
              simp only [List.length_nil]
              go_wp2_with fail
              go_loopw [84] (fun _ wr => ∃ X : List It, Tri w1 wr hx X hy [] hz X) (fun _ wr => lenAt wr hz)
              case atStart => exact ⟨X, by have h := HT4.out; rw [← HZ.out] at h; exact h⟩
              case round =>
                obtain ⟨X, hT⟩ := hrel
                have HT5 := Lib.hid hT
                clear hT HT4 HZ HG HG2 HG3
                go_wp2_with fail
                refine HT5.out.xz.len.mono ?_
                rintro e w5 ⟨rfl, rfl⟩
                cases X with
                | nil =>
                  simp only [List.length_nil]
                  go_wp2_with fail
                  refine HT5.out.len.mono ?_
                  rintro e w5 ⟨rfl, rfl⟩
                  simp only [List.length_nil]
                  go_wp2_with fail
                  go_ret
                  exact ⟨rfl, (HS.out.then HT5.out.st (by simp)).below'⟩
                | cons y X =>
                  have HP := Lib.hid HT5.out.pop
                  obtain ⟨yk, yr⟩ := y
                  simp only [hdS, List.tail_cons] at HP
                  have p2 : 0 < ((((yk, yr) : It) :: X).length) := by simp
                  generalize hLn : (((yk, yr) : It) :: X).length = L at p2 ⊢
                  have HLn := Lib.hid hLn
                  clear hLn
                  go_wp2_with fail
                  refine HP.out.mono ?_
                  rintro e w5 ⟨rfl, hT5⟩
                  have hT6 := hT5.step ((Step.refl [] w5).alloc (.cells #[.int .u16 yk, .int .u16 yr] 30))
                  have HP2 := Lib.hid (hT5.xz.pop_keep ((Step.refl [] w5).alloc (.cells #[.int .u16 yk, .int .u16 yr] 30)))
                  simp only [hdS, List.tail_cons] at HP2
                  have HB6 := Lib.hid (Blk.new w5 #[.int .u16 yk, .int .u16 yr] 30)
                  have HT6 := Lib.hid hT6
                  clear hT5 hT6 HP
                  go_wp2_with fail
                  refine HP2.out.mono ?_
                  rintro e w6 ⟨rfl, hT7, hkp⟩
                  have hB := hkp _ _ _ (Nat.le_refl _) HB6.out
                  have c0 := hB.cell 0
                  have c1 := hB.cell 1
                  have hlt := hB.lt
                  simp only [List.getElem?_toArray, List.getElem?_cons_zero, List.getElem?_cons_succ] at c0 c1
                  have HT7 := Lib.hid ((hT7.step ((Step.refl [] w6).alloc (.cells #[.int .u16 yk, .int .u16 yr] 30))).xz)
                  generalize w5.heap.size = b5 at *
                  clear hT7 hkp HB6 HP2 hB
                  go_wp2_with fail
                  go_roundw
                  case rel => exact ⟨_, _, _, _, _, _, _, _, _, _, _, _, _, _, _, _, _, _, _, _, _, ⟨X, HT7.out⟩, rfl⟩
                  case measure =>
                    rw [HT7.out.xz.lenAt, HT5.out.xz.lenAt]
                    simp
            | cons y Y =>
              have HP := Lib.hid HT4.out.xy.pop
              have hg := HT4.out.xy.good y (by simp)
              have hy2 := ((HG.out.2.1 y).1 (by simp)).2
              simp only [hdS, List.tail_cons] at HP
              obtain ⟨yk, yr⟩ := y
              dsimp only at hg hy2
              subst hy2
              have p2 : 0 < ((((yk, rk7 yk) : It) :: Y).length) := by simp
              generalize hLn : (((yk, rk7 yk) : It) :: Y).length = L at p2 ⊢
              have HLn := Lib.hid hLn
              clear hLn
              go_wp2_with fail
              refine HP.out.mono ?_
              rintro e w5 ⟨rfl, hT5⟩
              have HT5 := Lib.hid ((hT5.step ((Step.refl [] w5).alloc (.cells #[.int .u16 yk, .int .u16 (yk % 7)] 30))).xy)
              clear hT5
              go_wp2_with fail
              refine (HT5.out.put yk (yk % 7) hg (by have := HG.out.2.2.2; simp at this; omega)).mono ?_
              rintro e w6 ⟨⟨b6, rfl⟩, hT6⟩
              have HT6 := Lib.hid hT6
              clear hT6
              go_wp2_with fail
              go_roundw
              case rel =>
                obtain ⟨g1, g2, g3, g4⟩ := HG.out
                refine ⟨_, _, _, _, HT6.out, gr_put g1 yk, gr_tail g2 HT4.out.xy.keys, fun y => ?_, by rw [Hp.ins_len]; have := Hp.wok_len yk X; simp at g4; omega⟩
                have hb : B yk := ((g2 (yk, rk7 yk)).1 (by simp)).1
                rw [← g3 y]
                constructor
                · rintro ((h | h) | h)
                  · subst h
                    exact .inr hb
                  · exact .inl h
                  · exact .inr h.1
                · rintro (h | h)
                  · exact .inl (.inr h)
                  · by_cases e : y = yk
                    · exact .inl (.inl e)
                    · exact .inr ⟨h, e⟩
              case measure =>
                rw [HT6.out.xy.lenAt, HT4.out.xy.lenAt]
                simp
set_option maxRecDepth 100000 in
set_option maxHeartbeats 1000000 in
theorem merges_any (a b : Option Addr) (ca cb : Nat) (la lb : List Int) (w : World) (hA : Nums .u16 w a la) (hB : Nums .u16 w b lb) (wa : ∀ x ∈ la, (Lit.int .u16 x).wf = true) (wb : ∀ x ∈ lb, (Lit.int .u16 x).wf = true) :
    Calls Try.prog 3 #[.slice a la.length ca, .slice b lb.length cb] w fun e w' => e = .returned (.bool true) ∧ Below w.heap.size w w' := by
  by_cases na : la.length ≤ 60
  · by_cases nb : lb.length ≤ 60
    · exact merges_in a b ca cb la lb w hA hB wa wb na nb
    · clear hA hB wa wb
      generalize la.length = nA at *
      generalize lb.length = nB at *
      have q1 : ((60 : Int) < (nA : Int)) = False := by simp; omega
      go_enter Try.func3, Try.ntmps3
      go_wp2_with fail
      refine (lives_any w).mono ?_
      rintro e w1 ⟨rfl, hs⟩
      have HS := Lib.hid hs
      clear hs
      go_wp2_with fail
      refine (lives_any w1).mono ?_
      rintro e w2 ⟨rfl, hs⟩
      have HT := Lib.hid (HS.out.then hs (fun k hk => by cases hk))
      clear hs HS
      go_wp2_with fail
      go_ret
      exact ⟨rfl, HT.out.below'⟩
  · clear hA hB wa wb
    generalize la.length = nA at *
    generalize lb.length = nB at *
    go_enter Try.func3, Try.ntmps3
    go_wp2_with fail
    refine (lives_any w).mono ?_
    rintro e w1 ⟨rfl, hs⟩
    have HS := Lib.hid hs
    clear hs
    go_wp2_with fail
    refine (lives_any w1).mono ?_
    rintro e w2 ⟨rfl, hs⟩
    have HT := Lib.hid (HS.out.then hs (fun k hk => by cases hk))
    clear hs HS
    go_wp2_with fail
    go_ret
    exact ⟨rfl, HT.out.below'⟩
end Go.Proofs.Ytdbhldlgfchjpaa
