/- net: All. -/
import Derived.Test.YtminpglkipnhcaaNetJ
import Derived.Test.YtminpglkipnhcaaRangeSepV
import Derived.Test.YtminpglkipnhcaaSeqNone
import Derived.Test.YtminpglkipnhcaaSeqNil
import Derived.RangeFuncBound
import Derived.Shelf.Abstract
import Derived.OwnWalkIn
import Derived.TacticsInMore
import Derived.LoopNIn
import Derived.LoopIn
namespace Go.Proofs.Ytminpglkipnhcaa
set_option linter.unusedVariables false
set_option linter.unusedSimpArgs false
open Go.RowKit Go.Shelf
attribute [local go_sem ↓] exec_load_m exec_store_m
attribute [local go_sem] Try.load_m row_drew Try.store_m
attribute [local go_sem] Oper.semAt_some
def CloneMPost (base : Nat) (n : Nat) (L : List Ms) (w : World) (e : Ending) (w' : World) : Prop := ∃ a c, e = .returned (.slice a n c) ∧ w'.ownsRow w.heap.size 31 11 (.slice a n c) n (flatM L) ∧ Step [] w w'
set_option maxHeartbeats 1000000 in
theorem cloneM_any {w : World} {base n cap : Nat} {a : Option Addr} {L : List Ms} (h : w.ownsRow base 31 11 (.slice a n cap) n (flatM L)) (hn : n ≤ 100000) :
    Calls Try.prog 30 #[.slice a n cap] w (CloneMPost base n L w) := by
  rcases h.2 with ⟨hv, h0⟩ | ⟨g, c, cur, hv, _⟩
  · cases hv
    have hL : L = [] := List.eq_nil_of_length_eq_zero (by have := h.1; rw [flatM_len] at this; omega)
    subst hL
    have he := fun w => Lib.run_eql_slice_nil (P := Try.prog) w 38 31 none 0 0 0 0 Try.underlying38
    clear h hn h0
    go_enter Try.func30, Try.ntmps30
    go_wp2
    go_ret
    exact ⟨_, _, rfl, World.ownsRow_nil _ _ _ _, Step.refl _ _⟩
  · cases hv
    obtain ⟨i0, hi0, hz0, hz1, hz2⟩ := infoM_parts
    have he := fun w => Lib.run_eql_slice_nil (P := Try.prog) w 38 31 (some ⟨g, 0, none⟩) n cap 0 0 Try.underlying38
    simp at he
    have HE := Lib.hid h
    clear h
    go_enter Try.func30, Try.ntmps30
    go_wp2_with (at_builtin; refine wpList_append_own_any rfl (.tmp 5) (.tmp 6) 38 rfl w.heap.size 31 i0 _ 11 136 Try.underlying38 hi0 hz0 hz1 hz2 rfl (by decide) _ 0 [] rfl (World.ownsRow_made _ _ 0 (Nat.le_refl _) (Nat.zero_le _) rfl) (some ⟨g, 0, none⟩) n cap (flatM L) rfl (by intro h; cases h) HE.out.1 (fun ad had => by cases had; exact (HE.out.alloc _).cells rfl) (flatM_one L) (by unfold maxLen; omega) (by omega) (by simp) ?_)
    intro v2 w2 hown2 hg2
    have hs2 : Step [] w w2 := ((Step.refl _ _).alloc _).grown hg2 (fun k hk => by cases hk; exact .inr (Nat.le_refl _))
    have hown3 : w2.ownsRow w.heap.size 31 11 v2 n (flatM L) := by simpa using hown2
    have HO := Lib.hid hown3
    clear hown2 hg2 hown3
    go_wp2
    go_ret
    rcases HO.out.2 with ⟨rfl, h0⟩ | ⟨g, c, cur, rfl, -⟩
    · subst h0
      exact ⟨_, _, rfl, HO.out, hs2⟩
    · exact ⟨_, _, rfl, HO.out, hs2⟩
theorem all_box (p : Option Addr) (w : World) : Calls Try.prog 12 #[.pointer p] w fun e w' => e = .returned (.func (.func 29) #[] #[.pointer (some ⟨w.heap.size, 0, none⟩)]) ∧ w' = w.alloc (.cells #[.pointer p] 23) := by
  go_enter Try.func12, Try.ntmps12
  go_wp2_with fail
  go_ret
  exact ⟨rfl, rfl⟩
theorem all1_nil (l b : Nat) (w : World) (hc : w.cell? ⟨b, 0, none⟩ = some (.pointer none)) : Calls Try.prog 29 #[.func (.yield l) #[] #[], .pointer (some ⟨b, 0, none⟩)] w fun e w' => (∃ v, e = .returned v) ∧ Step [] w w' := by
  go_enter Try.func29, Try.ntmps29
  go_wp2_with fail
  refine bodyPost_ret (results_none rfl _ _ _) rfl ?_
  exact ⟨⟨_, rfl⟩, Step.refl _ _⟩
/-- what is handed over: its number, the message, its blocks -/
abbrev Hd := Nat × Ms × List Nat
/-- the last one that was told is the message that stands there -/
def VN (T : List Tm) (s : List Hd) (A : World) : Prop := ∀ pre y, s = pre ++ [y] → y.1 = pre.length ∧ pre.length < T.length ∧ TmOk A ⟨y.2.1, (T.getD pre.length tm0).M, y.2.2⟩
set_option maxRecDepth 20000 in
set_option maxHeartbeats 2000000 in
theorem allC_sep (n0 : Nat) (hn0 : 3 ≤ n0) (bx base nb mb : Nat) (lv : Value) (T : List Tm) (nw : Nat) (f : PK → Option Bool) :
    SeqSepV Fence.wide n0 Try.prog 29 #[.pointer (some ⟨bx, 0, none⟩)] (fun y : Hd => #[.int .i64 (y.1 : Int), .agg (msC y.2.1).toArray]) (fun y => y.2.2) (footE nb mb lv T []) (VN T) (fun xs => xs.length = T.length) (fun _ => True)
      (fun W => W.cell? ⟨bx, 0, none⟩ = some (.pointer (some ⟨nb, 0, none⟩)) ∧ NtE W base nb mb lv T [] nw f) := by
  intro l J Jx W ⟨hc, hN⟩ hJ hJx hY h0
  obtain ⟨ao, cap, rfl⟩ : ∃ ao c, lv = .slice ao T.length c := by
    rcases hN.net.own.2 with ⟨h1, h2⟩ | ⟨g, c, cur, h1, _⟩
    · exact ⟨none, 0, by rw [h1]; simp at h2; rw [h2]; rfl⟩
    · exact ⟨_, c, by simpa using h1⟩
  have c0 := hN.net.blk.cell 0
  simp only [List.getElem?_toArray, List.getElem?_cons_zero] at c0
  have hfew := hN.net.few
  rw [List.length_map] at hfew
  have HC := Lib.hid (cloneM_any (base := base) (L := T.map (·.x)) (by have := hN.net.own; rwa [List.length_map] at this) (by omega))
  have HN := Lib.hid hN
  have HJ := Lib.hid hJ
  have HJX := Lib.hid hJx
  have HY := Lib.hid hY
  have H0 := Lib.hid h0
  obtain ⟨N, hNN⟩ : ∃ N, T.length = N := ⟨_, rfl⟩
  have HNN := Lib.hid hNN
  rw [hNN] at hfew c0 HC HN
  simp only [hNN] at HY ⊢
  clear hN hJ hJx hY h0 hNN
  refine callsIn_of_wp Try.func29 rfl trivial ?_ rfl
  simp only [Try.ntmps29, List.size_toArray, List.length_cons, List.length_nil, Nat.reduceAdd, Nat.reduceSub, Array.replicate_succ, Array.replicate_zero, List.push_toArray, List.append_toArray, List.nil_append, List.cons_append]
  gi_wp2
  refine ⟨trivial, fun _ => by omega, (callsIn_wide.2 HC.out).mono ?_⟩
  rintro e w1 ⟨a1, c1, rfl, ho1, hs1⟩
  have hl1 := owns_live ho1
  have hb1 := owns_base ho1
  have H1 := Lib.hid (And.intro ho1 (And.intro (HN.out.step hs1 (fun k _ => List.not_mem_nil)) (HJ.out [] W w1 [] (foot (.slice a1 N c1)) H0.out hs1 (fun k hk => .inr (hb1 k hk)) hl1)))
  have HL1 := Lib.hid (And.intro hl1 (fun k hk (hm : k ∈ footE nb mb (.slice ao N cap) T []) => by have := hb1 k hk; have := HN.out.live k hm; omega : Dj (foot (.slice a1 N c1)) (footE nb mb (.slice ao N cap) T [])))
  clear ho1 hs1 hc c0 HC hl1 hb1
  gi_wp2
  gi_loopw [13] (fun s wr => ∃ (i : Nat) (pre : List Hd), s = .int .i64 (i : Int) ∧ i ≤ N ∧ pre.length = i ∧ J pre wr (foot (.slice a1 N c1)) ∧ wr.ownsRow W.heap.size 31 11 (.slice a1 N c1) N (flatM (T.map (·.x))) ∧ NtE wr base nb mb (.slice ao N cap) T [] nw f) (fun s _ => N - (intOf s).toNat)
  case atStart => exact ⟨0, [], rfl, Nat.zero_le _, rfl, H1.out.2.2, H1.out.1, H1.out.2.1⟩
  case round =>
    obtain ⟨i, pre, rfl, hi, hpl, hJr, hor, hNr⟩ := hrel
    have HR := Lib.hid (And.intro hpl (And.intro hJr (And.intro hor hNr)))
    clear hpl hJr H1
    by_cases hlt : i < N
    · obtain ⟨g, c, hv, _⟩ := owns_form hor (by omega)
      injection hv with hv1 _ hv2
      subst hv1
      subst hv2
      have hrow := owns_msg hor i hlt
      have hgx : (T.map (·.x)).getD i ms0 = (T.getD i tm0).x := by simp [List.getD, show i < T.length by rw [HNN.out]; exact hlt]
      rw [hgx] at hrow
      have hmem : T.getD i tm0 ∈ T ++ [] := List.mem_append_left _ (by simp [List.getD, show i < T.length by rw [HNN.out]; exact hlt])
      obtain ⟨t, ht⟩ : ∃ t, T.getD i tm0 = t := ⟨_, rfl⟩
      rw [ht] at hrow hmem
      have hok := hNr.ok t hmem
      have HT := Lib.hid (And.intro ht hmem)
      have r1 : rowC (wr.alloc (.cells (msC ms0).toArray 31)) g (i * 11) 11 = some (msC t.x) := row_alloc wr _ hrow
      obtain ⟨bt, bb, bs⟩ := box_m wr t.x
      have p1 : (i : Int) < (N : Int) := by omega
      have p0 : (0 : Int) ≤ (i : Int) := by omega
      have r2 := msg_row bb
      obtain ⟨W2, hW2⟩ : ∃ W, (wr.alloc (.cells (msC ms0).toArray 31)).setCells wr.heap.size 0 (msC t.x) = W := ⟨_, rfl⟩
      rw [hW2] at bb bs
      have HC := Lib.hid (clone_any t.x t.M t.D W2 (hok.1.step bs (fun k _ => List.not_mem_nil)).ok hok.1.few)
      have HW2 := Lib.hid (And.intro hW2 bs)
      have hzv := zeroM
      unfold msV at hzv
      have hC0 : ¬ (msC ms0).toArray = #[] := by decide
      clear hW2 bs ht hmem hok hgx hor hNr bb
      gi_wp2
      rw [HW2.out.1]
      refine ⟨trivial, fun _ => by omega, (callsIn_wide.2 HC.out).mono ?_⟩
      rintro e w5 ⟨x', D', rfl, hok, hD, hs5, hu5⟩
      have hs := HW2.out.2.then hs5 (by simp)
      obtain ⟨hpl, hJr, hor, hNr⟩ := HR.out
      have hof := HL1.out
      have hlr : Live wr (foot (.slice (some ⟨g, 0, none⟩) N c1)) := owns_live hor
      have hW2z := HW2.out.2.size
      have hD2 : ∀ k, k ∈ D' → wr.heap.size ≤ k ∧ k < w5.heap.size := fun k hk => ⟨Nat.le_trans hW2z (hD k hk).1, (hD k hk).2⟩
      have hJ5 := HJ.out pre wr w5 _ (D' ++ foot (.slice (some ⟨g, 0, none⟩) N c1)) hJr (hs.mono (by simp)) (fun k hk => by
        rcases List.mem_append.1 hk with hk | hk
        · exact .inr (hD2 k hk).1
        · exact .inl hk) (fun k hk => by
        rcases List.mem_append.1 hk with hk | hk
        · exact (hD2 k hk).2
        · exact Nat.lt_of_lt_of_le (hlr k hk) hs.size)
      have hfew := (hNr.ok t HT.out.2).1.few
      have hdj : Dj D' (footE nb mb (.slice ao N cap) T [] ++ foot (.slice (some ⟨g, 0, none⟩) N c1)) := fun k hk hm => by
        have h1 := (hD2 k hk).1
        rcases List.mem_append.1 hm with hm | hm
        · have := hNr.live k hm
          omega
        · have := hlr k hm
          omega
      obtain ⟨fn, tmps, asg, bd, hy, hrr⟩ := HY.out pre (i, x', D') w5 _ hJ5 (fun p y he => by
        obtain ⟨h1, h2⟩ := List.append_inj' he rfl
        subst h1
        simp only [List.cons.injEq, and_true] at h2
        subst h2
        exact ⟨hpl.symm, by rw [hpl, HNN.out]; exact hlt, by rw [hpl, HT.out.1]; exact ⟨hok, hfew, hu5, fun k hk => (hD2 k hk).2⟩⟩) hdj
      dsimp only at hy
      have HRR := Lib.hid hrr
      have H5 := Lib.hid (And.intro hpl (And.intro (owns_step hor hs (by simp)) (hNr.step hs (fun k _ => List.not_mem_nil))))
      clear hrr hok hD hs5 hu5 hs hpl hJr hor hNr hof hlr hW2z hD2 hJ5 hdj hrow r1 bt r2
      gi_wp2
      refine ⟨fun _ => by omega, HRR.out.mono ?_⟩
      rintro e B (⟨rfl, hj3, H3, s3, d3⟩ | ⟨rfl, hj3, _⟩)
      · have HF := Lib.hid (And.intro hj3 (And.intro (owns_step H5.out.2.1 s3 (fun k hk => d3 k (List.mem_append_right _ hk))) (H5.out.2.2.step s3 (fun k hk => d3 k (List.mem_append_left _ hk)))))
        clear hj3 s3 d3
        gi_wp2
        go_roundw
        case rel => exact ⟨i + 1, pre ++ [(i, x', D')], by go_num, hlt, by simp [H5.out.1], HF.out⟩
        case measure => simp [intOf]; omega
      · have HF := Lib.hid hj3
        clear hj3
        gi_wp2
        refine bodyPost_ret (results_none rfl _ _ _) rfl ?_
        exact ⟨⟨_, rfl⟩, .inr ⟨_, _, trivial, HF.out⟩⟩
    · obtain rfl : N = i := by omega
      have p1 : ¬ (N : Int) < (N : Int) := by omega
      clear hor hNr
      gi_wp2
      go_end0
      exact ⟨⟨_, rfl⟩, .inl ⟨pre, HR.out.1, _, HR.out.2.1⟩⟩
end Go.Proofs.Ytminpglkipnhcaa
