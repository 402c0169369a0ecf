/- CommandReads: the law walked. -/
import Derived.Test.YtdfkagpnfgmbeaaCmdO
import Derived.Test.YtdfkagpnfgmbeaaCmdS
import Derived.Test.YtdfkagpnfgmbeaaRefC
import Derived.Test.YtdfkagpnfgmbeaaCmdMembersLaw
namespace Go.Proofs.Ytdfkagpnfgmbeaa
set_option linter.unusedVariables false
set_option linter.unusedSimpArgs false
open Go.RowKit
attribute [local go_sem ↓] exec_load_c exec_store_c exec_load_q exec_store_q
attribute [local go_sem] Try.load_c row_drew Try.store_c Try.load_q Try.store_q bstr_toList

theorem anti_tailC {P : Program} {ops : Array Oper} {Q : Exit → Act → World → Prop} {l : List Oper} {G : World → World → Prop} {W0 : World} (a : Act) (F F' : World → Prop) (h : ∀ w, F' w → F w)
    (hQ : ∀ w', G W0 w' → F w' → wpList P ops Q l a w') : ∀ w', G W0 w' → F' w' → wpList P ops Q l a w' := fun w' hg hf => hQ w' hg (h w' hf)
/-- what is known of the calls -/
def SpR (q : PQ) (f : FuncId) (_ : Array Value) (v : Value) (w : World) : Prop :=
  (f = 16 → v = .string (bstr (reqB q))) ∧ (f = 14 → ∃ (a : Option Addr) (k : Nat), v = .agg (cmC (onlyC q.c) a (onlyC q.c).sp.ds.length k).toArray ∧ TxS w a (onlyC q.c).sp.ds)
theorem spR_law (q : PQ) : RelLaw (Step []) (SpR q) := ⟨fun w => Step.refl _ _, fun w w' w'' h1 h2 => h1.then h2 (by simp), fun f args v w w' h hs => ⟨h.1, fun hf => by
  obtain ⟨a, k, h1, h2⟩ := h.2 hf
  exact ⟨a, k, h1, h2.step0 hs⟩⟩⟩
theorem q_start (w : World) (q : PQ) (a : Option Addr) (n k : Nat) : ∃ W qb, ((w.alloc (.cells #[.int .u64 0, .int .u64 0, .int .i64 0, .string { data := #[] }, .string { data := #[] }, .int .u64 0, .int .i64 0, .string { data := #[] }, .string { data := #[] }, .int .i64 0, .int .i64 0, .slice none 0 0, .int .i64 0, .int .i64 0, .int .i64 0, .int .i64 0, .string { data := #[] }, .int .i64 0] 40)).setCells w.heap.size 0 (rqC q a n k) = W ∧ w.heap.size = qb) ∧ (w.alloc (.cells #[.int .u64 0, .int .u64 0, .int .i64 0, .string { data := #[] }, .string { data := #[] }, .int .u64 0, .int .i64 0, .string { data := #[] }, .string { data := #[] }, .int .i64 0, .int .i64 0, .slice none 0 0, .int .i64 0, .int .i64 0, .int .i64 0, .int .i64 0, .string { data := #[] }, .int .i64 0] 40)).there w.heap.size 0 18 ∧ Blk W qb (rqC q a n k).toArray 40 ∧ Step [] w W := by
  have b1 := Blk.new w (rqC pq0 none 0 0).toArray 40
  have s1 := ((Step.refl [] w).alloc (.cells (rqC pq0 none 0 0).toArray 40)).setCells (b := w.heap.size) (.inr (Nat.le_refl _)) (rqC q a n k) 0
  exact ⟨_, _, ⟨rfl, rfl⟩, rq_thr b1, rq_all b1, s1⟩

set_option maxRecDepth 100000 in
set_option maxHeartbeats 2000000 in
theorem reads_any (a : Option Addr) (cap : Nat) (l : List UInt8) (w : World) (hS : SlQ w a l cap) (hm : l.length ≤ maxLen) :
    Calls Try.prog 5 #[.slice a l.length cap] w fun e w' => e = .returned (.bool true) ∧ Step [] w w' := by
  obtain ⟨n, hn⟩ : ∃ n, l.length = n := ⟨_, rfl⟩
  have HN := Lib.hid hn
  have HB := Lib.hid hS
  rw [hn] at hm ⊢
  clear hn hS
  by_cases hl : 1200 < n
  · have hl2 : (1200 : Int) < (n : Int) := by omega
    go_enter Try.func5, Try.ntmps5
    go_wp2_with fail
    refine (lives_any _).mono ?_
    rintro e w1 ⟨rfl, hs⟩
    have HS := Lib.hid hs
    clear hs
    go_wp2_with fail
    refine (lives_any w1).mono ?_
    rintro e w2 ⟨rfl, hs⟩
    have HT := Lib.hid (HS.out.then hs (by simp))
    clear hs
    go_wp2_with fail
    go_ret
    exact ⟨rfl, HT.out⟩
  · have hl2 : ¬ (1200 : Int) < (n : Int) := by omega
    go_enter Try.func5, Try.ntmps5
    go_wp2_with fail
    refine (lives_any _).mono ?_
    rintro e w1 ⟨rfl, hs⟩
    have HS := Lib.hid hs
    have HO := Lib.hid (cmdOf_any a cap l w1 (HB.out.step hs) (by have := HN.out; omega))
    rw [HN.out] at HO
    clear hs
    go_wp2_with fail
    refine HO.out.mono ?_
    rintro e w2 ⟨hs, q, aq, k, er, rfl, htx, hnil, hlit, hwf, hcl, hno, hz, he⟩
    have HS2 := Lib.hid (HS.out.then hs (by simp))
    obtain ⟨nd, hnd⟩ : ∃ n, q.c.sp.ds.length = n := ⟨_, rfl⟩
    have HND := Lib.hid hnd
    obtain ⟨W, qb, hW, t0, hB, hsW⟩ := q_start w2 q aq nd k
    have HW := Lib.hid hW
    have HQ := Lib.hid hB
    have HT := Lib.hid (htx.step0 hsW)
    have HS3 := Lib.hid (HS2.out.then hsW (by simp))
    have HX := Lib.hid (And.intro hnil (And.intro hlit (And.intro hwf (And.intro hcl hno))))
    have HZ := Lib.hid hz
    have HE := Lib.hid he
    rw [hnd]
    clear hs htx hnil hlit hwf hcl hno hz he hnd hW hB hsW HO HS
    by_cases her : er = 0
    · subst her
      obtain ⟨hx1, hx2, hx3, hx4⟩ := HZ.out rfl
      have HR := Lib.hid (And.intro hx1 (And.intro hx2 hx3))
      rw [HN.out] at hx4
      have hn9 : (n : Int) ≤ 900 := by omega
      have hk0 := hx2.1
      have hk9 := hx2.2
      clear hx1 hx2 hx3 hx4 HZ HE
      go_wp2_with (rw [HW.out.1, HW.out.2])
      clear t0
      have cv : ∀ y : ClsW (Step [] W.drew), (convert 23 9 (.slice a n cap)).run Try.prog y.val = .ok (.string (bstr (reqB q))) y.val := fun y => by
        have hB9 := HB.out.step (HS3.out.drew.then y.ok (by simp))
        have h := (hB9.bytes.str (P := Try.prog) (fun h => (hB9.nil h).1) cap 23 9 5 Try.underlying23 Try.underlying5 Try.underlying9)
        rw [HN.out] at h
        rw [← HR.out.1]
        exact h
      have HReq := Lib.hid (fun (X : World) (hX : Step [] W.drew X) => (refReq_any q aq k X HR.out.2.1 (HT.out.step0 ((Step.refl [] W).drew.then hX (by simp))) HX.out.2.1 HX.out.2.2.1 HX.out.2.2.2.1 HX.out.2.2.2.2).mono fun e w' h => (show ∃ v, e = Ending.returned v ∧ SpR q 16 #[.agg (rqC q aq q.c.sp.ds.length k).toArray] v w' ∧ Step [] X w' from ⟨_, h.1, ⟨fun _ => rfl, fun hf => absurd hf (by decide)⟩, h.2⟩))
      have HOnl := Lib.hid (fun (X : World) (hX : Step [] W.drew X) => (only_any q.c aq k X HR.out.2.1 HX.out.1 (HT.out.step0 ((Step.refl [] W).drew.then hX (by simp))) HX.out.2.1).mono fun e w' h => (show ∃ v, e = Ending.returned v ∧ SpR q 14 #[.agg (cmC q.c aq q.c.sp.ds.length k).toArray] v w' ∧ Step [] X w' from by
        obtain ⟨a', k', h1, h2, h3⟩ := h
        exact ⟨_, h1, ⟨fun hf => absurd hf (by decide), fun _ => ⟨a', k', rfl, h2⟩⟩, h3⟩))
      rw [HND.out] at HReq HOnl
      have hne : Nonempty (ClsW (Step [] W.drew)) := ⟨⟨_, Step.refl _ _⟩⟩
      have q2 : ∀ y : ClsW (Step [] W.drew), y.val.cell? ⟨qb, 2, none⟩ = some (.int .i64 q.c.kd) := fun y => (HQ.out.drew.step y.ok (by simp)).cell 2
      have r0 : ∀ y : ClsW (Step [] W.drew), rowC y.val qb 0 18 = some (rqC q aq nd k) := fun y => rq_row (HQ.out.drew.step y.ok (by simp))
      have r2 : ∀ y : ClsW (Step [] W.drew), rowC y.val qb 2 16 = some (cmC q.c aq nd k) := fun y => rq_cm (HQ.out.drew.step y.ok (by simp))
      refine wp_region_rel_tail (spR_law q) 28 (by kernel_rfl) (by kernel_rfl) ?_
      simp only [List.take_succ_cons, List.take_zero, List.drop_succ_cons, List.drop_zero]
      refine wpR_pre (spR_law q) anti_tailC 17 _ _ _ ?_ rfl
      simp only [List.take_succ_cons, List.take_zero, List.drop_succ_cons, List.drop_zero]
      repeat (go_big_quiet_step (fail))
      refine wpQuiet_nil ?_
      refine wpR_callF 16 _ _ rfl (by rfl) Try.func16 (by kernel_rfl) (by kernel_rfl) #[.agg (rqC q aq nd k).toArray] (by simp [Act.eval]) (fun X hX => HReq.out X hX) ?_
      rintro v ⟨_, _, hv, -⟩
      obtain rfl := hv rfl
      refine wpR_pre (spR_law q) anti_tailC 9 _ _ _ ?_ rfl
      simp only [List.take_succ_cons, List.take_zero, List.drop_succ_cons, List.drop_zero]
      go_simp
      repeat (go_big_quiet_step (fail))
      refine wpQuiet_nil ?_
      refine wpR_callF 14 _ _ rfl (by rfl) Try.func14 (by kernel_rfl) (by kernel_rfl) #[.agg (cmC q.c aq nd k).toArray] (by simp [Act.eval]) (fun X hX => HOnl.out X hX) ?_
      intro v _
      unfold wpR
      intro w7 hs7 hF7
      obtain ⟨a5, k5, rfl, ht⟩ := hF7.2.2 rfl
      have HS7 := Lib.hid ((HS3.out.drew.then hs7 (by simp)))
      rw [HR.out.2.2] at ht ⊢
      have HC := Lib.hid (same_any q.c q.c aq a5 k k5 w7 (HT.out.step0 ((Step.refl [] W).drew.then hs7 (by simp))) ht HX.out.2.1.sp HX.out.2.1.sp HX.out.2.2.1.sp HX.out.2.2.1.sp)
      rw [sameC_refl] at HC
      rw [HND.out] at HC ⊢
      clear q2 r0 r2 cv hne hs7 hF7 ht HReq HOnl
      go_wp2_with fail
      refine HC.out.mono ?_
      rintro e w8 ⟨rfl, hs8⟩
      have HS8 := Lib.hid (HS7.out.then hs8 (by simp))
      clear hs8
      go_wp2_with fail
      go_ret
      exact ⟨rfl, HS8.out⟩
    · obtain ⟨hq, h15⟩ := HE.out her
      subst hq
      have hnd0 : nd = 0 := HND.out.symm
      subst hnd0
      have c0 : W.cell? ⟨qb, 0, none⟩ = some (.int .u64 0) := HQ.out.cell 0
      have c1 : W.cell? ⟨qb, 1, none⟩ = some (.int .u64 0) := HQ.out.cell 1
      have c2 : rowC W qb 2 16 = some (cmC pc0 aq 0 k) := rq_cm HQ.out
      have HC := Lib.hid (show Calls Try.prog 13 #[.agg (cmC pc0 aq 0 k).toArray, .agg #[.int .i64 0, .string { data := #[] }, .string { data := #[] }, .int .u64 0, .int .i64 0, .string { data := #[] }, .string { data := #[] }, .int .i64 0, .int .i64 0, .slice none 0 0, .int .i64 0, .int .i64 0, .int .i64 0, .int .i64 0, .string { data := #[] }, .int .i64 0]] W (fun e w' => e = .returned (.bool (sameC pc0 pc0)) ∧ Step [] W w') from
        same_any pc0 pc0 aq none k 0 W HT.out (fun i hi => by simp [pc0, ps0] at hi) LitS_zero LitS_zero WfS_zero WfS_zero)
      rw [sameC_refl] at HC
      have HY := Lib.hid h15
      rw [HN.out] at HY
      clear h15 hl
      have hcase : (n : Int) ≤ 900 ∨ (¬ (n : Int) ≤ 900 ∧ er = 15) := by
        by_cases h : n ≤ 900
        · exact .inl (by omega)
        · exact .inr ⟨by omega, HY.out (by omega)⟩
      go_wp2_with (rw [HW.out.1, HW.out.2])
      refine HC.out.mono ?_
      rintro e w4 ⟨rfl, hs4⟩
      have HS4 := Lib.hid (HS3.out.then hs4 (by simp))
      clear hs4 c0 c1 c2 t0
      rcases hcase with h9 | ⟨h9, he15⟩
      · go_wp2_with fail
        go_ret
        exact ⟨rfl, HS4.out⟩
      · subst he15
        go_wp2_with fail
        go_ret
        exact ⟨rfl, HS4.out⟩
theorem commandReads_any (a : Option Addr) (cap : Nat) (l : List UInt8) (w : World) (hB : Bytes w a l) (hn : a = none → l.length = 0 ∧ cap = 0) (hm : l.length ≤ maxLen) :
    Calls Try.prog 5 #[.slice a l.length cap] w fun e w' => e = .returned (.bool true) ∧ Below w.heap.size w w' :=
  (reads_any a cap l w ⟨hB, hn⟩ hm).mono fun e w1 h => ⟨h.1, h.2.below'⟩
end Go.Proofs.Ytdfkagpnfgmbeaa
