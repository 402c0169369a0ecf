/- command.Of of any bytes: what was there, if nothing is wrong. -/
import Derived.Test.YtdfkagpnfgmbeaaFieldsR
import Derived.Test.YtdfkagpnfgmbeaaCmdR
import Derived.Test.YtdfkagpnfgmbeaaOctetEnd
namespace Go.Proofs.Ytdfkagpnfgmbeaa
set_option linter.unusedVariables false
set_option linter.unusedSimpArgs false
open Go.RowKit

theorem Try.infoQ : (Try.prog.info? 40).map (fun i => (i.zero, i.size)) = some (some (.agg (rqC pq0 none 0 0).toArray), 18) := by kernel_rfl
theorem zeroQ' (w : World) : (zeroValue 40).run Try.prog w = .ok (.agg (rqC pq0 none 0 0).toArray) w := by
  have h1 := Try.infoQ
  cases e : Try.prog.info? 40 with
  | none => rw [e] at h1; cases h1
  | some i =>
    rw [e] at h1
    simp at h1
    simp [zeroValue, typeInfo, e, h1.1]
theorem exec_load_q (a : Act) (dst : Option Tmp) (x : Operand) (ty : TypeId) (pos : String) (after : Array Edge) (guard : Option (Nat × Bool)) :
    execOp a.eval { dst, op := .load 40 x, type := ty, pos, after, guard } = (do pure (.value (← loadBig 40 (a.eval x)))) := rfl
theorem Try.load_q (w : World) (b o : Nat) : (loadBig 40 (.pointer (some ⟨b, o, none⟩))).run Try.prog w = match rowC w b o 18 with
      | some cs => .ok (.agg cs.toArray) w
      | none => (loadBig0 40 (.pointer (some ⟨b, o, none⟩))).run Try.prog w :=
  run_loadBig 40 18 _ Try.underlying40 rfl (by kernel_rfl) w b o
theorem exec_store_q (a : Act) (dst : Option Tmp) (x y : Operand) (ty : TypeId) (pos : String) (after : Array Edge) (guard : Option (Nat × Bool)) :
    execOp a.eval { dst, op := .store 40 x y, type := ty, pos, after, guard } = (do storeBig 40 (a.eval x) (a.eval y); pure .skip) := rfl
theorem Try.store_q (w : World) (b o : Nat) (q : PQ) (a : Option Addr) (n c : Nat) (ht : w.there b o 18) : (storeBig 40 (.pointer (some ⟨b, o, none⟩)) (.agg (rqC q a n c).toArray)).run Try.prog w = .ok () (w.setCells b o (rqC q a n c)) :=
  run_storeBig 40 18 (by kernel_rfl) w b o (rqC q a n c) ht rfl (by rfl)
theorem rq_row {w : World} {b : Nat} {q : PQ} {a : Option Addr} {n c : Nat} {T : TypeId} (h : Blk w b (rqC q a n c).toArray T) : rowC w b 0 18 = some (rqC q a n c) :=
  row_of_range w b (rqC q a n c) 0 (fun j v hv => by
    rw [h.cell (0 + j), Nat.zero_add, List.getElem?_toArray]
    exact hv)
theorem rq_thr {w : World} {b : Nat} {q : PQ} {a : Option Addr} {n c : Nat} {T : TypeId} (h : Blk w b (rqC q a n c).toArray T) : w.there b 0 18 := h.there (o := 0) (n := 18) (Nat.le_refl 18)
theorem rq_all {w : World} {b : Nat} {q q' : PQ} {a a' : Option Addr} {n n' c c' : Nat} {T : TypeId} (h : Blk w b (rqC q a n c).toArray T) : Blk (w.setCells b 0 (rqC q' a' n' c')) b (rqC q' a' n' c').toArray T := h.setAll _ rfl
theorem Try.store_q0 (w : World) (b o : Nat) (ht : w.there b o 18) : (storeBig 40 (.pointer (some ⟨b, o, none⟩)) (.agg #[.int .u64 0, .int .u64 0, .int .i64 0, .string { data := #[] }, .string { data := #[] }, .int .u64 0, .int .i64 0, .string { data := #[] }, .string { data := #[] }, .int .i64 0, .int .i64 0, .slice none 0 0, .int .i64 0, .int .i64 0, .int .i64 0, .int .i64 0, .string { data := #[] }, .int .i64 0])).run Try.prog w = .ok () (w.setCells b o (rqC pq0 none 0 0)) :=
  Try.store_q w b o pq0 none 0 0 ht
theorem Try.store_q1 (w : World) (b o : Nat) (x y : Nat) (ht : w.there b o 18) : (storeBig 40 (.pointer (some ⟨b, o, none⟩)) (.agg #[.int .u64 (x : Int), .int .u64 (y : Int), .int .i64 0, .string { data := #[] }, .string { data := #[] }, .int .u64 0, .int .i64 0, .string { data := #[] }, .string { data := #[] }, .int .i64 0, .int .i64 0, .slice none 0 0, .int .i64 0, .int .i64 0, .int .i64 0, .int .i64 0, .string { data := #[] }, .int .i64 0])).run Try.prog w = .ok () (w.setCells b o (rqC ⟨x, y, pc0⟩ none 0 0)) :=
  Try.store_q w b o ⟨x, y, pc0⟩ none 0 0 ht
/-- the results: a row of cells, and a value -/
theorem results_row_tmp {fn : Func} {P : Program} {p u : Tmp} {ty : TypeId} (h : fn.results = #[.cell p ty, .tmp u]) (tmps : Array Value) (w : World) (g : Nat) (t : TypeId) (cs : Array Value) (fr : Nat × Nat) (d : TypeDesc)
    (hp : tmps.getD p undef = .pointer (some ⟨g, 0, none⟩)) (hg : w.heap[g]? = some (.cells cs t fr))
    (hu : P.underlying ty = some d) (hd : (match d with | .struct _ | .array _ _ => true | _ => false) = true) (hi : (P.info? ty).map (·.size) = some cs.size) (x : Value) (hx : tmps.getD u undef = x) :
    (results fn tmps).run P w = .ok (.tuple #[.agg cs, x]) w := by
  rw [results_cell_tmp h, hp, hx]
  simp [asAddr, run_loadVar_row w g t ty cs fr d hg hu hd hi]
attribute [local go_sem ↓] exec_load_q exec_store_q
attribute [local go_sem] Try.load_q row_drew Try.store_q Try.store_q0 Try.store_q1

theorem litC_zero : LitC pc0 := ⟨by simp [pc0], by simp [pc0], LitS_zero⟩
theorem wfC_zero : WfC pc0 := ⟨I64_zero, by simp [pc0, M64], I64_zero, WfS_zero⟩
/-- bytes that came in -/
structure SlQ (w : World) (a : Option Addr) (l : List UInt8) (cap : Nat) : Prop where
  bytes : Bytes w a l
  nil : a = none → l.length = 0 ∧ cap = 0
theorem SlQ.step {w w' : World} {a : Option Addr} {l : List UInt8} {cap : Nat} (h : SlQ w a l cap) (hs : Step [] w w') : SlQ w' a l cap := ⟨h.bytes.step hs (by simp), h.nil⟩
/-- what Of hands back -/
def CmdOf (l : List UInt8) (w : World) (en : Ending) (w' : World) : Prop :=
  Step [] w w' ∧ ∃ (q : PQ) (a : Option Addr) (k : Nat) (er : Int), en = .returned (.tuple #[.agg (rqC q a q.c.sp.ds.length k).toArray, .int .i64 er]) ∧ TxS w' a q.c.sp.ds ∧ (a = none → q.c.sp.ds.length = 0 ∧ k = 0) ∧ LitC q.c ∧ WfC q.c ∧ q.cl < M64 ∧ q.no < M64
    ∧ (er = 0 → l = reqB q ∧ okK q.c.kd ∧ onlyC q.c = q.c ∧ l.length ≤ 900) ∧ (er ≠ 0 → q = pq0 ∧ (900 < l.length → er = 15))

set_option maxRecDepth 20000 in
set_option maxHeartbeats 2000000 in
theorem cmdOf_any (a : Option Addr) (cap : Nat) (l : List UInt8) (w : World) (hS : SlQ w a l cap) (hlen : l.length ≤ 70368744177664) :
    Calls Try.prog 15 #[.slice a l.length cap] w (CmdOf l w) := by
  have hb := Blk.new w (rqC pq0 none 0 0).toArray 40
  have hst := (Step.refl [] w).alloc (.cells (rqC pq0 none 0 0).toArray 40)
  have hS1 := hS.step hst
  obtain ⟨W, hWW⟩ : ∃ W, w.alloc (.cells (rqC pq0 none 0 0).toArray 40) = W := ⟨_, rfl⟩
  obtain ⟨xb, hxb⟩ : ∃ xb, w.heap.size = xb := ⟨_, rfl⟩
  obtain ⟨n, hn⟩ : ∃ n, l.length = n := ⟨_, rfl⟩
  rw [hWW] at hb hst hS1
  rw [hxb] at hb
  have HN := Lib.hid hn
  rw [hn] at hlen ⊢
  have HWW := Lib.hid (show w.alloc (.cells #[.int .u64 0, .int .u64 0, .int .i64 0, .string { data := #[] }, .string { data := #[] }, .int .u64 0, .int .i64 0, .string { data := #[] }, .string { data := #[] }, .int .i64 0, .int .i64 0, .slice none 0 0, .int .i64 0, .int .i64 0, .int .i64 0, .int .i64 0, .string { data := #[] }, .int .i64 0] 40) = W ∧ w.heap.size = xb from And.intro hWW hxb)
  have HB := Lib.hid hb
  have HS := Lib.hid hst
  have HT := Lib.hid hS1
  clear hb hst hS1 hS hWW hn hxb
  by_cases hl : 900 < n
  · have hl2 : (900 : Int) < (n : Int) := by omega
    have t0 := rq_thr HB.out
    go_enter Try.func15, Try.ntmps15
    go_wp2_with (rw [HWW.out.1, HWW.out.2])
    have hfin : Blk (W.setCells xb 0 (rqC pq0 none 0 0)) xb (rqC pq0 none 0 0).toArray 40 := rq_all HB.out
    refine bodyPost_ret (v := .tuple #[.agg (rqC pq0 none 0 0).toArray, .int .i64 15]) (results_row_tmp rfl _ _ xb 40 _ (0, 0) _ rfl hfin Try.underlying40 rfl (by kernel_rfl) _ rfl) rfl ?_
    exact ⟨HS.out.setCells (.inr (Nat.le_of_eq HWW.out.2)) _ _, pq0, none, 0, 15, rfl, fun i hi => by simp [pq0, pc0, ps0] at hi, fun _ => ⟨rfl, rfl⟩, litC_zero, wfC_zero, by simp [pq0, M64], by simp [pq0, M64], (fun h => by cases h), fun _ => ⟨rfl, fun _ => rfl⟩⟩
  · have hl2 : ¬ (900 : Int) < (n : Int) := by omega
    go_enter Try.func15, Try.ntmps15
    go_wp2_with (rw [HWW.out.1, HWW.out.2])
    have HRd := Lib.hid (rread_arg a cap l W HT.out.nil HT.out.bytes (by rw [HN.out]; exact hlen))
    rw [HN.out] at HRd
    refine HRd.out.mono ?_
    rintro e w1 ⟨rb, db, rfl, hR1, hs1, hrb, hdb⟩
    have HS1 := Lib.hid hs1
    have HR1 := Lib.hid hR1
    have HLO := Lib.hid (And.intro hrb hdb)
    clear hs1 hR1 hrb hdb HRd
    go_wp2_with fail
    refine (rnum_rel rb db l 0 w1 HR1.out).mono ?_
    rintro e w2 ⟨x1, m1, e1, rfl, hL, hm, hx, hb, -⟩
    have HS2 := Lib.hid (HS1.out.then hL.2 (fun k hk => .inr (by simp at hk; subst hk; exact HLO.out.1)))
    have HR2 := Lib.hid hL.1
    have HX1 := Lib.hid hx
    have HM1 := Lib.hid hm
    have HB1 := Lib.hid hb
    clear hL hm hx hb HS1 HR1
    go_wp2_with fail
    refine (rnum_rel rb db m1 e1 w2 HR2.out).mono ?_
    rintro e w3 ⟨x2, m2, e2, rfl, hL, hm, hx, hb, -⟩
    have hs3 := HS2.out.then hL.2 (fun k hk => .inr (by simp at hk; subst hk; exact HLO.out.1))
    have hR3 := hL.1
    have HX2 := Lib.hid hx
    have HM2 := Lib.hid hm
    have HB2 := Lib.hid hb
    clear hL hm hx hb HS2 HR2
    have hb4 := Blk.new w3 (rqC pq0 none 0 0).toArray 40
    have hlt3 := hR3.lts'
    have t1 := rq_thr hb4
    have hs4 := ((Step.refl [] w3).alloc (.cells (rqC pq0 none 0 0).toArray 40)).setCells (b := w3.heap.size) (.inr (Nat.le_refl _)) (rqC ⟨x1, x2, pc0⟩ none 0 0) 0
    have hb5 : Blk _ w3.heap.size (rqC ⟨x1, x2, pc0⟩ none 0 0).toArray 40 := rq_all (q' := ⟨x1, x2, pc0⟩) (a' := none) (n' := 0) (c' := 0) hb4
    have t1 : (w3.alloc (.cells #[.int .u64 0, .int .u64 0, .int .i64 0, .string { data := #[] }, .string { data := #[] }, .int .u64 0, .int .i64 0, .string { data := #[] }, .string { data := #[] }, .int .i64 0, .int .i64 0, .slice none 0 0, .int .i64 0, .int .i64 0, .int .i64 0, .int .i64 0, .string { data := #[] }, .int .i64 0] 40)).there w3.heap.size 0 18 := t1
    obtain ⟨W4, hW4⟩ : ∃ W4, (w3.alloc (.cells (rqC pq0 none 0 0).toArray 40)).setCells w3.heap.size 0 (rqC ⟨x1, x2, pc0⟩ none 0 0) = W4 := ⟨_, rfl⟩
    rw [hW4] at hs4 hb5
    have hR4 := hR3.step hs4 (by simp) (by simp)
    obtain ⟨qb, hqb⟩ : ∃ qb, w3.heap.size = qb := ⟨_, rfl⟩
    have HW4 := Lib.hid (show (w3.alloc (.cells #[.int .u64 0, .int .u64 0, .int .i64 0, .string { data := #[] }, .string { data := #[] }, .int .u64 0, .int .i64 0, .string { data := #[] }, .string { data := #[] }, .int .i64 0, .int .i64 0, .slice none 0 0, .int .i64 0, .int .i64 0, .int .i64 0, .int .i64 0, .string { data := #[] }, .int .i64 0] 40)).setCells w3.heap.size 0 (rqC ⟨x1, x2, pc0⟩ none 0 0) = W4 ∧ w3.heap.size = qb from ⟨hW4, hqb⟩)
    have hWs := hs3.size
    have HXB := Lib.hid (show xb < W.heap.size ∧ W.heap.size ≤ qb from ⟨HB.out.lt, by omega⟩)
    rw [hqb] at hb5 hlt3
    have HQ := Lib.hid hb5
    have HLT := Lib.hid hlt3
    have HR4 := Lib.hid hR4
    have HS4 := Lib.hid (hs3.then hs4 (by simp))
    clear hb4 hs4 hb5 hW4 hR4 hs3 hR3 hqb hlt3 hWs
    go_wp2_with (rw [HW4.out.1, HW4.out.2])
    clear t1
    refine (rnum_rel rb db m2 e2 W4 HR4.out).mono ?_
    rintro e w5 ⟨x3, m3, e3, rfl, hL, hm, hx, hb, hz⟩
    have HS5 := Lib.hid (HS4.out.then hL.2 (fun k hk => .inr (by simp at hk; subst hk; exact HLO.out.1)))
    have HQ5 := Lib.hid (HQ.out.step hL.2 (by have := HLT.out.1; simp; omega))
    have HR5 := Lib.hid hL.1
    have HM3 := Lib.hid hm
    have HB3 := Lib.hid hb
    have HZ3 := Lib.hid hz
    clear hL hm hx hb hz HS4 HR4 HQ
    go_wp2_with fail
    refine (rerr_any rb db m3 e3 w5 HR5.out).mono ?_
    rintro e w6 ⟨rfl, rfl⟩
    have hcase : (e3 = 0 ∧ ¬ (x3 : Int) < 10) ∨ ((¬ e3 = 0 ∧ (x3 : Int) < 10) ∨ (e3 = 0 ∧ (x3 : Int) < 10)) := by
      by_cases h : e3 = 0
      · by_cases h2 : (x3 : Int) < 10
        · exact .inr (.inr ⟨h, h2⟩)
        · exact .inl ⟨h, h2⟩
      · exact .inr (.inl ⟨h, by rw [HZ3.out h]; decide⟩)
    rcases hcase with ⟨h3, h10⟩ | hcase
    · have t0 := rq_thr (HB.out.step HS5.out (by simp))
      go_wp2_with fail
      have hfin := rq_all (q' := pq0) (a' := none) (n' := 0) (c' := 0) (HB.out.step HS5.out (by simp))
      refine bodyPost_ret (v := .tuple #[.agg (rqC pq0 none 0 0).toArray, .int .i64 2]) (results_row_tmp rfl _ _ xb 40 _ (0, 0) _ rfl hfin Try.underlying40 rfl (by kernel_rfl) _ rfl) rfl ?_
      exact ⟨(HS.out.then HS5.out (by simp)).setCells (.inr (Nat.le_of_eq HWW.out.2)) _ _, pq0, none, 0, 2, rfl, fun i hi => by simp [pq0, pc0, ps0] at hi, fun _ => ⟨rfl, rfl⟩, litC_zero, wfC_zero, by simp [pq0, M64], by simp [pq0, M64], (fun h => by cases h), fun _ => ⟨rfl, fun h => by rw [HN.out] at h; exact absurd h hl⟩⟩
    · rcases hcase with ⟨h3, h10⟩ | ⟨h3, h10⟩
      all_goals
        have e0 : IntKind.i64.wrap (x3 : Int) = (x3 : Int) := by rw [IntKind.wrap_i64]; omega
        have HK := Lib.hid (show okK (x3 : Int) from ⟨by omega, by omega⟩)
        have f2 := HQ5.out.free 2
        have k2 : ∃ u, w5.cell? ⟨qb, 2, none⟩ = some u := ⟨_, HQ5.out.cell 2⟩
        obtain ⟨u, k2⟩ := k2
        go_wp2_with fail
        have hq6 : Blk (w5.setCell ⟨qb, 2, none⟩ (.int .i64 (x3 : Int))) qb (rqC ⟨x1, x2, pcK (x3 : Int) [] [] 0 0⟩ none 0 0).toArray 40 := HQ5.out.set 2 (.int .i64 (x3 : Int))
        have hs6 := (Step.refl [qb] w5).setCell (b := qb) (.inl (by simp)) 2 (.int .i64 (x3 : Int))
        have hr6 := HR5.out.stepM hs6 (by have := HLT.out.1; simp; omega) (fun h => by have := HLT.out.2 (by have := HM3.out; omega); simp; omega)
        have HSW := Lib.hid (HS5.out.then hs6 (fun k hk => .inr (by simp at hk; subst hk; exact HXB.out.2)))
        have HC6 := Lib.hid (fields_r rb db m3 e3 x1 x2 qb _ hr6 (by have := HLT.out.1; omega) (fun h => by have := HLT.out.2 (by have := HM3.out; omega); omega) (x3 : Int) HK.out hq6)
        have HSZ := Lib.hid HSW.out.size
        clear hq6 hs6 hr6 f2 k2 h3 e0
        refine HC6.out.mono ?_
        rintro e w7 ⟨c, a7, k7, m, e7, rfl, hR7, hs7, hb7, hck, hco, hcl, hcw, htx, hnil, hb⟩
        have HS7 := Lib.hid (HSW.out.then hs7 (fun k hk => .inr (by
          simp at hk
          rcases hk with rfl | rfl
          · exact HLO.out.1
          · exact HXB.out.2)))
        have HR7 := Lib.hid hR7
        have HQ7 := Lib.hid hb7
        have HC7 := Lib.hid (And.intro hck (And.intro hco (And.intro hcl (And.intro hcw (And.intro htx hnil)))))
        have HB7 := Lib.hid hb
        clear hR7 hs7 hb7 hck hco hcl hcw htx hnil hb HC6 HSW HS5 HQ5 HR5
        go_wp2_with fail
        refine (rend_any rb db m e7 w7 HR7.out).mono ?_
        rintro e w8 ⟨rfl, rfl⟩
        have HE := Lib.hid (show endR m e7 = 0 → e7 = 0 ∧ m = [] from fun h => by
          unfold endR at h
          split at h
          · cases h
          · rename_i hn2
            refine ⟨h, ?_⟩
            rcases Nat.eq_zero_or_pos m.length with h9 | h9
            · exact List.eq_nil_of_length_eq_zero h9
            · exact absurd ⟨h, h9⟩ hn2)
        generalize endR m e7 = er at *
        have t0 := rq_thr (HB.out.step HS7.out (by simp))
        by_cases h9 : er = 0
        · have r0 := rq_row HQ7.out
          have HX := Lib.hid (HE.out h9)
          subst h9
          go_wp2_with fail
          have hfin := rq_all (q' := ⟨x1, x2, c⟩) (a' := a7) (n' := c.sp.ds.length) (c' := k7) (HB.out.step HS7.out (by simp))
          refine bodyPost_ret (v := .tuple #[.agg (rqC ⟨x1, x2, c⟩ a7 c.sp.ds.length k7).toArray, .int .i64 0]) (results_row_tmp rfl _ _ xb 40 _ (0, 0) _ rfl hfin Try.underlying40 rfl (by kernel_rfl) _ rfl) rfl ?_
          have hst := (Step.refl [xb] w7).setCells (b := xb) (.inl (by simp)) (rqC ⟨x1, x2, c⟩ a7 c.sp.ds.length k7) 0
          refine ⟨(HS.out.then HS7.out (by simp)).setCells (.inr (Nat.le_of_eq HWW.out.2)) _ _, ⟨x1, x2, c⟩, a7, k7, 0, rfl, ?_, HC7.out.2.2.2.2.2.1, HC7.out.2.2.1, HC7.out.2.2.2.1, HX1.out, HX2.out, fun _ => ?_, fun h => absurd rfl h⟩
          · refine HC7.out.2.2.2.2.1.step' hst (fun hl0 b off hab => ?_)
            have hnb := HC7.out.2.2.2.2.2.2 hl0 b off hab
            have hsz6 : W.heap.size ≤ (w5.setCell ⟨qb, 2, none⟩ (.int .i64 (x3 : Int))).heap.size := HSZ.out
            have := HXB.out.1
            simp
            omega
          · obtain ⟨hz7, hm7⟩ := HX.out
            obtain ⟨hz3, hm3⟩ := HB7.out hz7
            obtain ⟨hz2, hm2⟩ := HB3.out hz3
            obtain ⟨hz1, hm1⟩ := HB2.out hz2
            obtain ⟨-, hl0⟩ := HB1.out hz1
            refine ⟨?_, by have := HC7.out.1; show okK c.kd; rw [this]; exact HK.out, HC7.out.2.1, by rw [HN.out]; omega⟩
            rw [hl0, hm1, hm2, hm3, hm7, List.append_nil]
            unfold reqB cmdB
            rw [HC7.out.1]
            simp
        · go_wp2_with fail
          have hfin := rq_all (q' := pq0) (a' := none) (n' := 0) (c' := 0) (HB.out.step HS7.out (by simp))
          refine bodyPost_ret (v := .tuple #[.agg (rqC pq0 none 0 0).toArray, .int .i64 er]) (results_row_tmp rfl _ _ xb 40 _ (0, 0) _ rfl hfin Try.underlying40 rfl (by kernel_rfl) _ rfl) rfl ?_
          exact ⟨(HS.out.then HS7.out (by simp)).setCells (.inr (Nat.le_of_eq HWW.out.2)) _ _, pq0, none, 0, er, rfl, fun i hi => by simp [pq0, pc0, ps0] at hi, fun _ => ⟨rfl, rfl⟩, litC_zero, wfC_zero, by simp [pq0, M64], by simp [pq0, M64], fun h => absurd h h9, fun _ => ⟨rfl, fun h => by rw [HN.out] at h; exact absurd h hl⟩⟩
end Go.Proofs.Ytdfkagpnfgmbeaa
