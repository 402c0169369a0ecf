/- Several texts in one: DoI, DoJ, IntsIn, Open, NetO2, Marks, LoopM, Ph, RelV, RoundQuiet, NPl. -/
import Derived.Test.YtminpglkipnhcaaNpB
import Derived.Deep.CutBlock
import Derived.Deep.LoopGhost
import Derived.Test.YtminpglkipnhcaaNpC
import Derived.Test.YtminpglkipnhcaaNpD
import Derived.Test.YtminpglkipnhcaaIntsB
import Derived.Test.YtminpglkipnhcaaRows
import Derived.WalkKit
import Derived.ProofKit
import Derived.OpenShut
import Derived.ChangeArms
import Derived.Deep.Fields
import Derived.Deep.SlicePairs
import Derived.Test.YtminpglkipnhcaaSeqG
import Derived.Test.YtminpglkipnhcaaSeqNone
import Derived.Test.YtminpglkipnhcaaRel
import Derived.Test.YtminpglkipnhcaaSep
import Derived.Test.YtminpglkipnhcaaBlocks
import Derived.Sort.QuietThIn
import Derived.TacticsIn
import Derived.RangeFuncCalls
import Derived.Outline
section
namespace Go.Proofs.Ytminpglkipnhcaa
set_option linter.unusedVariables false
set_option linter.unusedSimpArgs false
open Go.RowKit
attribute [local go_sem ↓] exec_load_m exec_store_m
attribute [local go_sem] Try.load_m row_drew Try.store_m
section
variable {w0 w : World} {nb mb mo q : Nat} {T : List Tm} {X : List Ms} {n : Nat} {f : PK → Option Bool} {P : List (Int × Int)} {XO : List (Nat × Obj)}
set_option maxRecDepth 100000 in
set_option maxHeartbeats 4000000 in
theorem do_copy (k i j : Int) (u : Bool) (x : Ms) (M : PM) (h : Rd w0 nb mb mo q T X n f P XO w) (hx : Good w0 x M) (hk : ¬ (0 ≤ k ∧ k ≤ 8)) (hq : q ≤ 150) :
    Calls Try.prog 11 #[.pointer (some ⟨nb, 0, none⟩), .pointer (some ⟨mo, 0, none⟩), .agg (actC k i j u x).toArray] w fun e w' => e = .returned (.bool true) ∧ RdE w0 nb mb mo (q + 1) XO w' := by
  obtain ⟨N, hN⟩ : ∃ N, T.length = N := ⟨_, rfl⟩
  have HKK := Lib.hid hk
  clear hk
  have HH := Lib.hid h
  have hzv := zeroM
  unfold msV at hzv
  have hb := Blk.new w (actC k i j u x).toArray 43
  have hs := (Step.refl [] w).alloc (.cells (actC k i j u x).toArray 43)
  obtain ⟨W, hW⟩ : ∃ W, w.alloc (.cells (actC k i j u x).toArray 43) = W := ⟨_, rfl⟩
  obtain ⟨b5, hb5⟩ : ∃ b, w.heap.size = b := ⟨_, rfl⟩
  have HW := Lib.hid (And.intro hW hb5)
  rw [hW] at hb hs
  rw [hb5] at hb
  have hst := h.st.add hs [(b5, .cells (actC k i j u x).toArray 43 (0, 0))] (fun y hy => by
    simp only [List.mem_cons, List.not_mem_nil, or_false] at hy
    subst hy
    exact ⟨Nat.le_of_eq hb5, hb⟩)
  have hR : Rd w0 nb mb mo q T X n f P ([(b5, .cells (actC k i j u x).toArray 43 (0, 0))] ++ XO) W := ⟨hst, h.rx, h.wr, h.n64, h.nq, h.pq⟩
  have HR := Lib.hid hR
  have HBK := Lib.hid hb
  have HGX := Lib.hid hx
  obtain ⟨c0, c1, c2, c3, c5, c6⟩ := act_cells hb
  obtain ⟨am, cm, pv, hm⟩ := hR.mod
  have m0 := hm.cell 0
  simp only [List.getElem?_toArray, List.getElem?_cons_zero] at m0
  rw [hN] at m0
  have h64 := h.n64
  rw [hN] at h64
  have ltb := hb.lt
  have ltm := hm.lt
  have HNN := Lib.hid hN
  clear h hx hW hb5 hb hs hst hR hm hN
  go_enter Try.func11, Try.ntmps11
  go_wp2_with fail
  rw [HW.out.1, HW.out.2]
  go_cut [7] from 21 to 33 (fun a wx => ∃ th : Bool, a = .bool th ∧ (th = true → ∃ m : Nat, i = (m : Int) ∧ m < N) ∧ Step [] W wx)
  case first =>
    have hnn : Nonempty (ClsW (Step [] W.drew)) := ⟨⟨_, Step.refl _ _⟩⟩
    have d1 : ∀ y : ClsW (Step [] W.drew), y.val.cell? ⟨b5, 1, none⟩ = some (.int .i64 i) := fun y => (y.ok.cell ltb (by simp)).trans c1
    have d2 : ∀ y : ClsW (Step [] W.drew), y.val.cell? ⟨mo, 0, none⟩ = some (.slice am N cm) := fun y => (y.ok.cell ltm (by simp)).trans m0
    have hi : (∃ m : Nat, i = (m : Int) ∧ m < N) ∨ (0 ≤ i ∧ ¬ i < (N : Int)) ∨ (¬ 0 ≤ i) := by
      by_cases h1 : 0 ≤ i
      · by_cases h2 : i < (N : Int)
        · exact .inl ⟨i.toNat, by omega, by omega⟩
        · exact .inr (.inl ⟨h1, h2⟩)
      · exact .inr (.inr h1)
    rcases hi with ⟨m, rfl, hmN⟩ | ⟨hi1, hi2⟩ | hi1
    · have q1 : decide ((0 : Int) ≤ (m : Int)) = true := by simp
      have q2 : (m : Int) < (N : Int) := by omega
      refine region_cls (G := Step [] W.drew) (by kernel_rfl) (by kernel_rfl) (Step.refl _ _) ?_
      repeat (go_big_quiet_step (fail))
      refine wpQuiet_nil ?_
      rintro w2 ⟨⟨w2i, hw2⟩, he⟩
      have he' : w2 = w2i := he
      subst he'
      clear he
      go_wp2_with fail
      go_meet
      case rel => exact ⟨true, rfl, fun _ => ⟨m, rfl, hmN⟩, (Step.refl [] W).drew.then hw2 (by simp)⟩
    · have p1 : decide ((0 : Int) ≤ i) = true := by simpa using hi1
      have p2 : ¬ i < (N : Int) := hi2
      refine region_cls (G := Step [] W.drew) (by kernel_rfl) (by kernel_rfl) (Step.refl _ _) ?_
      repeat (go_big_quiet_step (fail))
      refine wpQuiet_nil ?_
      rintro w2 ⟨⟨w2i, hw2⟩, he⟩
      have he' : w2 = w2i := he
      subst he'
      clear he
      go_wp2_with fail
      go_meet
      case rel => exact ⟨false, rfl, fun h => (by cases h), (Step.refl [] W).drew.then hw2 (by simp)⟩
    · have p1 : decide ((0 : Int) ≤ i) = false := by simpa using hi1
      have p2 : ¬ (0 ≤ i) := hi1
      refine region_cls (G := Step [] W.drew) (by kernel_rfl) (by kernel_rfl) (Step.refl _ _) ?_
      repeat (go_big_quiet_step (fail))
      refine wpQuiet_nil ?_
      rintro w2 ⟨⟨w2i, hw2⟩, he⟩
      have he' : w2 = w2i := he
      subst he'
      clear he
      go_wp2_with fail
      go_meet
      case rel => exact ⟨false, rfl, fun h => (by cases h), (Step.refl [] W).drew.then hw2 (by simp)⟩
  case rest =>
    obtain ⟨th, rfl, hth, hw2⟩ := hcut
    obtain ⟨W3, hW3⟩ : ∃ W3, wc.alloc (.cells (msC ms0).toArray 31) = W3 := ⟨_, rfl⟩
    obtain ⟨b8, hb8⟩ : ∃ b, wc.heap.size = b := ⟨_, rfl⟩
    have H3 := Lib.hid (And.intro hW3 hb8)
    have HS2 := Lib.hid hw2
    have HTH := Lib.hid hth
    clear hW3 hb8 hw2 hth c0 c1 c2 c3 c5 c6 m0
    go_upto_if 34 with fail
    rw [H3.out.1, H3.out.2]
    go_cut [8] from 35 to 42 (fun a wx => a = .pointer (some ⟨b8, 0, none⟩) ∧ Rd w0 nb mb mo q T X n f P ((b5, .cells (actC k i j u x).toArray 43 (0, 0)) :: XO) wx)
    case first =>
      cases th with
      | false =>
        go_wp2_with fail
        go_meet
        case rel => exact ⟨rfl, HR.out.st.step (by rw [← H3.out.1]; exact HS2.out.alloc _), HR.out.rx, HR.out.wr, HR.out.n64, HR.out.nq, HR.out.pq⟩
      | true =>
        obtain ⟨m, hm, hmN⟩ := HTH.out rfl
        subst hm
        have q2 : (m : Int) < (N : Int) := by omega
        obtain ⟨xx, hxx⟩ : ∃ xx, X.getD m ms0 = xx := ⟨_, rfl⟩
        have hs3 : Step [] W W3 := by rw [← H3.out.1]; exact HS2.out.alloc _
        obtain ⟨hm3, hbm3, hsm3⟩ := box_m wc.drew xx
        have hst0 := Try.store_m _ _ _ xx hm3
        have hW3d : wc.drew.alloc (.cells (msC ms0).toArray 31) = W3.drew := by rw [← H3.out.1]; rfl
        have hb8d : wc.drew.heap.size = b8 := H3.out.2
        rw [hW3d, hb8d] at hst0 hbm3 hsm3
        obtain ⟨W4, hW4⟩ : ∃ W4, W3.drew.setCells b8 0 (msC xx) = W4 := ⟨_, rfl⟩
        rw [hW4] at hst0 hsm3 hbm3
        have hs4 : Step [] W W4 := (HS2.out.drew).then hsm3 (by simp)
        have HS4 := Lib.hid hs4
        obtain ⟨g, o, c, pv, hmo, hgl, hrow⟩ := HR.out.row m (by rw [HNN.out]; exact hmN)
        rw [hxx] at hrow
        have n0 := (hmo.step hs3 (by simp)).drew.cell 0
        simp only [List.getElem?_toArray, List.getElem?_cons_zero] at n0
        rw [HNN.out] at n0
        have n1 := (HBK.out.step hs3 (by simp)).drew.cell 1
        have n2 := row_step hrow hgl hs3.drew (by simp)
        clear hmo hrow hs4 hW4 hm3 hbm3 hsm3 hs3 hW3d hb8d hxx
        go_wp2_with fail
        refine wp_region_still_tail 8 (by kernel_rfl) (by kernel_rfl) ?_
        simp only [List.take_succ_cons, List.take_zero, List.drop_succ_cons, List.drop_zero]
        refine wpStill_of_quiet _ _ ?_
        have hne : Nonempty (ClsW (fun X => X = W3.drew)) := ⟨⟨_, rfl⟩⟩
        have d1 : ∀ x : ClsW (fun X => X = W3.drew), x.val.cell? ⟨mo, 0, none⟩ = some (.slice (some ⟨g, o, none⟩) N c) := fun x => by rw [x.ok]; exact n0
        have d4 : ∀ x : ClsW (fun X => X = W3.drew), x.val.cell? ⟨b5, 1, none⟩ = some (.int .i64 (m : Int)) := fun x => by rw [x.ok]; exact n1
        have d5 : ∀ x : ClsW (fun X => X = W3.drew), rowC x.val g (o + m * 11) 11 = some (msC xx) := fun x => by rw [x.ok]; exact n2
        have q3 : (0 : Int) ≤ (m : Int) := by omega
        repeat (go_big_quiet_step (fail))
        refine wpQuiet_nil ?_
        change wpList _ _ _ _ _ W3.drew
        clear hne d1 d4 d5 n0 n1 n2 hgl
        go_wp2_with fail
        go_meet
        case rel => exact ⟨rfl, HR.out.st.step HS4.out, HR.out.rx, HR.out.wr, HR.out.n64, HR.out.nq, HR.out.pq⟩
    case rest =>
      obtain ⟨rfl, hR4⟩ := hcut
      have HR4 := Lib.hid hR4
      obtain ⟨c0, c1, c2, c3, c5, c6⟩ := act_cells (HR4.out.st.blk (b := b5) (C := (actC k i j u x).toArray) (T' := 43) (.head _))
      have hltW4 := (HR4.out.st.blk (b := b5) (C := (actC k i j u x).toArray) (T' := 43) (.head _)).lt
      clear hR4 H3 HS2 HTH
      have hk := HKK.out
      have n0 : (k == 0) = false := by simp; omega
      have n1 : (k == 1) = false := by simp; omega
      have n2 : (k == 2) = false := by simp; omega
      have n3 : (k == 3) = false := by simp; omega
      have n4 : (k == 4) = false := by simp; omega
      have n5 : (k == 5) = false := by simp; omega
      have n6 : (k == 6) = false := by simp; omega
      have n7 : (k == 7) = false := by simp; omega
      have n8 : (k == 8) = false := by simp; omega
      have HCO := Lib.hid (HR4.out.st.copy HR4.out.n64)
      rw [HNN.out] at HCO
      have hnq := HR4.out.nq
      clear hk
      go_wp2_with fail
      refine HCO.out.mono ?_
      rintro e w6 ⟨cb, cm, lv, L, rfl, hL, hN6, hs6⟩
      have HCW := Lib.hid (wall_up 1 2 w6 hN6 (by omega) (by omega) (by omega) (by omega) (by decide) (by decide))
      have HS6 := Lib.hid (And.intro hL hs6)
      have HN6 := Lib.hid hN6
      clear hL hN6 hs6 c0 c1 c2 c3 c5 c6 n0 n1 n2 n3 n4 n5 n6 n7 n8
      go_wp2_with fail
      refine HCW.out.mono ?_
      rintro e w7 ⟨rfl, hN7, hs7⟩
      obtain ⟨f', hf'⟩ : ∃ f', upd f (pk 1 2 (by decide) (by decide)) (some true) = f' := ⟨_, rfl⟩
      rw [hf'] at hN7
      have HN7 := Lib.hid hN7
      have HS7 := Lib.hid (HS6.out.2.then hs7 (fun k hk => .inr (by simp at hk; subst hk; exact HN6.out.low2)))
      have HL := Lib.hid HS6.out.1
      clear hf' hN7 hs7
      go_wp2_with fail
      go_loopg [290] N (fun r c wr => Step [] wc wr ∧ ∃ lv L, L.length = r ∧ Nt wr wc.heap.size cb cm lv L (n + 1) f')
      case atStart => exact ⟨HS7.out, lv, L, HL.out, HN7.out⟩
      case round =>
        obtain ⟨hs, lv, L, hL, hN⟩ := hrel
        have HH := Lib.hid (And.intro hs (And.intro hL hN))
        by_cases hz : 0 < gk
        · have hcl := lose_yes wc.heap.size cb cm lv L (n + 1) f' 0 wr hN (by rw [hL]; exact hz)
          have HCL := Lib.hid hcl
          clear hs hL hN hcl
          go_wp2_with fail
          refine HCL.out.mono ?_
          rintro e w8 ⟨rfl, lv', h1, h2, h3⟩
          have HP := Lib.hid (show Step [] wc w8 ∧ ∃ lv L, L.length = gk - 1 ∧ Nt w8 wc.heap.size cb cm lv L (n + 1) f' from ⟨HH.out.1.then h2 (fun k hk => .inr (by
            rcases List.mem_cons.1 hk with rfl | hk
            · exact HH.out.2.2.low1
            · exact owns_base HH.out.2.2.own k hk)), lv', L.eraseIdx 0, by rw [List.length_eraseIdx, if_pos (by rw [HH.out.2.1]; exact hz), HH.out.2.1], h1⟩)
          clear h1 h2 h3
          go_wp2_with fail
          go_roundg (gk - 1)
          case measure => omega
          case rel => exact HP.out
        · have hz0 : gk = 0 := by omega
          have hcl := lose_no wc.heap.size cb cm lv L (n + 1) f' 0 wr hN (by unfold hasI; rw [hL, hz0]; rfl)
          have HCL := Lib.hid hcl
          have hln := len_any wc.heap.size cb cm lv L (n + 1) f' wr hN
          rw [hL, hz0] at hln
          have HLN := Lib.hid hln
          clear hs hL hN hcl hln
          go_wp2_with fail
          refine HCL.out.mono ?_
          rintro e w8 ⟨rfl, rfl⟩
          go_wp2_with fail
          refine HLN.out.mono ?_
          rintro e w9 ⟨rfl, hs9⟩
          have hS9 := HR4.out.st.step (HH.out.1.then hs9 (by simp))
          have HF := Lib.hid (show RdE w0 nb mb mo (q + 1) XO w9 from ⟨_, _, _, _, _, ⟨hS9.less (fun y hy => .tail _ hy), HR4.out.rx, HR4.out.wr, HR4.out.n64, Nat.le_succ_of_le HR4.out.nq, Nat.le_succ_of_le HR4.out.pq⟩⟩)
          clear hs9 hS9
          go_wp2_with fail
          go_ret
          exact ⟨rfl, HF.out⟩
end
end Go.Proofs.Ytminpglkipnhcaa
end

section
namespace Go.Proofs.Ytminpglkipnhcaa
set_option linter.unusedVariables false
open Go.RowKit
theorem do_any {w0 w : World} {nb mb mo q : Nat} {XO : List (Nat × Obj)} (k i j : Int) (u : Bool) (x : Ms) (M : PM) (h : RdE w0 nb mb mo q XO w) (hx : Good w0 x M) (hwi : (Lit.int .i64 i).wf = true) (hwj : (Lit.int .i64 j).wf = true) (hq : q ≤ 150) :
    Calls Try.prog 11 #[.pointer (some ⟨nb, 0, none⟩), .pointer (some ⟨mo, 0, none⟩), .agg (actC k i j u x).toArray] w fun e w' => e = .returned (.bool true) ∧ RdE w0 nb mb mo (q + 1) XO w' := by
  obtain ⟨T, X, n, f, P, h⟩ := h
  by_cases h0 : k = 0 ∨ k = 1 ∨ k = 2
  · exact do_send k i j u x M h hx h0
  by_cases h3 : k = 3
  · exact do_take k i j u x M h hx h3
  by_cases h4 : k = 4
  · exact do_lose k i j u x M h hx h4
  by_cases h5 : k = 5
  · exact do_twice k i j u x M h hx h5
  by_cases h6 : k = 6
  · exact do_last k i j u x M h hx h6
  by_cases h7 : k = 7
  · exact do_wall k i j u x M h hx h7 hwi hwj hq
  by_cases h8 : k = 8
  · exact do_forget k i j u x M h hx h8
  · exact do_copy k i j u x M h hx (by omega) hq
end Go.Proofs.Ytminpglkipnhcaa
end

section
namespace Go.Proofs.Ytminpglkipnhcaa
set_option linter.unusedVariables false
open Go.RowKit

theorem IsRow.ints {w : World} {a : Option Addr} {len cap : Nat} {z : List Int} (h : IsRow .i64 w a len cap z) :
    ∃ l : List Int, l.length = len ∧ Ints w a l ∧ (∀ x ∈ l, IsI x) ∧ (a = none → len = 0 ∧ cap = 0) ∧ len ≤ maxLen := by
  rcases h with ⟨rfl, rfl, rfl, rfl⟩ | ⟨x, rfl, hl, hm, hz, hcell, hw⟩
  · exact ⟨[], rfl, fun i hi => by simp at hi, fun x hx => by simp at hx, fun _ => ⟨rfl, rfl⟩, Nat.zero_le _⟩
  · refine ⟨z.take len, by simp; omega, fun i hi => ?_, fun y hy => hw y (List.mem_of_mem_take hy), fun h => (nomatch h), by omega⟩
    have hi2 : i < len := by simp at hi; omega
    have hc := hcell i (by omega)
    obtain ⟨b, off, spot⟩ := x
    have hspot : spot = none := by simpa [Addr.add] using World.cell?_spot (hcell 0 (by omega))
    subst hspot
    rw [getD_take _ _ _ _ hi2]
    have hc' : w.cell? ⟨b, off + i, none⟩ = some (.int .i64 (z.getD i 0)) := by rw [← add_plain]; exact hc
    exact ⟨b, off, rfl, World.block_lt_of_cell? w _ hc', hc'⟩
end Go.Proofs.Ytminpglkipnhcaa
end

section
namespace Go.Proofs.Ytminpglkipnhcaa
open Go.ChangeShapes Go.WideShapes Go.RowKit Go.Deep
set_option linter.unusedVariables false
section
variable {H : Type} {enc : TypeId × Value → H} {P : Program} {w : World} {base : Nat} {spare : Nat → Bool} {held : Bool}

/-- an argument that is a struct of one-cell fields: its cells, each with its own reading -/
theorem struct_fields {r : Reach} {b0 : Nat} {t : TypeId} {fs : Array Field} {v : Value} {d : DataW H} {p : List MemPlace} (hs : P.underlying t = some (.struct fs)) (hone : oneCellFields P fs = true) (hC : P.cellsOf t = fs.size)
    (hv : Value.okWide P w r b0 t v) (h : DataW.Trod enc P w base spare held t v d p) :
    ∃ (cs : Array Value) (n : Nat), v = .agg cs ∧ cs.size = fs.size ∧ ∀ (j : Nat) (f : Field), fs[j]? = some f → ∃ (u : Value) (y : DataW H × List MemPlace), cs[j]? = some u ∧ DataW.trod enc P w base spare held n f.type [u] = some y := by
  obtain ⟨cs, rfl, hsz⟩ := okWide_struct hs hv
  obtain ⟨fuel, hf⟩ := h
  obtain ⟨xs, n, _, _, hlen, hxl, hat⟩ := DataW.trod_struct hs hf
  have hlen' : cs.toList.length = fs.size := by rw [← hC]; simpa [Value.cells] using hlen
  refine ⟨cs, n, rfl, by omega, fun j f hj => ?_⟩
  have hjl : j < fs.size := (Array.getElem?_eq_some_iff.1 hj).1
  obtain ⟨ho, hk⟩ := hone_of hone j f hj
  have h1 := hat j f hj
  rw [ho, hk] at h1
  have hcells : (Value.agg cs).cells.toList = cs.toList := rfl
  rw [hcells, List.drop_eq_getElem_cons (by omega)] at h1
  have hys : xs[j]? = some (xs[j]'(by omega)) := List.getElem?_eq_getElem (by omega)
  refine ⟨cs[j]'(by omega), xs[j]'(by omega), by simp [show j < cs.size by omega], ?_⟩
  rw [← hys, ← h1]
  rfl

theorem int_field {t : TypeId} {k : IntKind} {n : Nat} {u : Value} {y : DataW H × List MemPlace} (ht : P.underlying t = some (.int k)) (h : DataW.trod enc P w base spare held n t [u] = some y) : ∃ x : Int, u = .int k x ∧ (Lit.int k x).wf = true := by
  obtain ⟨x, h1, _, h3⟩ := DataW.trod_int ht h
  exact ⟨x, by simpa using h1, h3⟩

theorem six_of {cs : Array Value} (h : cs.size = 6) {a b c d e f : Value} (h0 : cs[0]? = some a) (h1 : cs[1]? = some b) (h2 : cs[2]? = some c) (h3 : cs[3]? = some d) (h4 : cs[4]? = some e) (h5 : cs[5]? = some f) : cs = #[a, b, c, d, e, f] := by
  apply Array.ext_getElem?
  intro i
  match i with
  | 0 => simpa using h0
  | 1 => simpa using h1
  | 2 => simpa using h2
  | 3 => simpa using h3
  | 4 => simpa using h4
  | 5 => simpa using h5
  | n + 6 => rw [Array.getElem?_eq_none (by omega), Array.getElem?_eq_none (by simp)]
end
end Go.Proofs.Ytminpglkipnhcaa
end

section
namespace Go.Proofs.Ytminpglkipnhcaa
set_option linter.unusedVariables false
open Go.RowKit
/-- an act, as it lies in its cells, and what its message says -/
structure Ac where
  k : Int
  i : Int
  j : Int
  u : Bool
  x : Ms
  M : PM
def ac0 : Ac := ⟨0, 0, 0, false, ms0, pm0⟩
def acC (y : Ac) : List Value := actC y.k y.i y.j y.u y.x
structure AcOk (w : World) (y : Ac) : Prop where
  ok : ∃ D, MsOk w D y.x y.M
  wi : (Lit.int .i64 y.i).wf = true
  wj : (Lit.int .i64 y.j).wf = true
  wa : (Lit.int .i64 y.x.fr).wf = true
  wb : (Lit.int .i64 y.x.too).wf = true
def Acts (w : World) (a : Option Addr) (l : List Ac) : Prop := ∀ q, q < l.length → ∃ b off, a = some ⟨b, off, none⟩ ∧ b < w.heap.size ∧ rowC w b (off + q * 15) 15 = some (acC (l.getD q ac0)) ∧ AcOk w (l.getD q ac0)
/-- the block of an address -/
def aB (a : Option Addr) : List Nat := a.toList.map (·.block)
theorem in_aB (a : Option Addr) : In a (aB a) := fun b off s h => by subst h; simp [aB]
theorem bool_field {H : Type} {enc : TypeId × Value → H} {P : Program} {w : World} {base : Nat} {spare : Nat → Bool} {held : Bool} {t : TypeId} {n : Nat} {u : Value} {y : DataW H × List MemPlace} (ht : P.underlying t = some .bool) (h : DataW.trod enc P w base spare held n t [u] = some y) : ∃ x : Bool, u = .bool x := by
  obtain ⟨x, h1, _⟩ := DataW.trod_bool ht h
  exact ⟨x, by simpa using h1⟩
section
open Go.ChangeShapes Go.WideShapes Go.Deep
variable {H : Type} {enc : TypeId × Value → H} {w : World} {n : Nat} {y : DataW H × List MemPlace}
theorem bytes_field {v : Value} (h : DataW.trod enc Try.prog w 0 (fun _ => true) true n 29 [v] = some y) : ∃ a m c l, v = .slice a m c ∧ SlB w (aB a) a m c l := by
  have hrow : ∃ (da : Option Addr) (dn dc : Nat) (zs : List Int), v = .slice da dn dc ∧ IsRow .u8 w da dn dc zs := by
    rcases open_ints Try.underlying29 Try.underlying5 (by kernel_rfl) h with ⟨hcs, _⟩ | ⟨x, l, c, zs, hcs, _, hl, hm, hz, _, hcell, hwz⟩
    · exact ⟨none, 0, 0, [], by simpa using hcs, .inl ⟨rfl, rfl, rfl, rfl⟩⟩
    · exact ⟨some x, l, c, zs, by simpa using hcs, .inr ⟨_, rfl, hl, hm, by simpa using hz, hcell, hwz⟩⟩
  obtain ⟨da, dn, dc, zs, rfl, hr⟩ := hrow
  obtain ⟨bs, hbl, _, hb, hbn, _, _⟩ := hr.bytes
  exact ⟨da, dn, dc, bs, rfl, hbl, hb, hbn, in_aB _⟩
theorem ints_field {v : Value} (h : DataW.trod enc Try.prog w 0 (fun _ => true) true n 28 [v] = some y) : ∃ a m c l, v = .slice a m c ∧ SlI w (aB a) a m c l := by
  have hrow : ∃ (da : Option Addr) (dn dc : Nat) (zs : List Int), v = .slice da dn dc ∧ IsRow .i64 w da dn dc zs := by
    rcases open_ints Try.underlying28 Try.underlying3 (by kernel_rfl) h with ⟨hcs, _⟩ | ⟨x, l, c, zs, hcs, _, hl, hm, hz, _, hcell, hwz⟩
    · exact ⟨none, 0, 0, [], by simpa using hcs, .inl ⟨rfl, rfl, rfl, rfl⟩⟩
    · exact ⟨some x, l, c, zs, by simpa using hcs, .inr ⟨_, rfl, hl, hm, by simpa using hz, hcell, hwz⟩⟩
  obtain ⟨da, dn, dc, zs, rfl, hr⟩ := hrow
  obtain ⟨l, hl, hb, _, hbn, _⟩ := hr.ints
  exact ⟨da, dn, dc, l, rfl, hl, hb, hbn, in_aB _⟩
theorem entries_field {v : Value} (h : DataW.trod enc Try.prog w 0 (fun _ => true) true n 27 [v] = some y) : ∃ a m c l D, v = .slice a m c ∧ SlE w D a m c l := by
  rcases open_slice Try.underlying27 h with ⟨hcs, _⟩ | ⟨x, len, c, m, n, D, Pl, hcs, _, hl, hm, hmm, _, hi⟩
  · exact ⟨none, 0, 0, [], [], by simpa using hcs, SlE.none w⟩
  · have hv : v = .slice (some x) len c := by simpa using hcs
    subst hv
    have hmc : m = c := by simpa using hmm
    subst hmc
    have hce : Try.prog.cellsOf 45 = 4 := by kernel_rfl
    have each : ∀ i, i < len → ∃ q : En × PE, w.cell? (x.add (i * 4)) = some (.int .u64 (q.1.ix : Int)) ∧ w.cell? (x.add (i * 4 + 1)) = some (.int .u64 (q.1.tm : Int)) ∧ w.cell? (x.add (i * 4 + 2)) = some (.bool q.1.cf) ∧ w.cell? (x.add (i * 4 + 3)) = some (.slice q.1.da q.1.dn q.1.dc)
        ∧ EnOk w (aB q.1.da) q.1 q.2 := fun i hil => by
      obtain ⟨cs', h1, h2⟩ := hi i (by omega)
      rw [hce] at h1
      obtain ⟨_, hlen, hcell⟩ := World.cells?_some h1
      obtain ⟨xs, k, hk, hxy, _, hxl, hf⟩ := DataW.trod_struct Try.underlying45 h2
      match xs, hxl, cs', hlen with
      | [y0, y1, y2, y3], _, [v0, v1, v2, v3], _ =>
        have g0 := hf 0 _ rfl
        have g1 := hf 1 _ rfl
        have g2 := hf 2 _ rfl
        have g3 := hf 3 _ rfl
        have k3 : Try.prog.cellsOf 26 = 1 := by kernel_rfl
        have k4 : Try.prog.cellsOf 4 = 1 := by kernel_rfl
        have k5 : Try.prog.cellsOf 29 = 1 := by kernel_rfl
        simp [k3, k4, k5] at g0 g1 g2 g3
        obtain ⟨z0, rfl, hw0⟩ := int_field Try.underlying26 g0
        obtain ⟨z1, rfl, hw1⟩ := int_field Try.underlying26 g1
        obtain ⟨c2, rfl⟩ := bool_field Try.underlying4 g2
        have e0 := hcell 0 (by omega)
        have e1 := hcell 1 (by omega)
        have e2 := hcell 2 (by omega)
        have e3 := hcell 3 (by omega)
        rw [add_add] at e0 e1 e2 e3
        simp at e0 e1 e2 e3
        have hu0 : 0 ≤ z0 ∧ z0 ≤ 18446744073709551615 := by
          simp [Lit.wf, IntKind.min, IntKind.max, IntKind.bits, IntKind.signed] at hw0
          omega
        have hu1 : 0 ≤ z1 ∧ z1 ≤ 18446744073709551615 := by
          simp [Lit.wf, IntKind.min, IntKind.max, IntKind.bits, IntKind.signed] at hw1
          omega
        obtain ⟨m0, rfl⟩ : ∃ m0 : Nat, z0 = (m0 : Int) := ⟨z0.toNat, by omega⟩
        obtain ⟨m1, rfl⟩ : ∃ m1 : Nat, z1 = (m1 : Int) := ⟨z1.toNat, by omega⟩
        obtain ⟨da, dn, dc, bs, rfl, hb⟩ := bytes_field g3
        exact ⟨(⟨m0, m1, c2, da, dn, dc⟩, ⟨m0, m1, c2, bs⟩), e0, e1, e2, e3, rfl, rfl, rfl, hb⟩
    haveI : Inhabited (En × PE) := ⟨(en0, ⟨0, 0, false, []⟩)⟩
    obtain ⟨q, hq⟩ := choose_lt each
    obtain ⟨b, off, spot⟩ := x
    refine ⟨some ⟨b, off, spot⟩, len, m, (List.range len).map (fun i => (q i).2), b :: (List.range len).flatMap (fun i => aB (q i).1.da), rfl, (fun h => by cases h), (fun b' off' s' h => by cases h; simp), (List.range len).map (fun i => (q i).1), by simp, by simp, fun i hil => ?_, fun i x e hx he => ?_⟩
    · have hil' : i < len := by simpa using hil
      obtain ⟨h0, h1, h2, h3, _⟩ := hq i hil'
      have hspot : spot = none := by simpa [Addr.add] using World.cell?_spot (hq 0 (by omega)).1
      subst hspot
      rw [Go.Proofs.Ytminpglkipnhcaa.add_plain] at h0 h1 h2 h3
      have hg : ((List.range len).map (fun i => (q i).1)).getD i en0 = (q i).1 := by simp [List.getD, hil']
      rw [hg]
      exact ⟨b, off, rfl, World.block_lt_of_cell? w _ h0, h0, by rw [Nat.add_assoc]; exact h1, by rw [Nat.add_assoc]; exact h2, by rw [Nat.add_assoc]; exact h3⟩
    · have hil : i < len := by
        have := (List.getElem?_eq_some_iff.1 hx).1
        simpa using this
      simp [hil] at hx he
      subst hx he
      exact (hq i hil).2.2.2.2.mono (fun k hk => by simp only [List.mem_cons, List.mem_flatMap, List.mem_range]; exact .inr ⟨i, hil, hk⟩)
theorem msg_field {cs : List Value} (hlen : cs.length = 11) (h : DataW.trod enc Try.prog w 0 (fun _ => true) true n 31 cs = some y) : ∃ x M, cs = msC x ∧ (∃ D, MsOk w D x M) ∧ (Lit.int .i64 x.fr).wf = true ∧ (Lit.int .i64 x.too).wf = true := by
  obtain ⟨xs, k, hk, hxy, _, hxl, hf⟩ := DataW.trod_struct Try.underlying31 h
  have hxl' : xs.length = 11 := by simpa using hxl
  match xs, hxl', cs, hlen with
  | [y0, y1, y2, y3, y4, y5, y6, y7, y8, y9, y10], _, [v0, v1, v2, v3, v4, v5, v6, v7, v8, v9, v10], _ =>
    have g0 := hf 0 _ rfl
    have g1 := hf 1 _ rfl
    have g2 := hf 2 _ rfl
    have g3 := hf 3 _ rfl
    have g4 := hf 4 _ rfl
    have g5 := hf 5 _ rfl
    have g6 := hf 6 _ rfl
    have g7 := hf 7 _ rfl
    have g8 := hf 8 _ rfl
    have g9 := hf 9 _ rfl
    have g10 := hf 10 _ rfl
    have k2 : Try.prog.cellsOf 3 = 1 := by kernel_rfl
    have k3 : Try.prog.cellsOf 26 = 1 := by kernel_rfl
    have k4 : Try.prog.cellsOf 4 = 1 := by kernel_rfl
    have k5 : Try.prog.cellsOf 29 = 1 := by kernel_rfl
    have k6 : Try.prog.cellsOf 28 = 1 := by kernel_rfl
    have k7 : Try.prog.cellsOf 27 = 1 := by kernel_rfl
    simp [k2, k3, k4, k5, k6, k7] at g0 g1 g2 g3 g4 g5 g6 g7 g8 g9 g10
    obtain ⟨z0, rfl, hw0⟩ := int_field Try.underlying3 g0
    obtain ⟨z1, rfl, hw1⟩ := int_field Try.underlying3 g1
    obtain ⟨z2, rfl, hw2⟩ := int_field Try.underlying3 g2
    obtain ⟨z3, rfl, hw3⟩ := int_field Try.underlying26 g3
    obtain ⟨z4, rfl, hw4⟩ := int_field Try.underlying26 g4
    obtain ⟨z5, rfl, hw5⟩ := int_field Try.underlying26 g5
    obtain ⟨z6, rfl, hw6⟩ := int_field Try.underlying26 g6
    obtain ⟨c7, rfl⟩ := bool_field Try.underlying4 g7
    obtain ⟨ea, en, ec, es, De, rfl, he⟩ := entries_field g8
    obtain ⟨ma, mn, mc, ms, rfl, hm⟩ := ints_field g9
    obtain ⟨da, dn, dc, bs, rfl, hd⟩ := bytes_field g10
    refine ⟨⟨z0, z1, z2, z3, z4, z5, z6, c7, ea, en, ec, ma, mn, mc, da, dn, dc⟩, ⟨z0, z1, z2, z3, z4, z5, z6, c7, es, ms, bs⟩, rfl, ⟨De ++ (aB ma ++ aB da), rfl, rfl, rfl, rfl, rfl, rfl, rfl, rfl, he.mono (fun k hk => by simp [hk]), hm.mono (fun k hk => by simp [hk]), hd.mono (fun k hk => by simp [hk])⟩, hw1, hw2⟩
theorem open_acts {base : Nat} {v : Value} {d : DataW H} {p : List MemPlace} (ho : Value.okWide Try.prog w .any base 36 v) (h : DataW.Trod enc Try.prog w 0 (fun _ => true) true 36 v d p) :
    ∃ (a : Option Addr) (cap : Nat) (l : List Ac), v = .slice a l.length cap ∧ Acts w a l := by
  obtain ⟨a, len, cap, rfl⟩ := okWide_slice Try.underlying36 ho
  obtain ⟨fuel, hf⟩ := h
  rcases open_slice Try.underlying36 hf with ⟨hcs, _⟩ | ⟨x, l, c, m, n, D, Pl, hcs, _, hl, hm, hmm, _, hi⟩
  · simp [Value.cells] at hcs
    obtain ⟨rfl, rfl, rfl⟩ := hcs
    exact ⟨none, 0, [], rfl, fun i hi => by simp at hi⟩
  · simp [Value.cells] at hcs
    obtain ⟨rfl, rfl, rfl⟩ := hcs
    have hmc : m = cap := by simpa using hmm
    subst hmc
    have hce : Try.prog.cellsOf 43 = 15 := by kernel_rfl
    have each : ∀ i, i < len → ∃ q : Ac, (∀ j u, (acC q)[j]? = some u → w.cell? (x.add (i * 15 + j)) = some u) ∧ AcOk w q := fun i hil => by
      obtain ⟨cs', h1, h2⟩ := hi i (by omega)
      rw [hce] at h1
      obtain ⟨_, hlen, hcell⟩ := World.cells?_some h1
      obtain ⟨xs, k, hk, hxy, _, hxl, hf⟩ := DataW.trod_struct Try.underlying43 h2
      have hxl' : xs.length = 5 := by simpa using hxl
      match xs, hxl', cs', hlen with
      | [y0, y1, y2, y3, y4], _, v0 :: v1 :: v2 :: v3 :: rest, hlen =>
        have hr : rest.length = 11 := by simpa using hlen
        have g0 := hf 0 _ rfl
        have g1 := hf 1 _ rfl
        have g2 := hf 2 _ rfl
        have g3 := hf 3 _ rfl
        have g4 := hf 4 _ rfl
        have k2 : Try.prog.cellsOf 3 = 1 := by kernel_rfl
        have k4 : Try.prog.cellsOf 4 = 1 := by kernel_rfl
        have k5 : Try.prog.cellsOf 31 = 11 := by kernel_rfl
        simp [k2, k4, k5] at g0 g1 g2 g3 g4
        rw [List.take_of_length_le (by omega)] at g4
        obtain ⟨z0, rfl, hw0⟩ := int_field Try.underlying3 g0
        obtain ⟨z1, rfl, hw1⟩ := int_field Try.underlying3 g1
        obtain ⟨z2, rfl, hw2⟩ := int_field Try.underlying3 g2
        obtain ⟨c3, rfl⟩ := bool_field Try.underlying4 g3
        obtain ⟨xm, M, rfl, hok, hwa, hwb⟩ := msg_field hr g4
        refine ⟨⟨z0, z1, z2, c3, xm, M⟩, fun j u hu => ?_, hok, hw1, hw2, hwa, hwb⟩
        have hj : j < 15 := (List.getElem?_eq_some_iff.1 hu).1
        have e := hcell j hj
        rw [add_add] at e
        rw [e]
        exact hu
    haveI : Inhabited Ac := ⟨ac0⟩
    obtain ⟨q, hq⟩ := choose_lt each
    obtain ⟨b, off, spot⟩ := x
    refine ⟨some ⟨b, off, spot⟩, m, (List.range len).map q, by simp, fun i hil => ?_⟩
    have hil' : i < len := by simpa using hil
    have h0 := (hq i hil').1 0 _ rfl
    have hspot : spot = none := by simpa [Addr.add] using World.cell?_spot ((hq 0 (by omega)).1 0 _ rfl)
    subst hspot
    have hg : ((List.range len).map q).getD i ac0 = q i := by simp [List.getD, hil']
    rw [hg]
    rw [Go.Proofs.Ytminpglkipnhcaa.add_plain] at h0
    refine ⟨b, off, rfl, World.block_lt_of_cell? w _ h0, ?_, (hq i hil').2⟩
    exact row_of_range w b (acC (q i)) (off + i * 15) (fun j u hu => by
      have := (hq i hil').1 j u hu
      rw [Go.Proofs.Ytminpglkipnhcaa.add_plain] at this
      rw [Nat.add_assoc]
      exact this)
end
end Go.Proofs.Ytminpglkipnhcaa
end

section
namespace Go.Proofs.Ytminpglkipnhcaa
set_option linter.unusedVariables false
open Go.RowKit
def mks (Ds : List Nat) : List Deferred := Ds.map fun D => { target := .collected D, args := #[] }
theorem mks_cons (D : Nat) (Ds : List Nat) : mks (D :: Ds) = { target := .collected D, args := #[] } :: mks Ds := rfl
theorem mks_nil : mks [] = [] := rfl
/-- the marks' blocks are open, and empty -/
structure MarksOk (w : World) (Ds : List Nat) : Prop where
  nd : Ds.Nodup
  obj : ∀ D, D ∈ Ds → w.heap[D]? = some (.deferred (some []))
theorem MarksOk.nil (w : World) : MarksOk w [] := ⟨List.nodup_nil, fun D h => absurd h List.not_mem_nil⟩
theorem MarksOk.lt {w : World} {Ds : List Nat} (h : MarksOk w Ds) {D : Nat} (hD : D ∈ Ds) : D < w.heap.size := (Array.getElem?_eq_some_iff.1 (h.obj D hD)).1
theorem MarksOk.step {w w' : World} {Ds H : List Nat} (h : MarksOk w Ds) (hs : Step H w w') (hd : ∀ D, D ∈ Ds → D ∉ H) : MarksOk w' Ds :=
  ⟨h.nd, fun D hD => (hs.block D (h.lt hD) (hd D hD)).trans (h.obj D hD)⟩
theorem MarksOk.cons {w : World} {Ds : List Nat} {D : Nat} (h : MarksOk w Ds) (hD : w.heap[D]? = some (.deferred (some []))) (hn : D ∉ Ds) : MarksOk w (D :: Ds) :=
  ⟨List.nodup_cons.2 ⟨hn, h.nd⟩, fun k hk => (List.mem_cons.1 hk).elim (fun e => by rw [e]; exact hD) (h.obj k)⟩
theorem leaves_marks {F : Fence} {n : Nat} {P : Program} {fn : Func} {tmps : Array Value} {R : Ending → World → Prop} : ∀ (Ds : List Nat) (w : World), MarksOk w Ds →
    (∀ w', Step Ds w w' → LeavesIn F n P fn tmps R [] .returning w') → LeavesInM F n P fn tmps R (mks Ds) .returning w
  | [], w, _, h => h w (Step.refl _ _)
  | D :: Ds, w, hm, h => by
    have hput : Step [D] w (w.putObj D (.deferred none)) := step_put _
    refine ⟨by simp, .inl ⟨D, _, rfl, run_takeDeferred (hm.obj D (by simp)), leaves_marks Ds _ ?_ (fun w' hs => h w' ?_)⟩⟩
    · refine ⟨(List.nodup_cons.1 hm.nd).2, fun k hk => (hput.block k (hm.lt (List.mem_cons_of_mem _ hk)) ?_).trans (hm.obj k (List.mem_cons_of_mem _ hk))⟩
      intro e
      simp only [List.mem_cons, List.not_mem_nil, or_false] at e
      subst e
      exact (List.nodup_cons.1 hm.nd).1 hk
    · exact (hput.mono (G := D :: Ds) (fun k hk => by simp at hk; simp [hk])).then hs (fun k hk => .inl (List.mem_cons_of_mem _ hk))

theorem room_any {F : Fence} (hd : F.depth = none) (n : Nat) : F.room n := fun d h => by rw [hd] at h; cases h
/-- where nothing is asked of the depth, any depth serves -/
theorem YieldAt.depth {F : Fence} {m m' : Nat} {P : Program} {l : Nat} {args : Array Value} {W : World} {R : Ending → World → Prop} (hd : F.depth = none) (h : YieldAt F m P l args W R) : YieldAt F m' P l args W R := by
  obtain ⟨fn, tm, asg, bd, hy, h1, h2⟩ := h
  exact ⟨fn, tm, asg, bd, hy, h1, fun c cs _ => h2 c cs (room_any hd _)⟩
theorem RoundIn.depth {F : Fence} {m m' : Nat} {P : Program} {l : Nat} {f : FuncId} {tmps : Array Value} {asg bd : Code} {W : World} {R : Ending → World → Prop} (hd : F.depth = none) (h : RoundIn F m P l f tmps asg bd W R) : RoundIn F m' P l f tmps asg bd W R :=
  ⟨h.1, fun c cs _ => h.2 c cs (room_any hd _)⟩
theorem RoundIn.inner {F : Fence} {m m' : Nat} {P : Program} {l l' : Nat} {f : FuncId} {tmps : Array Value} {asg bd : Code} {W : World} {R : Ending → World → Prop} (hd : F.depth = none) (h : RoundIn F m P l f tmps asg bd W R) : RoundIn (F.inRound l') m' P l f tmps asg bd W R :=
  ⟨h.1, fun c cs _ => h.2 c cs (room_any hd _)⟩

theorem mem_drop_range {a b k : Nat} (h : k ∈ (List.range b).drop a) : a ≤ k ∧ k < b := by
  obtain ⟨i, hi, rfl⟩ := List.getElem_of_mem h
  simp only [List.length_drop, List.length_range] at hi
  simp only [List.getElem_drop, List.getElem_range]
  omega

/-- what an iterator that ranges over iterators keeps: the loop's invariant, over all blocks that no round made; its yield's box; its marks -/
structure Nest {α : Type} (J : List α → World → List Nat → Prop) (R : List Nat) (yb : Nat) (yv : Value) (T : TypeId) (s : List α) (Ds : List Nat) (w : World) (C : List Nat) : Prop where
  jj : J s w (gOf (yb :: Ds) C w.heap.size)
  live : Live w C
  kin : ∀ k, k ∈ yb :: Ds → k ∈ C
  rin : ∀ k, k ∈ R → k ∈ C
  yblk : Blk w yb #[yv] T
  marks : MarksOk w Ds
section
variable {α : Type} {J J' : List α → World → List Nat → Prop} {R : List Nat} {yb : Nat} {yv : Value} {T : TypeId} {s s' : List α} {Ds C H : List Nat} {w w' A B : World}
theorem Nest.step (h : Nest J R yb yv T s Ds w C) (hJ : ∀ s A B G G', J s A G → Step G A B → Fresh A G G' → Live B G' → J s B G') (hs : Step H w w') (hd : Dj C H) : Nest J R yb yv T s Ds w' C :=
  ⟨hJ s w w' _ _ h.jj (step_gOf hs hd) gOf_fresh gOf_live, fun k hk => Nat.lt_of_lt_of_le (h.live k hk) hs.size, h.kin, h.rin, h.yblk.step hs (hd yb (h.kin yb (by simp))), h.marks.step hs (fun D hD => hd D (h.kin D (List.mem_cons_of_mem _ hD)))⟩
theorem Nest.mark (h : Nest J R yb yv T s Ds w C) (hJ : ∀ s A B G G', J s A G → Step G A B → Fresh A G G' → Live B G' → J s B G') :
    Nest J R yb yv T s (w.heap.size :: Ds) (w.alloc (.deferred (some []))) (w.heap.size :: C) := by
  have hsz : (w.alloc (.deferred (some []))).heap.size = w.heap.size + 1 := World.size_alloc _ _
  have hst : ∀ G, Step G w (w.alloc (.deferred (some []))) := fun G => (Step.refl G w).alloc _
  have hlow : ∀ D, D ∈ Ds → D < w.heap.size := fun D hD => h.live D (h.kin D (List.mem_cons_of_mem _ hD))
  refine ⟨hJ s w _ _ _ h.jj (hst _) (fun k hk => ?_) gOf_live, fun k hk => ?_, fun k hk => ?_, fun k hk => List.mem_cons_of_mem _ (h.rin k hk), h.yblk.alloc _, (h.marks.step (hst []) (by simp)).cons (World.alloc_heap_new w _) (fun hm => by have := hlow _ hm; omega)⟩
  · obtain ⟨h1, h2⟩ := mem_gOf.1 hk
    rcases Nat.lt_or_ge k w.heap.size with hlt | hge
    · refine .inl (mem_gOf.2 ⟨hlt, ?_⟩)
      rcases h2 with h2 | h2
      · exact .inl fun hc => h2 (List.mem_cons_of_mem _ hc)
      · right
        simp only [List.mem_cons] at h2 ⊢
        rcases h2 with h2 | h2 | h2
        · exact .inl h2
        · omega
        · exact .inr h2
    · exact .inr hge
  · rw [hsz]
    rcases List.mem_cons.1 hk with rfl | hk
    · omega
    · have := h.live k hk
      omega
  · simp only [List.mem_cons] at hk ⊢
    rcases hk with hk | hk | hk
    · exact .inr (h.kin k (by simp [hk]))
    · exact .inl hk
    · exact .inr (h.kin k (by simp [hk]))
theorem Nest.round (h : Nest J R yb yv T s Ds A C) (hj : J' s' B (gOf (yb :: Ds) C A.heap.size)) (hs : Step H A B) (hd : Dj (R ++ gOf (yb :: Ds) C A.heap.size) H) :
    ∃ C', Nest J' R yb yv T s' Ds B C' ∧ Step C A B ∧ Fresh A C C' := by
  have hk : ∀ k, k ∈ yb :: Ds → k ∉ H := fun k hk => hd k (List.mem_append_right _ (mem_gOf.2 ⟨h.live k (h.kin k hk), .inr hk⟩))
  refine ⟨C ++ (List.range B.heap.size).drop A.heap.size, ⟨?_, fun k hk => ?_, fun k hk => List.mem_append_left _ (h.kin k hk), fun k hk => List.mem_append_left _ (h.rin k hk), h.yblk.step hs (hk yb (by simp)), h.marks.step hs (fun D hD => hk D (List.mem_cons_of_mem _ hD))⟩, ?_, fun k hk => ?_⟩
  · rw [gOf_round hs.size (fun k hk => h.live k (h.kin k hk))]
    exact hj
  · rcases List.mem_append.1 hk with hk | hk
    · exact Nat.lt_of_lt_of_le (h.live k hk) hs.size
    · exact (mem_drop_range hk).2
  · refine ⟨hs.os, hs.tape, hs.output, hs.size, fun k hlt hn => hs.block k hlt fun hm => ?_⟩
    exact hd k (List.mem_append_right _ (mem_gOf.2 ⟨hlt, .inl hn⟩)) hm
  · rcases List.mem_append.1 hk with hk | hk
    · exact .inl hk
    · exact .inr (mem_drop_range hk).1
/-- it leaves -/
theorem Nest.leave {F : Fence} {n : Nat} {P : Program} {fn : Func} {tmps : Array Value} {Q : Ending → World → Prop} (h : Nest J R yb yv T s Ds w C) (hJ : ∀ s A B G G', J s A G → Step G A B → Fresh A G G' → Live B G' → J s B G')
    (hr : fn.results = #[]) (hQ : ∀ w' G, J s w' G → Q (.returned (.tuple #[])) w') : LeavesInM F n P fn tmps Q (mks Ds) .returning w :=
  leaves_marks Ds w h.marks fun w' hs => ⟨_, results_none hr _ _ _, hQ w' _ (hJ s w w' _ _ h.jj (hs.mono fun k hk => mem_gOf.2 ⟨h.marks.lt hk, .inr (List.mem_cons_of_mem _ hk)⟩) gOf_fresh gOf_live)⟩
theorem Nest.start (hJ : ∀ s A B G G', J s A G → Step G A B → Fresh A G G' → Live B G' → J s B G') (h0 : J s w []) (hR : ∀ k, k ∈ R → k < w.heap.size) :
    Nest J R w.heap.size yv T s [] (w.alloc (.cells #[yv] T)) (List.range (w.heap.size + 1)) := by
  have hsz : (w.alloc (.cells #[yv] T)).heap.size = w.heap.size + 1 := World.size_alloc _ _
  refine ⟨hJ s w _ _ _ h0 ((Step.refl [] w).alloc _) (fun k hk => ?_) gOf_live, fun k hk => ?_, fun k hk => ?_, fun k hk => ?_, Blk.new w _ _, MarksOk.nil _⟩
  · obtain ⟨h1, h2⟩ := mem_gOf.1 hk
    rcases h2 with h2 | h2
    · rw [List.mem_range] at h2
      omega
    · simp only [List.mem_cons, List.not_mem_nil, or_false] at h2
      exact .inr (by omega)
  · rw [List.mem_range] at hk
    omega
  · simp only [List.mem_cons, List.not_mem_nil, or_false] at hk
    rw [List.mem_range]
    omega
  · rw [List.mem_range]
    have := hR k hk
    omega
end
end Go.Proofs.Ytminpglkipnhcaa
end

section
namespace Go.Proofs.Ytminpglkipnhcaa
set_option linter.unusedVariables false
open Go.RowKit
/-- a frame of n slots -/
def litN (n : Nat) (f : Nat → Value) : Array Value := ((List.range n).map f).toArray
theorem litN_size (n : Nat) (f : Nat → Value) : (litN n f).size = n := by simp [litN]
theorem tmps_lit {T : Array Value} {n : Nat} (h : T.size = n) : T = litN n (fun k => T.getD k undef) := by
  apply Array.ext
  · rw [litN_size, h]
  · intro i h1 h2
    simp [litN, Array.getD, h1]
theorem act_lit {a : Act} {n : Nat} (h : a.tmps.size = n) : a = { tmps := litN n (fun k => a.tmps.getD k undef), defers := a.defers } := by
  obtain ⟨T, d⟩ := a
  rw [← tmps_lit h]
/-- a loop whose rounds leave marks: what holds of the slots, the world and the marks -/
theorem wp_loop_marks {P : Program} {c : Code} {Q : Exit → Act → World → Prop} {a : Act} {w : World} (n : Nat) (R : (Nat → Value) → World → List Nat → Prop) (μ : (Nat → Value) → Nat)
    (h0 : a.tmps.size = n ∧ ∃ Ds, a.defers = mks Ds ∧ R (fun k => a.tmps.getD k undef) w Ds)
    (round : ∀ (f : Nat → Value) (w : World) (Ds : List Nat), R f w Ds → c.wp P (Exit.then (fun a' w' => (a'.tmps.size = n ∧ ∃ Ds', a'.defers = mks Ds' ∧ R (fun k => a'.tmps.getD k undef) w' Ds') ∧ μ (fun k => a'.tmps.getD k undef) < μ f) Q) { tmps := litN n f, defers := mks Ds } w) :
    (Code.loop c).wp P Q a w := by
  refine wp_loop (I := fun a w => a.tmps.size = n ∧ ∃ Ds, a.defers = mks Ds ∧ R (fun k => a.tmps.getD k undef) w Ds) (μ := fun a _ => μ (fun k => a.tmps.getD k undef)) h0 ?_
  rintro a w ⟨hs, Ds, hd, hR⟩
  have h1 := round _ w Ds hR
  rw [act_lit hs, hd]
  exact wp_mono h1 (fun e a' w' hq => by
    cases e with
    | normal =>
      have hg : ∀ k, (litN n (fun k => a.tmps.getD k undef)).getD k undef = a.tmps.getD k undef := fun k => by rw [← tmps_lit hs]
      simp only [Exit.then] at hq ⊢
      refine ⟨hq.1, ?_⟩
      simp only [hg]
      exact hq.2
    | _ => exact hq)
end Go.Proofs.Ytminpglkipnhcaa
end

section
namespace Go.Proofs.Ytminpglkipnhcaa
set_option linter.unusedVariables false
open Go.RowKit
section
variable {P : Program} {ops : Array Oper} {md : Region.Mode} {G : World → World → Prop} {W0 : World} {Sp : FuncId → Array Value → Value → World → Prop}
/-- what is listed is closed -/
structure LInv (md : Region.Mode) (ops : Array Oper) (listed : Array Bool) : Prop where
  size : listed.size = ops.size
  closed : ∀ j oj, ops[j]? = some oj → listed.getD j false = true → ∀ e ∈ oj.after, Region.binds md e = true → listed.getD e.on false = true
theorem LInv.set {i : Nat} {listed : Array Bool} (inv : LInv md ops listed) (hi : i ∈ Region.ready md ops listed) : LInv md ops (listed.setIfInBounds i true) := by
  obtain ⟨_, oi, hoi, hall⟩ := mem_ready.1 hi
  refine ⟨by simp [inv.size], fun j oj hj hl e he hb => ?_⟩
  by_cases hij : i = j
  · subst hij
    have : oj = oi := Option.some.inj (hj.symm.trans hoi)
    subst this
    exact getD_set_true (hall e he hb)
  · rw [getD_set_ne false hij] at hl
    exact getD_set_true (inv.closed j oj hj hl e he hb)
/-- those that wait for one of M, in one pass -/
def downM (md : Region.Mode) (ops : Array Oper) : List Nat → List Nat → List Nat
  | [], M => M
  | j :: r, M => downM md ops r (if M.any (fun m => Region.waitsFor md ops j m) then j :: M else M)
theorem downM_spec {listed : Array Bool} (inv : LInv md ops listed) : ∀ (r M N : List Nat), (∀ m, m ∈ M → listed.getD m true = false ∧ (m ∈ N ∨ m ∉ Region.ready md ops listed)) → ∀ m, m ∈ downM md ops r M → listed.getD m true = false ∧ (m ∈ N ∨ m ∉ Region.ready md ops listed)
  | [], M, N, h, m, hm => h m hm
  | j :: r, M, N, h, m, hm => by
    refine downM_spec inv r _ N ?_ m hm
    intro k hk
    split at hk
    · rename_i hany
      rcases List.mem_cons.1 hk with rfl | hk
      · obtain ⟨m', hm', hw⟩ := List.any_eq_true.1 hany
        obtain ⟨ok, hok, e, he, hb, hon⟩ := Region.waitsFor_spec hw
        have hun := (h m' hm').1
        have hks : k < listed.size := by rw [inv.size]; exact (Array.getElem?_eq_some_iff.1 hok).1
        refine ⟨getD_in hks ?_, .inr fun hr => ?_⟩
        · cases hl : listed.getD k false with
          | false => rfl
          | true =>
            have h2 := inv.closed k ok hok hl e he hb
            rw [hon, getD_both hun] at h2
            cases h2
        · obtain ⟨_, o', ho', hall⟩ := mem_ready.1 hr
          have : o' = ok := Option.some.inj (ho'.symm.trans hok)
          subst this
          have h2 := hall e he hb
          rw [hon, getD_both hun] at h2
          cases h2
      · exact h k hk
    · exact h k hk
/-- whatever order is picked within the block -/
def wpAnyB (P : Program) (md : Region.Mode) (ops : Array Oper) (G : World → World → Prop) (W0 : World) (Sp : FuncId → Array Value → Value → World → Prop) (L : Array Bool → Act → (World → Prop) → Prop) : Nat → Array Bool → Act → (World → Prop) → Prop
  | 0, listed, a, F => L listed a F
  | f + 1, listed, a, F =>
    Region.ready md ops listed ≠ [] ∧ ∀ i ∈ Region.ready md ops listed, rOp P ops G W0 Sp i (wpAnyB P md ops G W0 Sp L f (listed.setIfInBounds i true)) a F
theorem wpAny_of_block (R : RelLaw G Sp) {g : Nat} {L : Array Bool → Act → (World → Prop) → Prop} {Q' : Exit → Act → World → Prop} (hL : ∀ listed a F w, G W0 w → F w → L listed a F → wpAny P md ops Q' g listed a w) :
    ∀ (f : Nat) (listed : Array Bool) (a : Act) (F : World → Prop) (w : World), G W0 w → F w → (∀ w w', F w → G w w' → F w') → wpAnyB P md ops G W0 Sp L f listed a F → wpAny P md ops Q' (f + g) listed a w
  | 0, listed, a, F, w, hG, hF, hs, h => by rw [Nat.zero_add]; exact hL _ _ _ _ hG hF h
  | f + 1, listed, a, F, w, hG, hF, hs, h => by
    rw [show f + 1 + g = (f + g) + 1 by omega]
    exact ⟨fun h0 => absurd h0 h.1, fun i hi => wpOp_of_rOp R hG hF hs (fun a' F' w' hs' hG' hF' h' => wpAny_of_block R hL f _ a' F' w' hG' hF' hs' h') (h.2 i hi)⟩
theorem wpAnyB_first (R : RelLaw G Sp) {i : Nat} {oi : Oper} {D : Value → Prop} {S : Value → World → Prop} {L : Array Bool → Act → (World → Prop) → Prop} (hi : ops[i]? = some oi) (hsel : ∀ (j : Nat) (o : Oper) cs b, ops[j]? = some o → o.op ≠ .select cs b)
    {E B : Nat → Prop} (hwait : ∀ listed, LInv md ops listed → (∀ e, E e → listed.getD e false = true) → ∀ i, B i → listed.getD i true = false → ∀ j ∈ Region.ready md ops listed, B j) (hBi : B i)
    (hdone : ∀ listed a F, L listed a F → ∀ j ∈ Region.ready md ops listed, ¬ B j) :
    ∀ (f : Nat) (listed : Array Bool) (a : Act) (F : World → Prop), LInv md ops listed → (∀ e, E e → listed.getD e false = true) →
      (∀ j oj, ops[j]? = some oj → j ≠ i → listed.getD j true = false → (∀ e ∈ oj.after, Region.binds md e = true → e.on ≠ i) → oi.apart ops oj = true) →
      i ∈ Region.ready md ops listed → YR P ops G W0 Sp oi a D S →
      (∀ v, D v → wpAnyB P md ops G W0 Sp L f (listed.setIfInBounds i true) (a.put oi.dst v) (fun w => F w ∧ S v w)) → wpAnyB P md ops G W0 Sp L (f + 1) listed a F := by
  intro f
  induction f with
  | zero =>
    intro listed a F inv hE _ hr hy H
    have hun := (mem_ready.1 hr).1
    refine ⟨fun h => (by rw [h] at hr; cases hr), fun j hj => ?_⟩
    have hjB : B j := hwait listed inv hE i hBi hun j hj
    by_cases hji : j = i
    · subst hji
      unfold rOp
      simp only [hi]
      exact ⟨D, S, hy, H⟩
    · obtain ⟨v0, hv0⟩ := hy.some R
      exact absurd hjB (hdone _ _ _ (H v0 hv0) j (ready_mono hj hji))
  | succ f ih =>
    intro listed a F inv hE hfree hr hy H
    have hun := (mem_ready.1 hr).1
    refine ⟨fun h => (by rw [h] at hr; cases hr), fun j hj => ?_⟩
    by_cases hji : j = i
    · subst hji
      unfold rOp
      simp only [hi]
      exact ⟨D, S, hy, H⟩
    · obtain ⟨hjun, oj, hoj, hall⟩ := mem_ready.1 hj
      have hnot : ∀ e ∈ oj.after, Region.binds md e = true → e.on ≠ i := fun e he hb heq => by
        have h1 := hall e he hb
        rw [heq, getD_both hun] at h1
        cases h1
      have h2 := rOp_put R hoj (hfree j oj hoj hji hjun hnot) (fun cs b => hsel i oi cs b hi) (fun cs b => hsel j oj cs b hoj) hy (fun v hv => (H v hv).2 j (ready_mono hj hji))
      have hfree' : ∀ k ok, ops[k]? = some ok → k ≠ i → (listed.setIfInBounds j true).getD k true = false →
          (∀ e ∈ ok.after, Region.binds md e = true → e.on ≠ i) → oi.apart ops ok = true := fun k ok hk hki hun hno => by
        refine hfree k ok hk hki ?_ hno
        by_cases hjk : j = k
        · subst hjk; exact hjun
        · rw [getD_set_ne true hjk] at hun; exact hun
      refine rOp_mono (fun a' F' h3 => ih (listed.setIfInBounds j true) a' F' (inv.set hj) (fun e he => getD_set_true (hE e he)) hfree' (ready_mono hr (Ne.symm hji)) h3.1 ?_) h2
      rw [Array.setIfInBounds_comm _ _ hji]
      exact h3.2
/-- the operations of a block, in its own order -/
def opsAt (l : List Oper) : List Nat → List Oper
  | [] => []
  | i :: r => (l[i]?).toList ++ opsAt l r
/-- the block's order is one that may be, and each operation is free of those that may come up with it -/
def lexC (md : Region.Mode) (ops : Array Oper) : List Nat → Array Bool → Bool
  | [], _ => true
  | i :: r, listed => (Region.ready md ops listed).contains i && Region.free md ops listed i && lexC md ops r (listed.setIfInBounds i true)
def setL' (listed : Array Bool) : List Nat → Array Bool
  | [] => listed
  | i :: r => setL' (listed.setIfInBounds i true) r
theorem wpAnyB_lex (R : RelLaw G Sp) {Lq : Act → (World → Prop) → Prop} (hsel : Region.noSelect ops = true) {E B : Nat → Prop} {fin : Array Bool}
    (hwait : ∀ listed, LInv md ops listed → (∀ e, E e → listed.getD e false = true) → ∀ i, B i → listed.getD i true = false → ∀ j ∈ Region.ready md ops listed, B j) (hdone : ∀ j ∈ Region.ready md ops fin, ¬ B j) :
    ∀ (b : List Nat) (listed : Array Bool) (a : Act) (F : World → Prop), (∀ i ∈ b, B i) → LInv md ops listed → (∀ e, E e → listed.getD e false = true) → lexC md ops b listed = true → setL' listed b = fin →
    wpR P ops G W0 Sp Lq (opsAt ops.toList b) a F → wpAnyB P md ops G W0 Sp (fun listed' a' F' => (listed' = fin ∧ LInv md ops listed') ∧ Lq a' F') b.length listed a F
  | [], listed, a, F, _, inv, _, _, hf, h => ⟨⟨hf, inv⟩, h⟩
  | i :: b, listed, a, F, hB, inv, hE, hC, hf, h => by
    simp only [lexC, Bool.and_eq_true] at hC
    obtain ⟨⟨hr, hfr⟩, hC'⟩ := hC
    have hr' : i ∈ Region.ready md ops listed := by simpa using hr
    obtain ⟨_, o, h0, _⟩ := mem_ready.1 hr'
    have hl : ops.toList[i]? = some o := by simpa using h0
    simp only [opsAt, hl, Option.toList, List.cons_append, List.nil_append] at h
    obtain ⟨D, S, hy, hK⟩ := h
    exact wpAnyB_first R h0 (Region.noSelect_spec hsel) hwait (hB i List.mem_cons_self) (fun listed' a' F' hL => by rw [hL.1.1]; exact hdone) b.length listed a F inv hE (Region.free_spec h0 hfr) hr' hy
      (fun v hv => wpAnyB_lex R hsel hwait hdone b _ _ _ (fun k hk => hB k (List.mem_cons_of_mem _ hk)) (inv.set hr') (fun e he => getD_set_true (hE e he)) hC' hf (hK v hv))
/-- the blocks, one behind the other: each by a relation of its own, or one operation alone -/
def wpPh (P : Program) (ops : Array Oper) (l : List Oper) (Q : Exit → Act → World → Prop) : List (List Nat) → Act → World → Prop
  | [], a, w => Q .normal a w
  | b :: Bs, a, w =>
    (∃ G Sp, RelLaw G Sp ∧ wpR P ops G w Sp (fun a' F => ∀ w', G w w' → F w' → wpPh P ops l Q Bs a' w') (opsAt l b) a (fun _ => True)) ∨
    (∃ i o, b = [i] ∧ l[i]? = some o ∧ Region.wanted o (yielded ops a.tmps) = true ∧ o.wp P a w (wpPh P ops l Q Bs) Q)
def phCheck (md : Region.Mode) (ops : Array Oper) : List Nat → List (List Nat) → Array Bool → Bool
  | _, [], listed => (Region.ready md ops listed).isEmpty
  | E, b :: Bs, listed =>
    E.all (fun e => listed.getD e false) &&
    b.all (fun i => Bs.flatten.all (fun t => (downM md ops (b ++ Bs.flatten) [i]).contains t && !b.contains t)) &&
    (List.range ops.size).all (fun j => E.contains j || b.contains j || Bs.flatten.contains j) &&
    lexC md ops b listed && (Region.ready md ops (setL' listed b)).all (fun j => !b.contains j) && phCheck md ops (E ++ b) Bs (setL' listed b)
theorem wpAny_of_ph (hsel : Region.noSelect ops = true) {Q : Exit → Act → World → Prop} : ∀ (Bs : List (List Nat)) (E : List Nat) (listed : Array Bool) (a : Act) (w : World), phCheck md ops E Bs listed = true → LInv md ops listed → wpPh P ops ops.toList Q Bs a w → wpAny P md ops Q (Bs.flatten).length listed a w
  | [], E, listed, a, w, hC, inv, h => ⟨by simpa [phCheck] using hC, h⟩
  | b :: Bs, E, listed, a, w, hC, inv, h => by
    simp only [phCheck, Bool.and_eq_true] at hC
    obtain ⟨⟨⟨⟨⟨hE, hD⟩, hcov⟩, hlex⟩, hdone⟩, hC'⟩ := hC
    have hE' : ∀ e, e ∈ E → listed.getD e false = true := fun e he => List.all_eq_true.1 hE e he
    have hwait : ∀ listed, LInv md ops listed → (∀ e, e ∈ E → listed.getD e false = true) → ∀ i, i ∈ b → listed.getD i true = false → ∀ j ∈ Region.ready md ops listed, j ∈ b := by
      intro listed inv hE i hi hun j hj
      have hjs : j < ops.size := by
        obtain ⟨_, o, ho, _⟩ := mem_ready.1 hj
        exact (Array.getElem?_eq_some_iff.1 ho).1
      have h1 := List.all_eq_true.1 hcov j (List.mem_range.2 hjs)
      simp only [Bool.or_eq_true, List.contains_iff_mem] at h1
      rcases h1 with (h1 | h1) | h1
      · have h2 := hE j h1
        have h3 := (mem_ready.1 hj).1
        rw [getD_both h3] at h2
        cases h2
      · exact h1
      · have h2 := List.all_eq_true.1 (List.all_eq_true.1 hD i hi) j h1
        simp only [Bool.and_eq_true, List.contains_iff_mem] at h2
        rcases (downM_spec inv _ [i] [i] (fun m hm => by simp at hm; subst hm; exact ⟨hun, .inl (by simp)⟩) j h2.1).2 with h3 | h3
        · simp at h3; subst h3; exact hi
        · exact absurd hj h3
    have hdone' : ∀ j ∈ Region.ready md ops (setL' listed b), ¬ j ∈ b := fun j hj hm => by
      have := List.all_eq_true.1 hdone j hj
      simp [hm] at this
    have hlen : (List.flatten (b :: Bs)).length = b.length + (Bs.flatten).length := by simp
    rw [hlen]
    rcases h with ⟨G, Sp, R, h⟩ | ⟨i, o, rfl, ho, hw, h⟩
    · have H := wpAnyB_lex (md := md) (E := fun e => e ∈ E) (B := fun j => j ∈ b) R hsel hwait hdone' b listed a _ (fun i hi => hi) inv hE' hlex rfl h
      exact wpAny_of_block (Q' := Q) R (g := (Bs.flatten).length) (fun listed' a' F w' hG hF hL => by
        obtain ⟨⟨rfl, inv'⟩, hL⟩ := hL
        exact wpAny_of_ph hsel Bs (E ++ b) _ a' w' hC' inv' (hL w' hG hF)) _ _ _ _ w (R.refl _) trivial (fun _ _ _ _ => trivial) H
    · simp only [lexC, Bool.and_eq_true] at hlex
      have hr : i ∈ Region.ready md ops listed := by simpa using hlex.1.1
      have hun := (mem_ready.1 hr).1
      rw [show ([i] : List Nat).length + (Bs.flatten).length = (Bs.flatten).length + 1 by simp; omega]
      refine ⟨fun h0 => (by rw [h0] at hr; cases hr), fun j hj => ?_⟩
      have hji : j = i := by
        have := hwait listed inv hE' i (by simp) hun j hj
        simpa using this
      subst hji
      have h0 : ops[j]? = some o := by simpa using ho
      unfold wpOp
      simp only [h0]
      rw [if_pos hw]
      exact .inl (Oper.wp_mono (fun a' w' h' => wpAny_of_ph hsel Bs (E ++ [j]) _ a' w' hC' (inv.set hr) h') h)
/-- a region in phases -/
theorem wp_region_ph {id : Nat} {Q : Exit → Act → World → Prop} {a : Act} {w : World} {l : List Oper} (Bs : List (List Nat)) (hm : P.follows .mixedOrders = true)
    (hB : (Region.noSelect l.toArray && decide ((Bs.flatten).length = l.length) && phCheck .any l.toArray [] Bs (Array.replicate l.length false)) = true) (h : wpPh P l.toArray l Q Bs a w.drew) : (Code.region id l.toArray true).wp P Q a w := by
  simp only [Bool.and_eq_true, decide_eq_true_eq] at hB
  obtain ⟨⟨hsel, hlen⟩, hC⟩ := hB
  have inv0 : LInv .any l.toArray (Array.replicate l.length false) := ⟨by simp, fun j oj _ hl => (by rw [getD_replicate_false] at hl; cases hl)⟩
  refine wp_region_any hm ?_
  have := wpAny_of_ph (md := .any) (Q := Q) (P := P) hsel Bs [] (Array.replicate l.length false) a w.drew hC inv0 (by simpa using h)
  rw [hlen] at this
  simpa using this
/-- one call alone -/
theorem ph_call {K : Act → World → Prop} {Q : Exit → Act → World → Prop} {o : Oper} {a : Act} {w : World} (f : FuncId) (xs : Array Operand) (ts : Array TypeId) (ho : o.op = .call { callee := .value (.func f), args := xs, argTypes := ts })
    {fn : Func} (hf : P.funcs[f]? = some fn) (hname : (fn.name == "runtime.NumGoroutine") = false) (hb : fn.body.isSome = true) (args : Array Value) (hargs : xs.map a.eval = args)
    {post : Ending → World → Prop} (hc : Calls P f args w post) (h : ∀ e w', post e w' → ∃ v, e = .returned v ∧ K (a.put o.dst v) w') : o.wp P a w K Q := by
  have hr : (execOp a.eval o).run P w = .ok (.enter f args) w := by
    unfold execOp
    simp only [ho, resolve, Act.eval, Deferred.ofValue, Sem.run_bind, Sem.run_pure, Result.andThen_ok, invoke, Array.append_empty]
    have he : (#[] ++ Array.map (fun x => a.eval x) xs) = args := by simpa using hargs
    have he2 : (#[] : Array Value) ++ Array.map a.eval xs ++ #[] = args := by simpa using hargs
    first
      | (rw [he]; exact run_enter hf hname hb args w)
      | (rw [he2]; exact run_enter hf hname hb args w)
      | (simp [hargs]; exact run_enter hf hname hb args w)
  unfold Oper.wp
  rw [hr]
  exact hc.mono fun e w' he => by
    obtain ⟨v, rfl, hk⟩ := h e w' he
    exact hk
end
end Go.Proofs.Ytminpglkipnhcaa
end

section
namespace Go.Proofs.Ytminpglkipnhcaa
set_option linter.unusedVariables false
open Go.RowKit
section
variable {P : Program} {ops : Array Oper} {G : World → World → Prop} {W0 : World} {Sp : FuncId → Array Value → Value → World → Prop}
/-- a call of a function by a value that a slot holds -/
theorem wpR_callV {Q : Act → (World → Prop) → Prop} {o : Oper} {rest : List Oper} {a : Act} {F : World → Prop} (f : FuncId) (c : Operand) (xs : Array Operand) (ts : Array TypeId) (ho : o.op = .call { callee := .value c, args := xs, argTypes := ts }) (hw : Region.wanted o (yielded ops a.tmps) = true)
    (hcv : a.eval c = .func (.func f) #[] #[])
    {fn : Func} (hf : P.funcs[f]? = some fn) (hname : (fn.name == "runtime.NumGoroutine") = false) (hb : fn.body.isSome = true) (args : Array Value) (hargs : xs.map a.eval = args)
    (hc : ∀ w, G W0 w → Calls P f args w (fun e w'' => ∃ v, e = .returned v ∧ Sp f args v w'' ∧ G w w''))
    (h : ∀ v, (∃ w, G W0 w ∧ Sp f args v w) → wpR P ops G W0 Sp Q rest (a.put o.dst v) (fun w => F w ∧ Sp f args v w)) : wpR P ops G W0 Sp Q (o :: rest) a F := by
  refine wpR_call f args hw (fun w => ?_) hc h
  unfold execOp
  simp only [ho, resolve, hcv, Deferred.ofValue, Sem.run_bind, Sem.run_pure, Result.andThen_ok, invoke, Array.append_empty]
  have he : (#[] ++ Array.map (fun x => a.eval x) xs) = args := by simpa using hargs
  have he2 : (#[] : Array Value) ++ Array.map a.eval xs ++ #[] = args := by simpa using hargs
  first
    | (rw [he]; exact run_enter hf hname hb args w)
    | (rw [he2]; exact run_enter hf hname hb args w)
    | (simp [hargs]; exact run_enter hf hname hb args w)
end
/-- a call whose value is known -/
def SpV (u : Value) (_ : FuncId) (_ : Array Value) (v : Value) (_ : World) : Prop := v = u
theorem spV_law (u : Value) : RelLaw (Step []) (SpV u) where
  refl := fun w => Step.refl [] w
  trans := fun w w' w'' h h' => h.then h' (by simp)
  stable := fun f args v w w' h hs => h
end Go.Proofs.Ytminpglkipnhcaa
end

section
namespace Go.Proofs.Ytminpglkipnhcaa
set_option linter.unusedVariables false
open Go.RowKit
section
variable {n : Nat} {P : Program} {ops : Array Oper} {Q : Exit → Act → World → Prop}
def noDefer (l : List Oper) : Bool := l.all fun o => match o.op with | .defer _ => false | _ => true
theorem noDefer_at {l : List Oper} (h : noDefer l = true) {o : Oper} (ho : o ∈ l) (c : Go.Call) : o.op ≠ .defer c := by
  unfold noDefer at h
  rw [List.all_eq_true] at h
  have h1 := h o ho
  intro e
  rw [e] at h1
  cases h1
theorem wpOpsIn_round (r : Nat) (hd : noDefer ops.toList = true) : ∀ (l : List Nat) (a : Act) (w : World), wpOpsIn Fence.wide n P ops Q l a w → wpOpsIn (Fence.wide.inRound r) n P ops Q l a w
  | [], _, _, h => h
  | i :: rest, a, w, h => by
    simp only [wpOpsIn] at h ⊢
    split
    · rename_i hn
      rw [hn] at h
      exact wpOpsIn_round r hd rest a w h
    · rename_i o ho
      rw [ho] at h
      simp only at h
      have hmem : o ∈ ops.toList := by
        have := List.mem_of_getElem? (l := ops.toList) (i := i) (by simpa using ho)
        exact this
      split at h
      · rename_i hw
        rw [if_pos hw]
        have h2 := Oper.wpIn_mono (fun a' w' => wpOpsIn_round r hd rest a' w') h
        unfold Oper.wpIn at h2 ⊢
        refine ⟨h2.1, ?_⟩
        have h3 := h2.2
        rw [show (Fence.wide.round) = none from rfl, Oper.semAt_none] at h3
        rw [Fence.inRound_round, Oper.semAt_some r a.eval o (noDefer_at hd hmem)]
        exact h3
      · rename_i hw
        rw [if_neg hw]
        exact ⟨h.1, wpOpsIn_round r hd rest _ w h.2⟩
theorem wpQuiet_in {C : World → Prop} {R : Act → Prop} : ∀ (l : List Oper) (a : Act), wpQuiet P ops C R l a → wpQuietIn Fence.wide n P ops C R l a
  | [], _, h => h
  | o :: rest, a, h => by
    refine ⟨fun _ _ _ _ => trivial, ?_⟩
    simp only [wpQuiet] at h
    split at h
    · rename_i hw
      rw [if_pos hw]
      obtain ⟨v, h1, h2⟩ := h
      refine ⟨v, fun w hw => ?_, wpQuiet_in rest _ h2⟩
      have h3 := h1 w hw
      unfold Oper.quietAt at h3
      unfold Oper.quietAtIn
      generalize (execOp a.eval o).run P w = x at h3 ⊢
      match x, h3 with
      | .ok (.value u) w', h3 => exact h3
      | .ok .skip w', h3 => exact h3
      | .ok (.enter f args) w', h3 => exact ⟨h3.1, fun h => (nomatch h), callsIn_wide.2 h3.2⟩
    · rename_i hw
      rw [if_neg hw]
      exact wpQuiet_in rest _ h
theorem region_round {G : World → Prop} {id r : Nat} {a : Act} {w : World} {l : List Oper} (hd : noDefer l = true) (hm : P.follows .mixedOrders = true) (hB : Region.lexB .any l.toArray = true) (hG : G w.drew)
    (h : wpQuiet P l.toArray (fun w' => ∃ x : ClsW G, w' = x.val) (fun a' => ∀ w', (∃ x : ClsW G, w' = x.val) → Q .normal a' w') l a) : (Code.region id l.toArray true).wpIn (Fence.wide.inRound r) n P Q a w := by
  have hB2 := hB
  simp only [Region.lexB, Bool.and_eq_true] at hB2
  refine wpIn_region_draw fun t => ?_
  refine wpOpsIn_round r (by simpa using hd) _ _ _ ?_
  simp only [Region.schedule, hm, Bool.true_or, if_true]
  refine wpAnyIn_sound l.toArray.size t _ a _ ?_
  refine wpAnyIn_of_quiet (C := fun w' => ∃ x : ClsW G, w' = x.val) (Q := fun a' => ∀ w', (∃ x : ClsW G, w' = x.val) → Q .normal a' w') rfl (fun _ w' hw' h => h w' hw') _ _ _ _ ⟨⟨_, hG⟩, rfl⟩ ?_
  have := wpAnyQIn_lex (F := Fence.wide) (n := n) (C := fun w' => ∃ x : ClsW G, w' = x.val) (md := .any) hB2.1 l 0 (Array.replicate l.toArray.size false) a (by simp) (by simpa using hB2.2) (wpQuiet_in l a h)
  simpa using this
end
end Go.Proofs.Ytminpglkipnhcaa
end

section
namespace Go.Proofs.Ytminpglkipnhcaa
set_option linter.unusedVariables false
set_option linter.unusedSimpArgs false
open Go.RowKit
theorem exec_load_a (a : Act) (dst : Option Tmp) (x : Operand) (ty : TypeId) (pos : String) (after : Array Edge) (guard : Option (Nat × Bool)) :
    execOp a.eval { dst, op := .load 43 x, type := ty, pos, after, guard } = (do pure (.value (← loadBig 43 (a.eval x)))) := rfl
theorem Try.load_a (w : World) (b o : Nat) : (loadBig 43 (.pointer (some ⟨b, o, none⟩))).run Try.prog w = match rowC w b o 15 with
      | some cs => .ok (.agg cs.toArray) w
      | none => (loadBig0 43 (.pointer (some ⟨b, o, none⟩))).run Try.prog w :=
  run_loadBig 43 15 _ Try.underlying43 rfl (by kernel_rfl) w b o
theorem exec_store_a (a : Act) (dst : Option Tmp) (x y : Operand) (ty : TypeId) (pos : String) (after : Array Edge) (guard : Option (Nat × Bool)) :
    execOp a.eval { dst, op := .store 43 x y, type := ty, pos, after, guard } = (do storeBig 43 (a.eval x) (a.eval y); pure .skip) := rfl
theorem Try.store_a (w : World) (b o : Nat) (y : Ac) (ht : w.there b o 15) : (storeBig 43 (.pointer (some ⟨b, o, none⟩)) (.agg (acC y).toArray)).run Try.prog w = .ok () (w.setCells b o (acC y)) :=
  run_storeBig 43 15 (by kernel_rfl) w b o (acC y) ht rfl (by rfl)
theorem ac_row {w : World} {b : Nat} {y : Ac} {T : TypeId} (h : Blk w b (acC y).toArray T) : rowC w b 0 15 = some (acC y) := by
  have := row_of_range w b (acC y) 0 (fun j v hv => by rw [Nat.zero_add, h.cell j]; simpa using hv)
  exact this
theorem box_a (w : World) (y : Ac) : (w.alloc (.cells (acC ac0).toArray 43)).there w.heap.size 0 15 ∧ Blk ((w.alloc (.cells (acC ac0).toArray 43)).setCells w.heap.size 0 (acC y)) w.heap.size (acC y).toArray 43 ∧ Step [] w ((w.alloc (.cells (acC ac0).toArray 43)).setCells w.heap.size 0 (acC y)) :=
  ⟨(Blk.new w _ _).there (by simp [acC, actC]), (Blk.new w _ _).setAll _ (by simp [acC, actC]), ((Step.refl [] w).alloc _).setCells (.inr (Nat.le_refl _)) _ _⟩
theorem Try.infoAc : (Try.prog.info? 43).map (fun i => (i.zero, i.size, i.bytes)) = some (some (.agg (acC ac0).toArray), 15, 168) := by kernel_rfl
theorem zeroA (w : World) : (zeroValue 43).run Try.prog w = .ok (.agg (acC ac0).toArray) w := by
  obtain ⟨i, h1, h2, h3, h4⟩ := info_parts Try.infoAc
  simp [zeroValue, typeInfo, h1, h2]
attribute [local go_sem ↓] exec_load_m exec_store_m exec_load_a exec_store_a
attribute [local go_sem] Try.load_m row_drew Try.store_m Try.load_a Try.store_a Oper.semAt_some
set_option maxRecDepth 100000 in
theorem lit114 (f : Nat → Value) : litN 114 f = #[f 0, f 1, f 2, f 3, f 4, f 5, f 6, f 7, f 8, f 9, f 10, f 11, f 12, f 13, f 14, f 15, f 16, f 17, f 18, f 19, f 20, f 21, f 22, f 23, f 24, f 25, f 26, f 27, f 28, f 29, f 30, f 31, f 32, f 33, f 34, f 35, f 36, f 37, f 38, f 39, f 40, f 41, f 42, f 43, f 44, f 45, f 46, f 47, f 48, f 49, f 50, f 51, f 52, f 53, f 54, f 55, f 56, f 57, f 58, f 59, f 60, f 61, f 62, f 63, f 64, f 65, f 66, f 67, f 68, f 69, f 70, f 71, f 72, f 73, f 74, f 75, f 76, f 77, f 78, f 79, f 80, f 81, f 82, f 83, f 84, f 85, f 86, f 87, f 88, f 89, f 90, f 91, f 92, f 93, f 94, f 95, f 96, f 97, f 98, f 99, f 100, f 101, f 102, f 103, f 104, f 105, f 106, f 107, f 108, f 109, f 110, f 111, f 112, f 113] := rfl
def dO (D : Nat) : Nat × Obj := (D, .deferred (some []))
theorem dO_ne {w wr : World} {b : Nat} {C : Array Value} {T : TypeId} {Ds : List Nat} (hb : Blk wr b C T) (h : ∀ x, x ∈ Ds.map dO → wr.heap[x.1]? = some x.2) : ∀ x, x ∈ Ds.map dO → x.1 ≠ b := fun x hx e => by
  have h1 := h x hx
  obtain ⟨D, _, rfl⟩ := List.mem_map.1 hx
  unfold Blk at hb
  rw [e, hb] at h1
  cases h1
theorem rd_blk {w wr : World} {nb mb mo q b : Nat} {XO : List (Nat × Obj)} {C : Array Value} {T : TypeId} (h : RdE w nb mb mo q XO wr) (hb : (b, Obj.cells C T (0, 0)) ∈ XO) : Blk wr b C T := by
  obtain ⟨T', X, n, f, P, h⟩ := h
  exact h.st.blk hb
theorem rd_st {w wr : World} {nb mb mo q : Nat} {XO : List (Nat × Obj)} (h : RdE w nb mb mo q XO wr) : Step [] w wr := by
  obtain ⟨T', X, n, f, P, h⟩ := h
  exact h.st.st
theorem rd_add {w wr w' : World} {nb mb mo q : Nat} {XO : List (Nat × Obj)} (h : RdE w nb mb mo q XO wr) (hs : Step [] wr w') (NO : List (Nat × Obj)) (hN : ∀ x, x ∈ NO → wr.heap.size ≤ x.1 ∧ w'.heap[x.1]? = some x.2) : RdE w nb mb mo q (NO ++ XO) w' := by
  obtain ⟨T', X, n, f, P, h⟩ := h
  exact ⟨T', X, n, f, P, h.st.add hs NO hN, h.rx, h.wr, h.n64, h.nq, h.pq⟩
theorem St.parts {w0 w : World} {nb mb mo : Nat} {T E : List Tm} {n : Nat} {f : PK → Option Bool} {X : List Ms} {P : List (Int × Int)} {XO : List (Nat × Obj)} (h : St w0 nb mb mo T E n f X P XO w) :
    ∃ base lv baseM xv pv, NtE w base nb mb lv T E n f ∧ Md w baseM mo xv pv X P ∧ Dj (footE nb mb lv T E) (footM mo xv pv) ∧ (∀ k, k ∈ footE nb mb lv T E → w0.heap.size ≤ k ∧ k < w.heap.size) ∧ (∀ y, y ∈ XO → y.1 ∉ footE nb mb lv T E ∧ y.1 ∉ footM mo xv pv) := by
  obtain ⟨F, ⟨A, B, rfl, ⟨base, lv, rfl, h1⟩, ⟨baseM, xv, pv, rfl, h2⟩, hd⟩, hF, _, hdj, _, _⟩ := h
  exact ⟨base, lv, baseM, xv, pv, h1, h2, hd, fun k hk => hF k (List.mem_append_left _ hk), fun y hy => ⟨fun hm => hdj y.1 (List.mem_map_of_mem hy) (List.mem_append_left _ hm), fun hm => hdj y.1 (List.mem_map_of_mem hy) (List.mem_append_right _ hm)⟩⟩
theorem Md.row {w : World} {base mb : Nat} {xv pv : Value} {X : List Ms} {P : List (Int × Int)} (h : Md w base mb xv pv X P) (m : Nat) (hm : m < X.length) :
    ∃ g o c, xv = .slice (some ⟨g, o, none⟩) X.length c ∧ g < w.heap.size ∧ rowC w g (o + m * 11) 11 = some (msC (X.getD m ms0)) := by
  obtain ⟨g, o, c, rfl, -, -⟩ := h.own.form (by omega)
  refine ⟨g, o * 11, c, rfl, (h.own.low g (by simp [foot, Value.ownBlock])).2, ?_⟩
  have hc := h.own.cell _ _ _ rfl
  have hg : X.getD m ms0 = X[m]'(by omega) := by simp [List.getD, show m < X.length by omega]
  refine row_of_range w g (msC (X.getD m ms0)) (o * 11 + m * 11) (fun j u hu => ?_)
  have hj : j < 11 := (List.getElem?_eq_some_iff.1 hu).1
  have := hc (m * 11 + j) u (by unfold flatM; rw [flatF_at msC_len X m j (by omega) hj, ← hg]; exact hu)
  rw [Go.Proofs.Ytminpglkipnhcaa.add_plain, ← Nat.add_assoc] at this
  exact this
/-- what the range over a net keeps -/
def RgI (R : List Nat) (kb : Nat) (W : World) (q : Nat) (A : World) (C : List Nat) : Prop :=
  C = offR R W.heap.size ∧ Step (kb :: R) W A ∧ Blk A kb #[.int .i64 (q : Int)] 3 ∧ kb < W.heap.size ∧ kb ∉ R
theorem RgI.step {R : List Nat} {kb : Nat} {W : World} {q : Nat} {A B : World} {C H : List Nat} (h : RgI R kb W q A C) (hs : Step H A B) (hd : Dj C H) : RgI R kb W q B C := by
  obtain ⟨rfl, h1, h2, h4, h6⟩ := h
  refine ⟨rfl, h1.then hs (fun k hk => ?_), h2.step hs (hd kb (mem_offR.2 ⟨h4, h6⟩)), h4, h6⟩
  by_cases hR : k ∈ R
  · exact .inl (by simp [hR])
  · rcases Nat.lt_or_ge k W.heap.size with hlt | hge
    · exact absurd hk (hd k (mem_offR.2 ⟨hlt, hR⟩))
    · exact .inr hge
theorem RgI.live {R : List Nat} {kb : Nat} {W : World} {q : Nat} {A : World} {C : List Nat} (h : RgI R kb W q A C) : Live A C := by
  obtain ⟨rfl, h1, _⟩ := h
  exact fun k hk => Nat.lt_of_lt_of_le (mem_offR.1 hk).1 h1.size
theorem RgI.dj {R : List Nat} {kb : Nat} {W : World} {q : Nat} {A : World} {C : List Nat} (h : RgI R kb W q A C) : Dj R C := by rw [h.1]; exact offR_dj
theorem rd_step {w wr w' : World} {nb mb mo q : Nat} {XO : List (Nat × Obj)} (h : RdE w nb mb mo q XO wr) (hs : Step [] wr w') : RdE w nb mb mo q XO w' := rd_add h hs [] (fun x hx => by simp at hx)
theorem leave_plays {w wr : World} {nb mb mo q : Nat} {XO : List (Nat × Obj)} {Ds : List Nat} {T : TypeId} {tmps : Array Value} {c : Value} {Q : Ending → World → Prop} (h : RdE w nb mb mo q XO wr) (hx : ∀ y, y ∈ (w.heap.size, Obj.cells #[c] T (0, 0)) :: Ds.map dO → y ∈ XO) (hn : Ds.Nodup)
    (h2 : tmps[2]?.getD undef = .pointer (some ⟨w.heap.size, 0, none⟩)) (hQ : ∀ w', Step [] w w' → Q (.returned (.bool true)) w') :
    LeavesInM Fence.wide 3 Try.prog Try.f4 tmps Q (mks Ds) .returning (wr.setCell ⟨w.heap.size, 0, none⟩ (.bool true)) := by
  obtain ⟨T', X, n, f, P, h⟩ := h
  have hb : Blk wr w.heap.size #[c] T := h.st.blk (hx _ (.head _))
  have hob : ∀ y, y ∈ Ds.map dO → wr.heap[y.1]? = some y.2 := fun y hy => Kept.get h.st (hx y (.tail _ hy))
  have hne : w.heap.size ∉ Ds := fun hd => dO_ne (w := w) hb hob (dO w.heap.size) (List.mem_map_of_mem hd) rfl
  have hst : Step [w.heap.size] wr (wr.setCell ⟨w.heap.size, 0, none⟩ (.bool true)) := (Step.refl _ wr).setCell (.inl (by simp)) 0 _
  have hm : MarksOk (wr.setCell ⟨w.heap.size, 0, none⟩ (.bool true)) Ds := ⟨hn, fun D hD => by
    have h1 := hob (dO D) (List.mem_map_of_mem hD)
    exact (hst.block D (Array.getElem?_eq_some_iff.1 h1).1 (fun hm => by simp at hm; subst hm; exact hne hD)).trans h1⟩
  have hb2 : Blk (wr.setCell ⟨w.heap.size, 0, none⟩ (.bool true)) w.heap.size #[.bool true] T := hb.set 0 _
  refine leaves_marks Ds _ hm (fun w' hs => ?_)
  have c0 := (hb2.step hs hne).cell 0
  simp only [List.getElem?_toArray, List.getElem?_cons_zero] at c0
  refine ⟨.bool true, ?_, hQ w' ?_⟩
  · simp [results, Try.f4, go_sem, c0, h2]
  · refine (h.st.st.then hst (fun k hk => .inr (by simp at hk; omega))).then hs (fun k hk => .inr ?_)
    exact (Kept.lt h.st (hx (dO k) (.tail _ (List.mem_map_of_mem hk)))).1
theorem start_plays {w W0 w1 w2 W3 : World} {nb mb mo b4 : Nat} (hb : Blk W0 w.heap.size #[.bool false] 4) (hs0 : Step [] w W0) (hs1 : Step [] W0 w1) (hN : Nt w2 w1.heap.size nb mb (.slice none 0 0) [] 0 (fun _ => none)) (hs2 : Step [] w1 w2)
    (hmo : w2.heap.size = mo) (hb4 : mo + 1 = b4) (hW : (w2.alloc (.cells #[.slice none 0 0, .slice none 0 0] 41)).alloc (.cells #[.pointer (some ⟨w2.heap.size, 0, none⟩)] 37) = W3) :
    RdE w nb mb mo 0 [(b4, .cells #[.pointer (some ⟨mo, 0, none⟩)] 37 (0, 0)), (w.heap.size, .cells #[.bool false] 4 (0, 0))] W3 := by
  subst hmo hb4
  have s3 : Step [] w2 W3 := by rw [← hW]; exact ((Step.refl [] w2).alloc _).alloc _
  have hz3 : W3.heap.size = w2.heap.size + 2 := by rw [← hW, World.size_alloc, World.size_alloc]
  have bm : Blk W3 w2.heap.size #[.slice none 0 0, .slice none 0 0] 41 := by rw [← hW]; exact (Blk.new w2 _ _).alloc _
  have b4' : Blk W3 (w2.heap.size + 1) #[.pointer (some ⟨w2.heap.size, 0, none⟩)] 37 := by
    have := Blk.new (w2.alloc (.cells #[.slice none 0 0, .slice none 0 0] 41)) #[.pointer (some ⟨w2.heap.size, 0, none⟩)] 37
    rw [World.size_alloc, hW] at this
    exact this
  have hst : Step [] w W3 := ((hs0.then hs1 (by simp)).then hs2 (by simp)).then s3 (by simp)
  have hb3 := ((hb.step hs1 (by simp)).step hs2 (by simp)).step s3 (by simp)
  have hN3 := hN.step0 s3
  have hlt0 : w.heap.size < W0.heap.size := hb.lt
  have z1 := hs1.size
  have z2 := hs2.size
  have hNl : ∀ k, k ∈ footN nb mb (.slice none 0 0) → w1.heap.size ≤ k ∧ k < w2.heap.size := hN.live
  refine ⟨[], [], 0, fun _ => none, [], ?_, .nil, fun a b ha hb => rfl, by simp, by simp, by simp⟩
  refine ⟨footE nb mb (.slice none 0 0) [] [] ++ footM w2.heap.size (.slice none 0 0) (.slice none 0 0), ⟨_, _, rfl, ⟨_, _, rfl, ⟨hN3, fun t ht => by simp at ht, List.Pairwise.nil⟩⟩, ⟨w2.heap.size, _, _, rfl, ⟨bm, ⟨by simp [flatM], .inl ⟨rfl, rfl⟩⟩, World.ownsRow_nil _ _ _ _, Nat.le_refl _, by simp [foot, Value.ownBlock], by simp [foot, Value.ownBlock], fun k hk => by simp [foot, Value.ownBlock] at hk, by simp, by simp⟩⟩, fun k hk hm => ?_⟩, fun k hk => ?_, hst, fun k hk hm => ?_, fun k hk => ?_, fun x hx => ?_⟩
  · simp [footM, foot, Value.ownBlock] at hm
    subst hm
    rcases mem_footE.1 hk with hk | ⟨t, ht, _⟩
    · have := hNl _ hk
      omega
    · simp at ht
  · rcases List.mem_append.1 hk with hk | hk
    · rcases mem_footE.1 hk with hk | ⟨t, ht, _⟩
      · have := hNl _ hk
        omega
      · simp at ht
    · simp [footM, foot, Value.ownBlock] at hk
      omega
  · have hk2 : k = w2.heap.size + 1 ∨ k = w.heap.size := by simpa using hk
    rcases List.mem_append.1 hm with hm | hm
    · rcases mem_footE.1 hm with hm | ⟨t, ht, _⟩
      · have := hNl _ hm
        omega
      · simp at ht
    · simp [footM, foot, Value.ownBlock] at hm
      omega
  · have hk2 : k = w2.heap.size + 1 ∨ k = w.heap.size := by simpa using hk
    omega
  · simp only [List.mem_cons, List.not_mem_nil, or_false] at hx
    rcases hx with rfl | rfl
    · exact b4'
    · exact hb3
/-- what stands at the head of a round -/
structure PHead (w : World) (a : Option Addr) (n cap nb mb mo b4 : Nat) (f : Nat → Value) (wr : World) (Ds : List Nat) (i : Nat) : Prop where
  f0 : f 0 = .slice a n cap
  f2 : f 2 = .pointer (some ⟨w.heap.size, 0, none⟩)
  f3 : f 3 = .pointer (some ⟨nb, 0, none⟩)
  f4 : f 4 = .pointer (some ⟨b4, 0, none⟩)
  f23 : f 23 = .slice a n cap
  f24 : f 24 = .int .i64 (n : Int)
  f25 : f 25 = .int .i64 (i : Int)
  le : i ≤ n
  st : RdE w nb mb mo i ((b4, .cells #[.pointer (some ⟨mo, 0, none⟩)] 37 (0, 0)) :: (w.heap.size, .cells #[.bool false] 4 (0, 0)) :: Ds.map dO) wr
  nd : Ds.Nodup
set_option maxRecDepth 100000 in
set_option maxHeartbeats 8000000 in
theorem plays_in (a : Option Addr) (cap : Nat) (l : List Ac) (w : World) (hA : Acts w a l) (hlen : l.length ≤ 120) :
    Calls Try.prog 4 #[.slice a l.length cap] w fun e w' => e = .returned (.bool true) ∧ Step [] w w' := by
  have HA := Lib.hid hA
  obtain ⟨n, hn⟩ : ∃ n, l.length = n := ⟨_, rfl⟩
  have HN := Lib.hid hn
  rw [hn] at hlen ⊢
  clear hA hn
  have q1 : ((120 : Int) < (n : Int)) = False := by simp; omega
  have hb0 := Blk.new w #[.bool false] 4
  have hs0 := (Step.refl [] w).alloc (.cells #[.bool false] 4)
  obtain ⟨W0, hW0⟩ : ∃ W, w.alloc (.cells #[.bool false] 4) = W := ⟨_, rfl⟩
  rw [hW0] at hb0 hs0
  have HW0 := Lib.hid hW0
  have HB0 := Lib.hid (And.intro hb0 hs0)
  clear hb0 hs0 hW0
  refine calls_of_wp_marks Try.func4 rfl ?_
  simp only [Try.ntmps4, List.size_toArray, List.length_cons, List.length_nil, Nat.reduceAdd, Nat.reduceSub, Array.replicate_succ, Array.replicate_zero, List.push_toArray, List.append_toArray, List.nil_append, List.cons_append]
  go_wp2_with (rw [HW0.out])
  refine (lives_any _).mono ?_
  rintro e w1 ⟨rfl, hs⟩
  have HS1 := Lib.hid hs
  clear hs
  go_wp2_with fail
  refine (new_any w1).mono ?_
  rintro e w2 ⟨nb, mb, rfl, hN, hs⟩
  have HN2 := Lib.hid (And.intro hN hs)
  clear hN hs
  obtain ⟨W3, hW3⟩ : ∃ W3, (w2.alloc (.cells #[.slice none 0 0, .slice none 0 0] 41)).alloc (.cells #[.pointer (some ⟨w2.heap.size, 0, none⟩)] 37) = W3 := ⟨_, rfl⟩
  obtain ⟨mo, hmo⟩ : ∃ m, w2.heap.size = m := ⟨_, rfl⟩
  obtain ⟨b4, hb4⟩ : ∃ b, mo + 1 = b := ⟨_, rfl⟩
  have H2 : RdE w nb mb mo 0 [(b4, .cells #[.pointer (some ⟨mo, 0, none⟩)] 37 (0, 0)), (w.heap.size, .cells #[.bool false] 4 (0, 0))] W3 := start_plays HB0.out.1 HB0.out.2 HS1.out HN2.out.1 HN2.out.2 hmo hb4 hW3
  rw [hmo] at hW3
  have HP := Lib.hid H2
  have H3 := Lib.hid (And.intro hW3 (And.intro hmo hb4))
  clear H2 hW3 hmo hb4 HB0 HW0
  go_wp2_with fail
  rw [H3.out.2.1, H3.out.2.2, H3.out.1]
  refine wp_loop_marks 114 (fun f wr Ds => ∃ i, PHead w a n cap nb mb mo b4 f wr Ds i) (fun f => n - (intOf (f 25)).toNat) ⟨rfl, [], rfl, 0, rfl, rfl, rfl, rfl, rfl, rfl, rfl, Nat.zero_le _, HP.out, List.nodup_nil⟩ ?_
  rintro f wr Ds ⟨i, hH⟩
  obtain ⟨f0, f2, f3, f4, f23, f24, f25, hi, hP, hnd⟩ := hH
  have HH := Lib.hid (And.intro hP hnd)
  rw [lit114]
  rw [f25]
  rw [f0, f2, f3, f4, f23, f24]
  clear f0 f2 f3 f4 f23 f24 hP hnd HP H3
  by_cases hlt : i < n
  · obtain ⟨b, off, ha, hbl, hrow, hok⟩ := HA.out i (by rw [HN.out]; exact hlt)
    subst ha
    obtain ⟨y, hy⟩ : ∃ y, l.getD i ac0 = y := ⟨_, rfl⟩
    rw [hy] at hrow hok
    have hrow := row_step hrow hbl (rd_st HH.out.1) (by simp)
    obtain ⟨bt, bb, bs⟩ := box_a wr y
    have hst0 := Try.store_a _ _ _ y bt
    obtain ⟨W1, hW1⟩ : ∃ W, (wr.alloc (.cells (acC ac0).toArray 43)).setCells wr.heap.size 0 (acC y) = W := ⟨_, rfl⟩
    obtain ⟨b6, hb6⟩ : ∃ b, wr.heap.size = b := ⟨_, rfl⟩
    rw [hW1] at bb bs hst0
    rw [hb6] at bb hst0
    have hR1 := rd_add HH.out.1 bs [(b6, .cells (acC y).toArray 43 (0, 0))] (fun x hx => by
      simp only [List.mem_cons, List.not_mem_nil, or_false] at hx
      subst hx
      exact ⟨Nat.le_of_eq hb6, bb⟩)
    have HR1 := Lib.hid hR1
    have HOK := Lib.hid hok
    have HW1 := Lib.hid (And.intro hW1 hb6)
    have z12 := bb.cell 12
    have z13 := bb.cell 13
    have z14 := bb.cell 14
    simp only [List.getElem?_toArray, acC, actC, List.getElem?_cons_zero, List.getElem?_cons_succ] at z12 z13 z14
    have hzv := zeroA
    have hC0 : ¬ (acC ac0).toArray = #[] := by decide
    have p1 : (i : Int) < (n : Int) := by omega
    have p0 : (0 : Int) ≤ (i : Int) := by omega
    clear hok hy hbl bt bb bs hW1 hb6 hR1
    by_cases hda : y.x.dn ≤ 60
    rotate_left
    · have q2 : ((60 : Int) < (y.x.dn : Int)) = True := by simp; omega
      have hb := rd_blk HR1.out (b := w.heap.size) (C := #[.bool false]) (T := 4) (.tail _ (.tail _ (.head _)))
      have c0 := hb.cell 0
      have g0 := hb.free 0
      simp only [List.getElem?_toArray, List.getElem?_cons_zero] at c0
      clear hb
      go_wp2_with (rw [HW1.out.2])
      exact leave_plays HR1.out (fun y hy => .tail _ (.tail _ hy)) HH.out.2 rfl (fun w' hs => ⟨rfl, hs⟩)
    by_cases hen : y.x.en ≤ 9
    rotate_left
    · have q2 : ((60 : Int) < (y.x.dn : Int)) = False := by simp; omega
      have q3 : ((9 : Int) < (y.x.en : Int)) = True := by simp; omega
      have hb := rd_blk HR1.out (b := w.heap.size) (C := #[.bool false]) (T := 4) (.tail _ (.tail _ (.head _)))
      have c0 := hb.cell 0
      have g0 := hb.free 0
      simp only [List.getElem?_toArray, List.getElem?_cons_zero] at c0
      clear hb
      go_wp2_with (rw [HW1.out.2])
      exact leave_plays HR1.out (fun y hy => .tail _ (.tail _ hy)) HH.out.2 rfl (fun w' hs => ⟨rfl, hs⟩)
    by_cases hmn : y.x.mn ≤ 9
    rotate_left
    · have q2 : ((60 : Int) < (y.x.dn : Int)) = False := by simp; omega
      have q3 : ((9 : Int) < (y.x.en : Int)) = False := by simp; omega
      have q4 : ((9 : Int) < (y.x.mn : Int)) = True := by simp; omega
      have hb := rd_blk HR1.out (b := w.heap.size) (C := #[.bool false]) (T := 4) (.tail _ (.tail _ (.head _)))
      have c0 := hb.cell 0
      have g0 := hb.free 0
      simp only [List.getElem?_toArray, List.getElem?_cons_zero] at c0
      clear hb
      go_wp2_with (rw [HW1.out.2])
      exact leave_plays HR1.out (fun y hy => .tail _ (.tail _ hy)) HH.out.2 rfl (fun w' hs => ⟨rfl, hs⟩)
    have q2 : ((60 : Int) < (y.x.dn : Int)) = False := by simp; omega
    have q3 : ((9 : Int) < (y.x.en : Int)) = False := by simp; omega
    have q4 : ((9 : Int) < (y.x.mn : Int)) = False := by simp; omega
    go_wp2_with (rw [HW1.out.2])
    obtain ⟨K, hK⟩ : ∃ K, y.x.en = K := ⟨_, rfl⟩
    have HK := Lib.hid hK
    rw [hK] at hen z12
    have HEN := Lib.hid hen
    have HDA := Lib.hid (And.intro hda hmn)
    obtain ⟨D0, hD0⟩ := HOK.out.ok
    have HD0 := Lib.hid hD0
    rw [hK]
    clear q2 q3 q4 hda hmn hrow hst0 hzv hC0 z12 z13 z14 hK hD0
    go_loopw [52] (fun s wx => ∃ q : Nat, s = .int .i64 (q : Int) ∧ q ≤ K ∧ Step [] W1 wx ∧ ∀ e ∈ y.M.es.take q, e.da.length ≤ 60) (fun s _ => K - (intOf s).toNat)
    case atStart => exact ⟨0, rfl, Nat.zero_le _, Step.refl _ _, fun e he => by simp at he⟩
    case round =>
      obtain ⟨q, rfl, hq, hs, hfe⟩ := hrel
      have HS := Lib.hid (And.intro hs hfe)
      clear hs hfe
      by_cases hqK : q < K
      · obtain ⟨LX, lx1, lx2, lx3, lx4⟩ := HD0.out.es.rows
        have hqX : q < LX.length := by rw [lx1, HK.out]; exact hqK
        have hqE : q < y.M.es.length := by rw [lx2, HK.out]; exact hqK
        obtain ⟨be, oe, hea, hel, i0, i1, i2, i3⟩ := lx3 q hqX
        obtain ⟨X, hX⟩ : ∃ X, LX.getD q en0 = X := ⟨_, rfl⟩
        rw [hX] at i0 i1 i2 i3
        have hXo := lx4 q X (y.M.es[q]) (by rw [← hX]; simp [List.getD, hqX]) (List.getElem?_eq_getElem hqE)
        have hsw : Step [] w wr := (rd_st HR1.out).then HS.out.1 (by simp)
        have g0 := (hsw.cell hel (by simp)).trans i0
        have g1 := (hsw.cell hel (by simp)).trans i1
        have g2 := (hsw.cell hel (by simp)).trans i2
        have g3 := (hsw.cell hel (by simp)).trans i3
        have r1 : (q : Int) < (K : Int) := by omega
        have r0 : (0 : Int) ≤ (q : Int) := by omega
        have hsn : ∀ e ∈ y.M.es.take (q + 1), e ∈ y.M.es.take q ∨ e = y.M.es[q] := fun e he => by
          rw [List.take_succ_eq_append_getElem hqE] at he
          rcases List.mem_append.1 he with h | h
          · exact .inl h
          · exact .inr (by simpa using h)
        obtain ⟨E, hE⟩ : ∃ E, y.M.es[q]'hqE = E := ⟨_, rfl⟩
        rw [hE] at hXo hsn
        have HEX := Lib.hid (And.intro hXo hsn)
        rw [hea]
        have HEA := Lib.hid hea
        by_cases hdn : X.dn ≤ 60
        · have r2 : ((60 : Int) < (X.dn : Int)) = False := by simp; omega
          have HF := Lib.hid (show ∀ e ∈ y.M.es.take (q + 1), e.da.length ≤ 60 from fun e he => by
            rcases HEX.out.2 e he with h | rfl
            · exact HS.out.2 e h
            · rw [HEX.out.1.da.len]; exact hdn)
          clear hXo hsn hX hE i0 i1 i2 i3 lx1 lx2 lx3 lx4 hqX hqE hel hea hsw
          go_wp2_with fail
          go_roundw
          case rel => exact ⟨q + 1, by go_num, hqK, HS.out.1.alloc _, HF.out⟩
          case measure => simp [intOf]; omega
        · have r2 : ((60 : Int) < (X.dn : Int)) = True := by simp; omega
          have hR2 := rd_step HR1.out (HS.out.1.alloc (.cells #[.int .u64 (X.ix : Int), .int .u64 (X.tm : Int), .bool X.cf, .slice X.da X.dn X.dc] 45))
          have HR2 := Lib.hid hR2
          have hb := rd_blk (rd_step HR1.out HS.out.1) (b := w.heap.size) (C := #[.bool false]) (T := 4) (.tail _ (.tail _ (.head _)))
          have c0 := hb.cell 0
          have gg := hb.free 0
          have hltb := hb.lt
          simp only [List.getElem?_toArray, List.getElem?_cons_zero] at c0
          clear hXo hsn hX hE i0 i1 i2 i3 lx1 lx2 lx3 lx4 hqX hqE hel hea hsw hb hR2
          go_wp2_with fail
          rw [← World.setCell_alloc_past _ _ _ _ hltb]
          exact leave_plays HR2.out (fun y hy => .tail _ (.tail _ hy)) HH.out.2 rfl (fun w' hs => ⟨rfl, hs⟩)
      · obtain rfl : q = K := by omega
        have hes : y.M.es.length = q := by
          obtain ⟨LX, lx1, lx2, lx3, lx4⟩ := HD0.out.es.rows
          rw [lx2, HK.out]
        have hgd : Good w y.x y.M := ⟨HOK.out.ok, ⟨by rw [hes]; exact hen, by rw [HD0.out.ms.len]; exact HDA.out.2, by rw [HD0.out.da.len]; exact HDA.out.1, fun e he => HS.out.2 e (by rw [List.take_of_length_le (by rw [hes]; exact Nat.le_refl _)]; exact he)⟩, HOK.out.wa, HOK.out.wb⟩
        have hRd := rd_step HR1.out HS.out.1
        have HDO := Lib.hid (fun W (hs : Step [] wr W) => do_any y.k y.i y.j y.u y.x y.M (rd_step hRd hs) hgd HOK.out.wi HOK.out.wj (by omega))
        have k1 := (rd_blk hRd (b := b4) (C := #[.pointer (some ⟨mo, 0, none⟩)]) (T := 37) (.tail _ (.head _))).cell 0
        have hb4l := (rd_blk hRd (b := b4) (C := #[.pointer (some ⟨mo, 0, none⟩)]) (T := 37) (.tail _ (.head _))).lt
        have hb6 := (rd_blk hRd (b := b6) (C := (acC y).toArray) (T := 43) (.head _))
        simp only [List.getElem?_toArray, List.getElem?_cons_zero] at k1
        have HB6 := Lib.hid hb6
        have hne : Nonempty (ClsW (Step [] wr.drew)) := ⟨⟨_, Step.refl _ _⟩⟩
        have d1 : ∀ z : ClsW (Step [] wr.drew), z.val.cell? ⟨b4, 0, none⟩ = some (.pointer (some ⟨mo, 0, none⟩)) := fun z => (z.ok.cell hb4l (by simp)).trans k1
        have d2 : ∀ z : ClsW (Step [] wr.drew), rowC z.val b6 0 15 = some (acC y) := fun z => ac_row ((HB6.out.drew).step z.ok (by simp))
        clear hes hgd hRd hq hqK hrow hb6
        go_wp2_with fail
        refine wp_region_ph [[0, 1, 2], [3], [4, 5, 6, 7, 8, 9, 10, 11, 12, 13, 14]] (by kernel_rfl) (by kernel_rfl) ?_
        refine .inl ⟨Step [], Sp0, sp0_law, ?_⟩
        simp only [opsAt, List.getElem?_cons_zero, List.getElem?_cons_succ, Option.toList, List.cons_append, List.nil_append]
        refine wpR_pre sp0_law anti_norm 3 _ _ _ ?_ rfl
        simp only [List.take_succ_cons, List.take_zero, List.drop_succ_cons, List.drop_zero]
        repeat (go_big_quiet_step (fail))
        refine wpQuiet_nil ?_
        unfold wpR
        intro w4 hs4 _
        have hs40 : Step [] wr w4 := (Step.refl [] wr).drew.then hs4 (by simp)
        refine .inr ⟨3, _, rfl, rfl, by rfl, ?_⟩
        refine ph_call 11 _ _ rfl Try.func11 (by kernel_rfl) (by kernel_rfl) #[.pointer (some ⟨nb, 0, none⟩), .pointer (some ⟨mo, 0, none⟩), .agg (acC y).toArray] (by simp [Act.eval]) (HDO.out w4 hs40) ?_
        rintro e w5 ⟨rfl, hR5⟩
        refine ⟨_, rfl, ?_⟩
        clear d1 d2 hne k1 hb4l hs4 hs40
        have k1 := (rd_blk hR5 (b := b4) (C := #[.pointer (some ⟨mo, 0, none⟩)]) (T := 37) (.tail _ (.head _)))
        obtain ⟨T5, X5, n5, f5, P5, hR5⟩ := hR5
        obtain ⟨am, cm, pv5, hmo⟩ := hR5.mod
        have m0 := hmo.cell 0
        have k0 := k1.cell 0
        simp only [List.getElem?_toArray, List.getElem?_cons_zero] at m0 k0
        have hN5 := hR5.n64
        have HLN := Lib.hid (fun W (hs : Step [] w5 W) => (hR5.st.step hs).len)
        obtain ⟨N5, hn5⟩ : ∃ N, T5.length = N := ⟨_, rfl⟩
        rw [hn5] at m0 hN5 HLN
        have hmlt := hmo.lt
        have hklt := k1.lt
        have HR5 := Lib.hid hR5
        have HN5 := Lib.hid hn5
        have hne : Nonempty (ClsW (Step [] w5)) := ⟨⟨_, Step.refl _ _⟩⟩
        have d1 : ∀ z : ClsW (Step [] w5), z.val.cell? ⟨b4, 0, none⟩ = some (.pointer (some ⟨mo, 0, none⟩)) := fun z => (z.ok.cell hklt (by simp)).trans k0
        have d2 : ∀ z : ClsW (Step [] w5), z.val.cell? ⟨mo, 0, none⟩ = some (.slice am N5 cm) := fun z => (z.ok.cell hmlt (by simp)).trans m0
        clear hR5 hmo hn5 k1 k0 m0
        refine .inl ⟨Step [], SpV (.int .i64 (N5 : Int)), spV_law _, ?_⟩
        simp only [opsAt, List.getElem?_cons_zero, List.getElem?_cons_succ, Option.toList, List.cons_append, List.nil_append]
        refine wpR_pre (spV_law _) anti_norm 3 _ _ _ ?_ rfl
        simp only [List.take_succ_cons, List.take_zero, List.drop_succ_cons, List.drop_zero]
        go_simp
        repeat (go_big_quiet_step (fail))
        refine wpQuiet_nil ?_
        refine wpR_callF 9 _ _ rfl (by rfl) Try.func9 (by kernel_rfl) (by kernel_rfl) #[.pointer (some ⟨nb, 0, none⟩)] (by simp [Act.eval]) (fun W hW => (HLN.out W hW).mono fun e w'' h => ⟨_, h.1, rfl, h.2⟩) ?_
        rintro v ⟨_, _, hv⟩
        unfold SpV at hv
        subst hv
        refine wpR_pre (spV_law _) anti_norm 7 _ _ _ ?_ rfl
        simp only [List.take_succ_cons, List.take_zero, List.drop_succ_cons, List.drop_zero]
        go_simp
        repeat (go_big_quiet_step (fail))
        refine wpQuiet_nil ?_
        unfold wpR
        intro w6 hs6 _
        unfold wpPh
        have hR6 : Rd w nb mb mo (i + 1) T5 X5 n5 f5 P5 _ w6 := ⟨HR5.out.st.step hs6, HR5.out.rx, HR5.out.wr, HR5.out.n64, HR5.out.nq, HR5.out.pq⟩
        have HR6 := Lib.hid hR6
        clear hs6 hR6 d1 d2 hne
        go_wp2_with fail
        refine (all_box _ _).mono ?_
        rintro e w9 ⟨rfl, hw9⟩
        obtain ⟨b9, hb9⟩ : ∃ b, w6.heap.size = b := ⟨_, rfl⟩
        have hs9 : Step [] w6 w9 := by rw [hw9]; exact ((Step.refl [] w6).alloc _).alloc _
        have hk9 : Blk w9 b9 #[.int .i64 0] 3 := by rw [hw9, ← hb9]; exact (Blk.new w6 _ _).alloc _
        have hx9 : Blk w9 (b9 + 1) #[.pointer (some ⟨nb, 0, none⟩)] 23 := by
          have := Blk.new (w6.alloc (.cells #[.int .i64 0] 3)) #[.pointer (some ⟨nb, 0, none⟩)] 23
          rw [World.size_alloc, hb9, ← hw9] at this
          exact this
        have hR9 := HR6.out.st.add hs9 [(b9, .cells #[.int .i64 0] 3 (0, 0))] (fun x hx => by
          simp only [List.mem_cons, List.not_mem_nil, or_false] at hx
          subst hx
          exact ⟨Nat.le_of_eq hb9, hk9⟩)
        have e9 : (w6.alloc (.cells #[.int .i64 0] 3)).heap.size = b9 + 1 := by rw [World.size_alloc, hb9]
        rw [e9, hb9]
        have HE9 := Lib.hid (And.intro hb9 e9)
        obtain ⟨base, lv, baseM, xv, pv6, hN9, hM9, hdj9, hl9, hx9'⟩ := hR9.parts
        have hsep := allC_sep 5 (by omega) (b9 + 1) base nb mb lv T5 n5 f5
        have hPre : ∀ W, Step [] w9 W → W.cell? ⟨b9 + 1, 0, none⟩ = some (.pointer (some ⟨nb, 0, none⟩)) ∧ NtE W base nb mb lv T5 [] n5 f5 := fun W hs => ⟨(hs.cell hx9.lt (by simp)).trans (hx9.cell 0), hN9.step hs (fun k _ => List.not_mem_nil)⟩
        obtain ⟨R, hR⟩ : ∃ R, footE nb mb lv T5 [] = R := ⟨_, rfl⟩
        rw [hR] at hsep hdj9 hl9 hx9'
        have HPre := Lib.hid hPre
        have HSEP := Lib.hid hsep
        have HR9 := Lib.hid hR9
        have HK9 := Lib.hid hk9
        have HPT := Lib.hid (And.intro hM9 (And.intro hdj9 (And.intro hl9 hx9')))
        have hb9l := hk9.lt
        clear hw9 hs9 hk9 hx9 hR9 hb9 e9 hN9 hM9 hdj9 hl9 hx9' hsep hPre hR
        have hzv := zeroM
        unfold msV at hzv
        have hC0 : ¬ (msC ms0).toArray = #[] := by decide
        go_wp2_with fail
        refine (wpIn_wide (n := 6)).1 ?_
        refine wpIn_range_sepVX (gf := 29) (lb := #[.pointer (some ⟨b9 + 1, 0, none⟩)]) rfl (by omega) rfl trivial (enters_of Try.func29 (by kernel_rfl) rfl)
          HSEP.out HPre.out (fun _ => rfl) (fun k hk => (HPT.out.2.2.1 k hk).2)
          (fun xs A C => RgI R b9 w9 xs.length A C) (fun _ _ _ _ => False)
          (fun s A B C H h hs hd => h.step hs hd) (fun s A C h => h.live) (fun s A C h => h.dj) (fun _ _ _ _ _ _ h _ _ => h.elim) (fun _ _ _ _ h => h.elim)
          (offR R w9.heap.size) R (fun k hk => (HPT.out.2.2.1 k hk).2) offR_dj ⟨rfl, Step.refl _ _, HK9.out, hb9l, (HPT.out.2.2.2 _ (.head _)).1⟩
          (fun pre x a' A C => a'.tmps.size = 114 ∧ a'.defers = [] ∧ a'.tmps.getD 4 undef = .pointer (some ⟨b4, 0, none⟩) ∧ a'.tmps.getD 9 undef = .pointer (some ⟨b9, 0, none⟩) ∧ a'.tmps.getD 10 undef = .int .i64 (x.1 : Int) ∧ (∃ g, a'.tmps.getD 11 undef = .pointer (some ⟨g, 0, none⟩) ∧ Blk A g (msC x.2.1).toArray 31) ∧ x.1 = pre.length ∧ pre.length < T5.length ∧ TmOk A ⟨x.2.1, (T5.getD pre.length tm0).M, x.2.2⟩) ?hAx ?assign ?body ?done ?stop
        case stop => exact fun D c pre B C hD hDC hp h => h.elim
        case hAx =>
          rintro pre z a' A B C b r ⟨e1, e2, e3, e4, e5, ⟨g, e6, e7⟩, e8, e9, e10⟩ hb hbC hby hs
          refine ⟨e1, e2, e3, e4, e5, ⟨g, e6, e7.step hs (fun hm => ?_)⟩, e8, e9, e10.step hs (fun k hk hm => ?_)⟩
          · simp only [List.mem_cons, List.not_mem_nil, or_false] at hm
            subst hm
            unfold Blk at e7
            rw [e7] at hb
            cases hb
          · simp only [List.mem_cons, List.not_mem_nil, or_false] at hm
            subst hm
            exact hby hk
        case assign =>
          rintro l2 pre ⟨yi, ym, yD⟩ A C K hI hV _ _ _ hK
          obtain ⟨v1, v2, v3⟩ := hV pre ⟨yi, ym, yD⟩ rfl
          obtain ⟨bt, bb, bs⟩ := box_m A ym
          have hst := Try.store_m _ _ _ ym bt
          have HV := Lib.hid (And.intro v1 v2)
          clear v1 v2
          gi_wp2
          refine hK _ _ bs ?_
          exact ⟨rfl, rfl, rfl, rfl, rfl, ⟨_, rfl, bb⟩, HV.out.1, HV.out.2, v3.step bs (fun k _ => List.not_mem_nil)⟩
        case body =>
          rintro l2 pre ⟨yi, ym, yD⟩ a' A C hrec hlC hlx hlv hdx hdr hI ⟨hsz, hdf, g4, g9, g10, ⟨g, g11, hbg⟩, hyi, hlT, hT⟩
          obtain ⟨qq, hqq⟩ : ∃ q, pre.length = q := ⟨_, rfl⟩
          dsimp only at hyi hT
          rw [hqq] at hyi hlT hT hI
          subst hyi
          obtain ⟨f', hf'⟩ : ∃ f' : Nat → Value, (fun k => a'.tmps.getD k undef) = f' := ⟨_, rfl⟩
          have h4 : f' 4 = .pointer (some ⟨b4, 0, none⟩) := by rw [← hf']; exact g4
          have h9 : f' 9 = .pointer (some ⟨b9, 0, none⟩) := by rw [← hf']; exact g9
          have h10 : f' 10 = .int .i64 (yi : Int) := by rw [← hf']; exact g10
          have h11 : f' 11 = .pointer (some ⟨g, 0, none⟩) := by rw [← hf']; exact g11
          rw [act_lit hsz, hf', hdf, lit114, h4, h9, h10, h11]
          obtain ⟨rfl, hA1, hA2, hA4, hA6⟩ := hI
          have hdjM : Dj (footM mo xv pv6) (b9 :: R) := fun k hk hm => by
            rcases List.mem_cons.1 hm with hm | hm
            · exact (HPT.out.2.2.2 _ (.head _)).2 (by rw [← hm]; exact hk)
            · exact HPT.out.2.1 k hm hk
          have hMA := HPT.out.1.step hA1 hdjM
          have hXT : X5.length = T5.length := HR6.out.lenX
          have hqN : yi < N5 := by rw [← HN5.out]; exact hlT
          obtain ⟨gm, om, cm2, hxv, hgl, hrow⟩ := hMA.row yi (by rw [hXT]; exact hlT)
          have hbm := hMA.blk
          rw [hxv, hXT, HN5.out] at hbm
          have hbk4 := (HR9.out.blk (b := b4) (C := #[.pointer (some ⟨mo, 0, none⟩)]) (T' := 37) (.tail _ (.tail _ (.head _))))
          have hb49 : b4 ∉ b9 :: R := fun hm => by
            rcases List.mem_cons.1 hm with hm | hm
            · have h1 := hbk4
              have h2 := HK9.out
              unfold Blk at h1 h2
              rw [hm, h2] at h1
              simp at h1
            · exact (HPT.out.2.2.2 _ (.tail _ (.tail _ (.head _)))).1 hm
          have hbk4A := hbk4.step hA1 hb49
          obtain ⟨xx, hxx⟩ : ∃ x, X5.getD yi ms0 = x := ⟨_, rfl⟩
          have hgd := HR6.out.rx.at yi (by rw [hXT]; exact hlT)
          rw [hxx, mapM_getD T5 yi hlT] at hgd
          rw [hxx] at hrow
          obtain ⟨Dx, hDx⟩ := hgd.ok
          have hwA : Step [] w A := by
            refine HR9.out.st.then hA1 (fun k hk => .inr ?_)
            rcases List.mem_cons.1 hk with hk | hk
            · rw [hk]; exact (Kept.lt HR9.out (.head _)).1
            · exact (HPT.out.2.2.1 k hk).1
          have HSM := Lib.hid (fun W (hs : Step [] A W) => same_any ym xx (T5.getD yi tm0).M yD Dx W (hT.ok.step hs (fun k _ => List.not_mem_nil)) (hDx.step (hwA.then hs (by simp)) (fun k _ => List.not_mem_nil)) hgd.few)
          have c9 := hA2.cell 0
          have f9 := hA2.free 0
          have c4 := hbk4A.cell 0
          have cm := hbm.cell 0
          simp only [List.getElem?_toArray, List.getElem?_cons_zero] at c9 c4 cm
          have l9 := hA2.lt
          have l4 := hbk4A.lt
          have lm := hbm.lt
          have hne : Nonempty (ClsW (Step [] A.drew)) := ⟨⟨_, Step.refl _ _⟩⟩
          have d1 : ∀ z : ClsW (Step [] A.drew), z.val.cell? ⟨b9, 0, none⟩ = some (.int .i64 (yi : Int)) := fun z => (z.ok.cell l9 (by simp)).trans c9
          have d2 : ∀ z : ClsW (Step [] A.drew), z.val.cell? ⟨b4, 0, none⟩ = some (.pointer (some ⟨mo, 0, none⟩)) := fun z => (z.ok.cell l4 (by simp)).trans c4
          have d3 : ∀ z : ClsW (Step [] A.drew), z.val.cell? ⟨mo, 0, none⟩ = some (.slice (some ⟨gm, om, none⟩) N5 cm2) := fun z => (z.ok.cell lm (by simp)).trans cm
          have d4 : ∀ z : ClsW (Step [] A.drew), rowC z.val gm (om + yi * 11) 11 = some (msC xx) := fun z => by
            have h1 := row_step hrow hgl (Step.refl [] A).drew (by simp)
            exact row_step h1 hgl z.ok (by simp)
          have d5 : ∀ z : ClsW (Step [] A.drew), rowC z.val g 0 11 = some (msC ym) := fun z => msg_row ((hbg.drew).step z.ok (by simp))
          have r1 : decide ((N5 : Int) ≤ (yi : Int)) = false := by simp; omega
          have r1' : decide (N5 ≤ yi) = false := by simp; omega
          have r2 : (yi : Int) < (N5 : Int) := by omega
          have r3 : (0 : Int) ≤ (yi : Int) := by omega
          have HAA := Lib.hid (And.intro hA1 (And.intro hA2 (And.intro hA4 (And.intro hA6 hqq))))
          clear hA1 hA2 hA4 hA6 hqq hdjM hMA hXT hxv hrow hbm hbk4 hb49 hbk4A hxx hgd hDx hwA hgl hT hbg hf' h4 h9 h10 h11 g4 g9 g10 g11 hsz hdf hrec c4 cm hlT
          gi_wp2
          refine region_round (G := Step [] A.drew) (by kernel_rfl) (by kernel_rfl) (by kernel_rfl) (Step.refl _ _) ?_
          repeat (go_big_quiet_step ((go_at_call 13; exact cls_call ((HSM.out _ ((Step.refl [] A).drew.then (ClsW.ok _) (by simp))).mono fun e w3 h => ⟨h.1, Step.then (ClsW.ok _) h.2 (by simp)⟩))))
          refine wpQuiet_nil ?_
          rintro B9 ⟨⟨B9x, hw9⟩, hq9⟩
          dsimp only at hq9
          subst hq9
          have hs9 : Step [] A B9 := (Step.refl [] A).drew.then hw9 (by simp)
          have c9 := (hs9.cell l9 (by simp)).trans c9
          have f9' := (hs9.frozen l9 (by simp)).trans f9
          have HS9 := Lib.hid hs9
          clear d1 d2 d3 d4 d5 hne hw9 hs9 r1 r1' r2 r3
          gi_wp2
          obtain ⟨hA1, hA2, hA4, hA6, hqq⟩ := HAA.out
          have in1 : b9 ∈ offR R w9.heap.size := mem_offR.2 ⟨hA4, hA6⟩
          refine ⟨_, ⟨rfl, (hA1.then HS9.out (by simp)).setCell (.inl (by simp)) 0 _, ?_, hA4, hA6⟩, (HS9.out.mono (by simp)).setCell (.inl (by simp [in1])) 0 _, fun k hk => .inl (List.mem_append_left _ hk)⟩
          have := (hA2.step HS9.out (by simp)).set 0 (.int .i64 ((yi : Int) + 1))
          simp only [List.length_append, List.length_cons, List.length_nil, hqq]
          simpa using this
        case done =>
          rintro D xs B C hD hDC hxs hI hm hk
          obtain ⟨rfl, hA1, hA2, hA4, hA6⟩ := hI
          rw [hxs, HN5.out] at hA2
          have sB : Step [b9] w9 B := ⟨hA1.os, hA1.tape, hA1.output, hA1.size, fun k hlt hn => by
            by_cases hR : k ∈ R
            · exact hk k hR
            · exact hA1.block k hlt (fun hm => by
                rcases List.mem_cons.1 hm with hm | hm
                · exact hn (by simp [hm])
                · exact hR hm)⟩
          have hold : ∀ y, y ∈ (b4, Obj.cells #[.pointer (some ⟨mo, 0, none⟩)] 37 (0, 0)) :: (w.heap.size, .cells #[.bool false] 4 (0, 0)) :: Ds.map dO → y.1 ≠ b9 ∧ w9.heap[y.1]? = some y.2 := fun y hy => by
            have h1 := Kept.get HR6.out.st (b := y.1) (o := y.2) (.tail _ hy)
            have h2 := (Kept.lt HR6.out.st (x := y) (.tail _ hy)).2
            have h3 := Kept.get HR9.out (b := y.1) (o := y.2) (.tail _ (.tail _ hy))
            exact ⟨by have := HE9.out.1; omega, h3⟩
          have hK : St w nb mb mo T5 [] n5 f5 X5 P5 ((b4, Obj.cells #[.pointer (some ⟨mo, 0, none⟩)] 37 (0, 0)) :: (w.heap.size, .cells #[.bool false] 4 (0, 0)) :: (D :: Ds).map dO) B := Kept.set HR9.out St.stb (sB.mono (by simp)) (fun y hy => by
            have key : y.1 = D ∧ y = dO D ∨ y ∈ (b4, Obj.cells #[.pointer (some ⟨mo, 0, none⟩)] 37 (0, 0)) :: (w.heap.size, .cells #[.bool false] 4 (0, 0)) :: Ds.map dO := by
              simp only [List.map_cons, List.mem_cons] at hy ⊢
              rcases hy with hy | hy | hy | hy
              · exact .inr (.inl hy)
              · exact .inr (.inr (.inl hy))
              · exact .inl ⟨by rw [hy]; rfl, hy⟩
              · exact .inr (.inr (.inr hy))
            rcases key with ⟨h1, h2⟩ | hy
            · exact ⟨.inr (by rw [h1]; exact hD), by rw [h2]; exact hm⟩
            · obtain ⟨h1, h2⟩ := hold y hy
              exact ⟨.inl (List.mem_map_of_mem (.tail _ (.tail _ hy))), (sB.block y.1 (Array.getElem?_eq_some_iff.1 h2).1 (by simpa using h1)).trans h2⟩)
          have hDn : D ∉ Ds := fun hd => by
            have := (Kept.lt HR9.out (x := dO D) (.tail _ (.tail _ (.tail _ (.tail _ (List.mem_map_of_mem hd)))))).2
            simp only [dO] at this
            omega
          have hRd : Rd w nb mb mo (i + 1) T5 X5 n5 f5 P5 _ B := ⟨hK, HR6.out.rx, HR6.out.wr, HR6.out.n64, HR6.out.nq, HR6.out.pq⟩
          have HRD := Lib.hid (And.intro hRd hDn)
          obtain ⟨am7, cm7, pv7, hmo7⟩ := hRd.mod
          have hb4 := hRd.st.blk (b := b4) (C := #[.pointer (some ⟨mo, 0, none⟩)]) (T' := 37) (.head _)
          rw [HN5.out] at hmo7
          have c9 := hA2.cell 0
          have c4 := hb4.cell 0
          have cm := hmo7.cell 0
          simp only [List.getElem?_toArray, List.getElem?_cons_zero] at c9 c4 cm
          have l9 := hA2.lt
          have l4 := hb4.lt
          have lm := hmo7.lt
          have hne : Nonempty (ClsW (Step [] B.drew)) := ⟨⟨_, Step.refl _ _⟩⟩
          have d1 : ∀ z : ClsW (Step [] B.drew), z.val.cell? ⟨b9, 0, none⟩ = some (.int .i64 (N5 : Int)) := fun z => (z.ok.cell l9 (by simp)).trans c9
          have d2 : ∀ z : ClsW (Step [] B.drew), z.val.cell? ⟨b4, 0, none⟩ = some (.pointer (some ⟨mo, 0, none⟩)) := fun z => (z.ok.cell l4 (by simp)).trans c4
          have d3 : ∀ z : ClsW (Step [] B.drew), z.val.cell? ⟨mo, 0, none⟩ = some (.slice am7 N5 cm7) := fun z => (z.ok.cell lm (by simp)).trans cm
          clear hA1 hA2 hA4 hA6 hxs hm hk sB hold hK hDn hRd hmo7 hb4 c9 c4 cm hD hDC
          dsimp only
          rw [← mks_cons]
          go_wp2_with fail
          refine region_cls (G := Step [] B.drew) (by kernel_rfl) (by kernel_rfl) (Step.refl _ _) ?_
          repeat (go_big_quiet_step (fail))
          refine wpQuiet_nil ?_
          rintro B9 ⟨⟨B9x, hw9⟩, hq9⟩
          dsimp only at hq9
          subst hq9
          have HF := Lib.hid (HRD.out.1.st.step ((Step.refl [] B).drew.then hw9 (by simp)))
          clear d1 d2 d3 hw9 hne
          go_wp2_with fail
          refine ⟨⟨rfl, D :: Ds, rfl, i + 1, ⟨rfl, rfl, rfl, rfl, rfl, rfl, by show Value.int _ _ = Value.int _ _; congr 1, hlt, ⟨_, _, _, _, _, ⟨HF.out, HR6.out.rx, HR6.out.wr, HR6.out.n64, HR6.out.nq, HR6.out.pq⟩⟩, List.nodup_cons.2 ⟨HRD.out.2, HH.out.2⟩⟩⟩, ?_⟩
          show n - (intOf (Value.int .i64 ((i : Int) + 1))).toNat < n - (intOf (Value.int .i64 (i : Int))).toNat
          simp [intOf]
          omega
  · obtain rfl : n = i := by omega
    have p1 : ¬ (n : Int) < (n : Int) := by omega
    have hb : Blk wr w.heap.size #[.bool false] 4 := rd_blk HH.out.1 (.tail _ (.head _))
    have c0 := hb.cell 0
    have g0 := hb.free 0
    simp only [List.getElem?_toArray, List.getElem?_cons_zero] at c0
    clear hb
    go_wp2_with fail
    exact leave_plays HH.out.1 (fun y hy => .tail _ hy) HH.out.2 rfl (fun w' hs => ⟨rfl, hs⟩)
set_option maxRecDepth 100000 in
set_option maxHeartbeats 1000000 in
theorem plays_much (a : Option Addr) (cap len : Nat) (w : World) (h : ¬ len ≤ 120) :
    Calls Try.prog 4 #[.slice a len cap] w fun e w' => e = .returned (.bool true) ∧ Step [] w w' := by
  have q1 : ((120 : Int) < (len : Int)) = True := by simp; omega
  have hb0 := Blk.new w #[.bool false] 4
  have hs0 := (Step.refl [] w).alloc (.cells #[.bool false] 4)
  obtain ⟨W0, hW0⟩ : ∃ W, w.alloc (.cells #[.bool false] 4) = W := ⟨_, rfl⟩
  rw [hW0] at hb0 hs0
  have HW0 := Lib.hid hW0
  have HB0 := Lib.hid (And.intro hb0 hs0)
  clear hb0 hs0 hW0 h
  go_enter Try.func4, Try.ntmps4
  go_wp2_with (rw [HW0.out])
  refine (lives_any _).mono ?_
  rintro e w1 ⟨rfl, hs1⟩
  have HS1 := Lib.hid hs1
  clear hs1
  go_wp2_with fail
  refine (lives_any _).mono ?_
  rintro e w2 ⟨rfl, hs2⟩
  have hb2 := (HB0.out.1.step HS1.out (by simp)).step hs2 (by simp)
  have hst := (HB0.out.2.then HS1.out (by simp)).then hs2 (by simp)
  have c0 := hb2.cell 0
  have g0 := hb2.free 0
  simp only [List.getElem?_toArray, List.getElem?_cons_zero] at c0
  have HF := Lib.hid (And.intro (hb2.set 0 (.bool true)) (hst.setCell (.inr (Nat.le_refl _)) 0 (.bool true)))
  clear hb2 hst hs2
  go_wp2_with fail
  obtain ⟨h1, h2⟩ := HF.out
  have c1 := h1.cell 0
  simp only [Array.setIfInBounds, List.size_toArray] at c1
  refine bodyPost_ret (v := .bool true) ?_ rfl ⟨rfl, h2⟩
  have c2 : (w2.setCell ⟨w.heap.size, 0, none⟩ (.bool true)).cell? ⟨w.heap.size, 0, none⟩ = some (.bool true) := by simpa using h1.cell 0
  simp [results, Try.f4, go_sem, c2]
theorem plays_any (a : Option Addr) (cap : Nat) (l : List Ac) (w : World) (hA : Acts w a l) :
    Calls Try.prog 4 #[.slice a l.length cap] w fun e w' => e = .returned (.bool true) ∧ Below w.heap.size w w' := by
  by_cases h : l.length ≤ 120
  · exact (plays_in a cap l w hA h).mono fun e w' h => ⟨h.1, h.2.below'⟩
  · exact (plays_much a cap _ w h).mono fun e w' h => ⟨h.1, h.2.below'⟩
end Go.Proofs.Ytminpglkipnhcaa
end
