/- complineref18.Command, Request. -/
import Derived.Test.YtdfkagpnfgmbeaaCmdL
import Derived.Test.YtdfkagpnfgmbeaaSqB
import Derived.Test.YtdfkagpnfgmbeaaCmdB
namespace Go.Proofs.Ytdfkagpnfgmbeaa
set_option linter.unusedVariables false
set_option linter.unusedSimpArgs false
open Go.RowKit
attribute [local go_sem ↓] exec_load_c exec_store_c exec_load_s exec_store_s
attribute [local go_sem] Try.load_c row_drew Try.store_c Try.load_s Try.store_s bstr_app

set_option maxRecDepth 100000 in
set_option maxHeartbeats 1000000 in
theorem refCmd_0 (c : PC) (a : Option Addr) (k : Nat) (w : World) (hk : c.kd = 0) (ha : TxS w a c.sp.ds) (hl : LitC c) (hw : WfC c) :
    Calls Try.prog 35 #[.agg (cmC c a c.sp.ds.length k).toArray] w fun e w' => e = .returned (.string (bstr (cmdB c))) ∧ Step [] w w' := by
  have hcb : cmdB c = numB 0 ++ ([]) := by
    unfold cmdB fieldsB
    rw [hk]
    simp
  have HCB := Lib.hid hcb
  have b1 := Blk.new w (cmC c a c.sp.ds.length k).toArray 38
  have s1 := (Step.refl [] w).alloc (.cells (cmC c a c.sp.ds.length k).toArray 38)
  obtain ⟨W, hWW⟩ : ∃ W, w.alloc (.cells (cmC c a c.sp.ds.length k).toArray 38) = W := ⟨_, rfl⟩
  obtain ⟨cb, hcb⟩ : ∃ cb, w.heap.size = cb := ⟨_, rfl⟩
  obtain ⟨n, hnn⟩ : ∃ n, c.sp.ds.length = n := ⟨_, rfl⟩
  rw [hWW] at b1 s1
  rw [hcb] at b1
  have HN := Lib.hid hnn
  rw [hnn] at hWW b1 ⊢
  have HWW := Lib.hid (And.intro hWW hcb)
  have HB := Lib.hid b1
  have HS := Lib.hid s1
  have HX := Lib.hid (And.intro hl (And.intro hw ha))
  have l1 := numB_len 0
  have HNum := Lib.hid (show Calls Try.prog 24 #[.int .u64 0] W (fun e w' => e = .returned (.string (bstr (numB 0))) ∧ Step [] W w') from refNum_any 0 W (by unfold M64; omega))
  have c0 : W.cell? ⟨cb, 0, none⟩ = some (.int .i64 c.kd) := b1.cell 0
  rw [hk] at c0
  have HK := Lib.hid hk
  clear b1 s1 hWW hcb hnn ha hl hw hk
  go_enter Try.func35, Try.ntmps35
  go_wp2_with (rw [HWW.out.1, HWW.out.2])
  refine HNum.out.mono ?_
  rintro e w1 ⟨rfl, hs1⟩
  have HS1 := Lib.hid (HS.out.then hs1 (by simp))
  have HB1 := Lib.hid (HB.out.step hs1 (by simp))
  clear hs1 c0 HNum HS
  have c0 : w1.cell? ⟨cb, 0, none⟩ = some (.int .i64 c.kd) := HB1.out.cell 0
  rw [HK.out] at c0
  go_wp2_with fail
  go_ret
  exact ⟨by rw [HCB.out, List.append_nil]; rfl, HS1.out⟩
set_option maxRecDepth 100000 in
set_option maxHeartbeats 1000000 in
theorem refCmd_1 (c : PC) (a : Option Addr) (k : Nat) (w : World) (hk : c.kd = 1) (ha : TxS w a c.sp.ds) (hl : LitC c) (hw : WfC c) :
    Calls Try.prog 35 #[.agg (cmC c a c.sp.ds.length k).toArray] w fun e w' => e = .returned (.string (bstr (cmdB c))) ∧ Step [] w w' := by
  have hcb : cmdB c = numB 1 ++ (bytesS c.sp) := by
    unfold cmdB fieldsB
    rw [hk]
    simp
  have HCB := Lib.hid hcb
  have b1 := Blk.new w (cmC c a c.sp.ds.length k).toArray 38
  have s1 := (Step.refl [] w).alloc (.cells (cmC c a c.sp.ds.length k).toArray 38)
  obtain ⟨W, hWW⟩ : ∃ W, w.alloc (.cells (cmC c a c.sp.ds.length k).toArray 38) = W := ⟨_, rfl⟩
  obtain ⟨cb, hcb⟩ : ∃ cb, w.heap.size = cb := ⟨_, rfl⟩
  obtain ⟨n, hnn⟩ : ∃ n, c.sp.ds.length = n := ⟨_, rfl⟩
  rw [hWW] at b1 s1
  rw [hcb] at b1
  have HN := Lib.hid hnn
  rw [hnn] at hWW b1 ⊢
  have HWW := Lib.hid (And.intro hWW hcb)
  have HB := Lib.hid b1
  have HS := Lib.hid s1
  have HX := Lib.hid (And.intro hl (And.intro hw ha))
  have l1 := numB_len 1
  have HNum := Lib.hid (show Calls Try.prog 24 #[.int .u64 1] W (fun e w' => e = .returned (.string (bstr (numB 1))) ∧ Step [] W w') from refNum_any 1 W (by unfold M64; omega))
  have c0 : W.cell? ⟨cb, 0, none⟩ = some (.int .i64 c.kd) := b1.cell 0
  rw [hk] at c0
  have HK := Lib.hid hk
  clear b1 s1 hWW hcb hnn ha hl hw hk
  go_enter Try.func35, Try.ntmps35
  go_wp2_with (rw [HWW.out.1, HWW.out.2])
  refine HNum.out.mono ?_
  rintro e w1 ⟨rfl, hs1⟩
  have HS1 := Lib.hid (HS.out.then hs1 (by simp))
  have HB1 := Lib.hid (HB.out.step hs1 (by simp))
  clear hs1 c0 HNum HS
  have c0 : w1.cell? ⟨cb, 0, none⟩ = some (.int .i64 c.kd) := HB1.out.cell 0
  rw [HK.out] at c0
  have c5 := cm_sp HB1.out
  have hz := two_size (a := numB 1) (b := bytesS c.sp) (by have := bytesS_len c.sp HX.out.1.sp; omega)
  have HC := Lib.hid (fun (w1 : World) (h : Step [] w w1) => refBytes_any c.sp a k w1 (HX.out.2.2.step0 h) HX.out.1.sp HX.out.2.1.sp)
  rw [HN.out] at HC
  go_wp2_with fail
  refine (HC.out _ HS1.out).mono ?_
  rintro e w2 ⟨rfl, hs2⟩
  have HS2 := Lib.hid (HS1.out.then hs2 (by simp))
  clear hs2
  go_wp2_with fail
  go_ret
  exact ⟨by rw [HCB.out]; rfl, HS2.out⟩
set_option maxRecDepth 100000 in
set_option maxHeartbeats 1000000 in
theorem refCmd_2 (c : PC) (a : Option Addr) (k : Nat) (w : World) (hk : c.kd = 2) (ha : TxS w a c.sp.ds) (hl : LitC c) (hw : WfC c) :
    Calls Try.prog 35 #[.agg (cmC c a c.sp.ds.length k).toArray] w fun e w' => e = .returned (.string (bstr (cmdB c))) ∧ Step [] w w' := by
  have hcb : cmdB c = numB 2 ++ (txtB c.wk) := by
    unfold cmdB fieldsB
    rw [hk]
    simp
  have HCB := Lib.hid hcb
  have b1 := Blk.new w (cmC c a c.sp.ds.length k).toArray 38
  have s1 := (Step.refl [] w).alloc (.cells (cmC c a c.sp.ds.length k).toArray 38)
  obtain ⟨W, hWW⟩ : ∃ W, w.alloc (.cells (cmC c a c.sp.ds.length k).toArray 38) = W := ⟨_, rfl⟩
  obtain ⟨cb, hcb⟩ : ∃ cb, w.heap.size = cb := ⟨_, rfl⟩
  obtain ⟨n, hnn⟩ : ∃ n, c.sp.ds.length = n := ⟨_, rfl⟩
  rw [hWW] at b1 s1
  rw [hcb] at b1
  have HN := Lib.hid hnn
  rw [hnn] at hWW b1 ⊢
  have HWW := Lib.hid (And.intro hWW hcb)
  have HB := Lib.hid b1
  have HS := Lib.hid s1
  have HX := Lib.hid (And.intro hl (And.intro hw ha))
  have l1 := numB_len 2
  have HNum := Lib.hid (show Calls Try.prog 24 #[.int .u64 2] W (fun e w' => e = .returned (.string (bstr (numB 2))) ∧ Step [] W w') from refNum_any 2 W (by unfold M64; omega))
  have c0 : W.cell? ⟨cb, 0, none⟩ = some (.int .i64 c.kd) := b1.cell 0
  rw [hk] at c0
  have HK := Lib.hid hk
  clear b1 s1 hWW hcb hnn ha hl hw hk
  go_enter Try.func35, Try.ntmps35
  go_wp2_with (rw [HWW.out.1, HWW.out.2])
  refine HNum.out.mono ?_
  rintro e w1 ⟨rfl, hs1⟩
  have HS1 := Lib.hid (HS.out.then hs1 (by simp))
  have HB1 := Lib.hid (HB.out.step hs1 (by simp))
  clear hs1 c0 HNum HS
  have c0 : w1.cell? ⟨cb, 0, none⟩ = some (.int .i64 c.kd) := HB1.out.cell 0
  rw [HK.out] at c0
  have c2 : w1.cell? ⟨cb, 2, none⟩ = some (.string (bstr c.wk)) := HB1.out.cell 2
  have hz := two_size (a := numB 2) (b := txtB c.wk) (by have := txtB_len c.wk; have := HX.out.1.wk; omega)
  have HC := Lib.hid (show ∀ (W : World), Calls Try.prog 46 #[.string (bstr c.wk)] W fun e w' => e = .returned (.string (bstr (txtB c.wk))) ∧ Step [] W w' from fun W => refText_any c.wk W (by have := HX.out.1.wk; omega))
  go_wp2_with fail
  refine (HC.out _).mono ?_
  rintro e w2 ⟨rfl, hs2⟩
  have HS2 := Lib.hid (HS1.out.then hs2 (by simp))
  clear hs2
  go_wp2_with fail
  go_ret
  exact ⟨by rw [HCB.out]; rfl, HS2.out⟩
set_option maxRecDepth 100000 in
set_option maxHeartbeats 1000000 in
theorem refCmd_3 (c : PC) (a : Option Addr) (k : Nat) (w : World) (hk : c.kd = 3) (ha : TxS w a c.sp.ds) (hl : LitC c) (hw : WfC c) :
    Calls Try.prog 35 #[.agg (cmC c a c.sp.ds.length k).toArray] w fun e w' => e = .returned (.string (bstr (cmdB c))) ∧ Step [] w w' := by
  have hcb : cmdB c = numB 3 ++ (txtB c.nm ++ numB c.tk) := by
    unfold cmdB fieldsB
    rw [hk]
    simp
  have HCB := Lib.hid hcb
  have b1 := Blk.new w (cmC c a c.sp.ds.length k).toArray 38
  have s1 := (Step.refl [] w).alloc (.cells (cmC c a c.sp.ds.length k).toArray 38)
  obtain ⟨W, hWW⟩ : ∃ W, w.alloc (.cells (cmC c a c.sp.ds.length k).toArray 38) = W := ⟨_, rfl⟩
  obtain ⟨cb, hcb⟩ : ∃ cb, w.heap.size = cb := ⟨_, rfl⟩
  obtain ⟨n, hnn⟩ : ∃ n, c.sp.ds.length = n := ⟨_, rfl⟩
  rw [hWW] at b1 s1
  rw [hcb] at b1
  have HN := Lib.hid hnn
  rw [hnn] at hWW b1 ⊢
  have HWW := Lib.hid (And.intro hWW hcb)
  have HB := Lib.hid b1
  have HS := Lib.hid s1
  have HX := Lib.hid (And.intro hl (And.intro hw ha))
  have l1 := numB_len 3
  have HNum := Lib.hid (show Calls Try.prog 24 #[.int .u64 3] W (fun e w' => e = .returned (.string (bstr (numB 3))) ∧ Step [] W w') from refNum_any 3 W (by unfold M64; omega))
  have c0 : W.cell? ⟨cb, 0, none⟩ = some (.int .i64 c.kd) := b1.cell 0
  rw [hk] at c0
  have HK := Lib.hid hk
  clear b1 s1 hWW hcb hnn ha hl hw hk
  go_enter Try.func35, Try.ntmps35
  go_wp2_with (rw [HWW.out.1, HWW.out.2])
  refine HNum.out.mono ?_
  rintro e w1 ⟨rfl, hs1⟩
  have HS1 := Lib.hid (HS.out.then hs1 (by simp))
  have HB1 := Lib.hid (HB.out.step hs1 (by simp))
  clear hs1 c0 HNum HS
  have c0 : w1.cell? ⟨cb, 0, none⟩ = some (.int .i64 c.kd) := HB1.out.cell 0
  rw [HK.out] at c0
  go_wp2_with fail
  have HT := Lib.hid (show ∀ (W : World), Calls Try.prog 46 #[.string (bstr c.nm)] W fun e w' => e = .returned (.string (bstr (txtB c.nm))) ∧ Step [] W w' from fun W => refText_any c.nm W (by have := HX.out.1.nm; omega))
  have HU := Lib.hid (fun (W : World) => refNum_any c.tk W HX.out.2.1.tk)
  have HJ := Lib.hid (show ∀ W, Calls Try.prog 47 #[.int .i64 c.vl] W fun e w' => e = .returned (.string (bstr (intB c.vl))) ∧ Step [] W w' from fun W => refInt_any c.vl W HX.out.2.1.vl)
  have hz1 := two_size (a := numB 3) (b := txtB c.nm) (by have := txtB_len c.nm; have := HX.out.1.nm; omega)
  have hz2 := two_size (a := numB 3 ++ txtB c.nm) (b := numB c.tk) (by have := txtB_len c.nm; have := HX.out.1.nm; have := numB_len c.tk; simp only [List.length_append]; omega)
  have hz3 := two_size (a := numB 3 ++ txtB c.nm ++ numB c.tk) (b := intB c.vl) (by have := txtB_len c.nm; have := HX.out.1.nm; have := numB_len c.tk; have := intB_len c.vl; simp only [List.length_append]; omega)
  simp only [List.append_assoc] at hz3
  have hne : Nonempty (ClsW (Step [] w1.drew)) := ⟨⟨_, Step.refl _ _⟩⟩
  have q1 : ∀ y : ClsW (Step [] w1.drew), y.val.cell? ⟨cb, 1, none⟩ = some (.string (bstr c.nm)) := fun y => (HB1.out.drew.step y.ok (by simp)).cell 1
  have q3 : ∀ y : ClsW (Step [] w1.drew), y.val.cell? ⟨cb, 3, none⟩ = some (.int .u64 (c.tk : Int)) := fun y => (HB1.out.drew.step y.ok (by simp)).cell 3
  have q4 : ∀ y : ClsW (Step [] w1.drew), y.val.cell? ⟨cb, 4, none⟩ = some (.int .i64 c.vl) := fun y => (HB1.out.drew.step y.ok (by simp)).cell 4
  refine region_cls (G := Step [] w1.drew) (by kernel_rfl) (by kernel_rfl) (Step.refl _ _) ?_
  repeat (go_big_quiet_step ((first
    | (go_at_call 46; exact cls_call ((HT.out _).mono fun e w3 h => ⟨h.1, Step.then (ClsW.ok _) h.2 (by simp)⟩))
    | (go_at_call 47; exact cls_call ((HJ.out _).mono fun e w3 h => ⟨h.1, Step.then (ClsW.ok _) h.2 (by simp)⟩))
    | (go_at_call 24; exact cls_call ((HU.out _).mono fun e w3 h => ⟨h.1, Step.then (ClsW.ok _) h.2 (by simp)⟩)))))
  refine wpQuiet_nil ?_
  rintro w2 ⟨⟨w2i, hw2⟩, he⟩
  have he' : w2 = w2i := he
  subst he'
  clear he
  have HF := Lib.hid ((HS1.out.then (Step.refl [] w1).drew (by simp)).then hw2 (by simp))
  clear hne hw2 q1 q3 q4
  go_wp2_with fail
  go_ret
  exact ⟨by rw [HCB.out]; rfl, HF.out⟩
set_option maxRecDepth 100000 in
set_option maxHeartbeats 1000000 in
theorem refCmd_4 (c : PC) (a : Option Addr) (k : Nat) (w : World) (hk : c.kd = 4) (ha : TxS w a c.sp.ds) (hl : LitC c) (hw : WfC c) :
    Calls Try.prog 35 #[.agg (cmC c a c.sp.ds.length k).toArray] w fun e w' => e = .returned (.string (bstr (cmdB c))) ∧ Step [] w w' := by
  have hcb : cmdB c = numB 4 ++ (txtB c.nm ++ (numB c.tk ++ intB c.vl)) := by
    unfold cmdB fieldsB
    rw [hk]
    simp
  have HCB := Lib.hid hcb
  have b1 := Blk.new w (cmC c a c.sp.ds.length k).toArray 38
  have s1 := (Step.refl [] w).alloc (.cells (cmC c a c.sp.ds.length k).toArray 38)
  obtain ⟨W, hWW⟩ : ∃ W, w.alloc (.cells (cmC c a c.sp.ds.length k).toArray 38) = W := ⟨_, rfl⟩
  obtain ⟨cb, hcb⟩ : ∃ cb, w.heap.size = cb := ⟨_, rfl⟩
  obtain ⟨n, hnn⟩ : ∃ n, c.sp.ds.length = n := ⟨_, rfl⟩
  rw [hWW] at b1 s1
  rw [hcb] at b1
  have HN := Lib.hid hnn
  rw [hnn] at hWW b1 ⊢
  have HWW := Lib.hid (And.intro hWW hcb)
  have HB := Lib.hid b1
  have HS := Lib.hid s1
  have HX := Lib.hid (And.intro hl (And.intro hw ha))
  have l1 := numB_len 4
  have HNum := Lib.hid (show Calls Try.prog 24 #[.int .u64 4] W (fun e w' => e = .returned (.string (bstr (numB 4))) ∧ Step [] W w') from refNum_any 4 W (by unfold M64; omega))
  have c0 : W.cell? ⟨cb, 0, none⟩ = some (.int .i64 c.kd) := b1.cell 0
  rw [hk] at c0
  have HK := Lib.hid hk
  clear b1 s1 hWW hcb hnn ha hl hw hk
  go_enter Try.func35, Try.ntmps35
  go_wp2_with (rw [HWW.out.1, HWW.out.2])
  refine HNum.out.mono ?_
  rintro e w1 ⟨rfl, hs1⟩
  have HS1 := Lib.hid (HS.out.then hs1 (by simp))
  have HB1 := Lib.hid (HB.out.step hs1 (by simp))
  clear hs1 c0 HNum HS
  have c0 : w1.cell? ⟨cb, 0, none⟩ = some (.int .i64 c.kd) := HB1.out.cell 0
  rw [HK.out] at c0
  go_wp2_with fail
  have HT := Lib.hid (show ∀ (W : World), Calls Try.prog 46 #[.string (bstr c.nm)] W fun e w' => e = .returned (.string (bstr (txtB c.nm))) ∧ Step [] W w' from fun W => refText_any c.nm W (by have := HX.out.1.nm; omega))
  have HU := Lib.hid (fun (W : World) => refNum_any c.tk W HX.out.2.1.tk)
  have HJ := Lib.hid (show ∀ W, Calls Try.prog 47 #[.int .i64 c.vl] W fun e w' => e = .returned (.string (bstr (intB c.vl))) ∧ Step [] W w' from fun W => refInt_any c.vl W HX.out.2.1.vl)
  have hz1 := two_size (a := numB 4) (b := txtB c.nm) (by have := txtB_len c.nm; have := HX.out.1.nm; omega)
  have hz2 := two_size (a := numB 4 ++ txtB c.nm) (b := numB c.tk) (by have := txtB_len c.nm; have := HX.out.1.nm; have := numB_len c.tk; simp only [List.length_append]; omega)
  have hz3 := two_size (a := numB 4 ++ txtB c.nm ++ numB c.tk) (b := intB c.vl) (by have := txtB_len c.nm; have := HX.out.1.nm; have := numB_len c.tk; have := intB_len c.vl; simp only [List.length_append]; omega)
  simp only [List.append_assoc] at hz3
  have hne : Nonempty (ClsW (Step [] w1.drew)) := ⟨⟨_, Step.refl _ _⟩⟩
  have q1 : ∀ y : ClsW (Step [] w1.drew), y.val.cell? ⟨cb, 1, none⟩ = some (.string (bstr c.nm)) := fun y => (HB1.out.drew.step y.ok (by simp)).cell 1
  have q3 : ∀ y : ClsW (Step [] w1.drew), y.val.cell? ⟨cb, 3, none⟩ = some (.int .u64 (c.tk : Int)) := fun y => (HB1.out.drew.step y.ok (by simp)).cell 3
  have q4 : ∀ y : ClsW (Step [] w1.drew), y.val.cell? ⟨cb, 4, none⟩ = some (.int .i64 c.vl) := fun y => (HB1.out.drew.step y.ok (by simp)).cell 4
  refine region_cls (G := Step [] w1.drew) (by kernel_rfl) (by kernel_rfl) (Step.refl _ _) ?_
  repeat (go_big_quiet_step ((first
    | (go_at_call 46; exact cls_call ((HT.out _).mono fun e w3 h => ⟨h.1, Step.then (ClsW.ok _) h.2 (by simp)⟩))
    | (go_at_call 47; exact cls_call ((HJ.out _).mono fun e w3 h => ⟨h.1, Step.then (ClsW.ok _) h.2 (by simp)⟩))
    | (go_at_call 24; exact cls_call ((HU.out _).mono fun e w3 h => ⟨h.1, Step.then (ClsW.ok _) h.2 (by simp)⟩)))))
  refine wpQuiet_nil ?_
  rintro w2 ⟨⟨w2i, hw2⟩, he⟩
  have he' : w2 = w2i := he
  subst he'
  clear he
  have HF := Lib.hid ((HS1.out.then (Step.refl [] w1).drew (by simp)).then hw2 (by simp))
  clear hne hw2 q1 q3 q4
  go_wp2_with fail
  go_ret
  exact ⟨by rw [HCB.out]; rfl, HF.out⟩
set_option maxRecDepth 100000 in
set_option maxHeartbeats 1000000 in
theorem refCmd_5 (c : PC) (a : Option Addr) (k : Nat) (w : World) (hk : c.kd = 5) (ha : TxS w a c.sp.ds) (hl : LitC c) (hw : WfC c) :
    Calls Try.prog 35 #[.agg (cmC c a c.sp.ds.length k).toArray] w fun e w' => e = .returned (.string (bstr (cmdB c))) ∧ Step [] w w' := by
  have hcb : cmdB c = numB 5 ++ (txtB c.nm ++ numB c.tk) := by
    unfold cmdB fieldsB
    rw [hk]
    simp
  have HCB := Lib.hid hcb
  have b1 := Blk.new w (cmC c a c.sp.ds.length k).toArray 38
  have s1 := (Step.refl [] w).alloc (.cells (cmC c a c.sp.ds.length k).toArray 38)
  obtain ⟨W, hWW⟩ : ∃ W, w.alloc (.cells (cmC c a c.sp.ds.length k).toArray 38) = W := ⟨_, rfl⟩
  obtain ⟨cb, hcb⟩ : ∃ cb, w.heap.size = cb := ⟨_, rfl⟩
  obtain ⟨n, hnn⟩ : ∃ n, c.sp.ds.length = n := ⟨_, rfl⟩
  rw [hWW] at b1 s1
  rw [hcb] at b1
  have HN := Lib.hid hnn
  rw [hnn] at hWW b1 ⊢
  have HWW := Lib.hid (And.intro hWW hcb)
  have HB := Lib.hid b1
  have HS := Lib.hid s1
  have HX := Lib.hid (And.intro hl (And.intro hw ha))
  have l1 := numB_len 5
  have HNum := Lib.hid (show Calls Try.prog 24 #[.int .u64 5] W (fun e w' => e = .returned (.string (bstr (numB 5))) ∧ Step [] W w') from refNum_any 5 W (by unfold M64; omega))
  have c0 : W.cell? ⟨cb, 0, none⟩ = some (.int .i64 c.kd) := b1.cell 0
  rw [hk] at c0
  have HK := Lib.hid hk
  clear b1 s1 hWW hcb hnn ha hl hw hk
  go_enter Try.func35, Try.ntmps35
  go_wp2_with (rw [HWW.out.1, HWW.out.2])
  refine HNum.out.mono ?_
  rintro e w1 ⟨rfl, hs1⟩
  have HS1 := Lib.hid (HS.out.then hs1 (by simp))
  have HB1 := Lib.hid (HB.out.step hs1 (by simp))
  clear hs1 c0 HNum HS
  have c0 : w1.cell? ⟨cb, 0, none⟩ = some (.int .i64 c.kd) := HB1.out.cell 0
  rw [HK.out] at c0
  go_wp2_with fail
  have HT := Lib.hid (show ∀ (W : World), Calls Try.prog 46 #[.string (bstr c.nm)] W fun e w' => e = .returned (.string (bstr (txtB c.nm))) ∧ Step [] W w' from fun W => refText_any c.nm W (by have := HX.out.1.nm; omega))
  have HU := Lib.hid (fun (W : World) => refNum_any c.tk W HX.out.2.1.tk)
  have HJ := Lib.hid (show ∀ W, Calls Try.prog 47 #[.int .i64 c.vl] W fun e w' => e = .returned (.string (bstr (intB c.vl))) ∧ Step [] W w' from fun W => refInt_any c.vl W HX.out.2.1.vl)
  have hz1 := two_size (a := numB 5) (b := txtB c.nm) (by have := txtB_len c.nm; have := HX.out.1.nm; omega)
  have hz2 := two_size (a := numB 5 ++ txtB c.nm) (b := numB c.tk) (by have := txtB_len c.nm; have := HX.out.1.nm; have := numB_len c.tk; simp only [List.length_append]; omega)
  have hz3 := two_size (a := numB 5 ++ txtB c.nm ++ numB c.tk) (b := intB c.vl) (by have := txtB_len c.nm; have := HX.out.1.nm; have := numB_len c.tk; have := intB_len c.vl; simp only [List.length_append]; omega)
  simp only [List.append_assoc] at hz3
  have hne : Nonempty (ClsW (Step [] w1.drew)) := ⟨⟨_, Step.refl _ _⟩⟩
  have q1 : ∀ y : ClsW (Step [] w1.drew), y.val.cell? ⟨cb, 1, none⟩ = some (.string (bstr c.nm)) := fun y => (HB1.out.drew.step y.ok (by simp)).cell 1
  have q3 : ∀ y : ClsW (Step [] w1.drew), y.val.cell? ⟨cb, 3, none⟩ = some (.int .u64 (c.tk : Int)) := fun y => (HB1.out.drew.step y.ok (by simp)).cell 3
  have q4 : ∀ y : ClsW (Step [] w1.drew), y.val.cell? ⟨cb, 4, none⟩ = some (.int .i64 c.vl) := fun y => (HB1.out.drew.step y.ok (by simp)).cell 4
  refine region_cls (G := Step [] w1.drew) (by kernel_rfl) (by kernel_rfl) (Step.refl _ _) ?_
  repeat (go_big_quiet_step ((first
    | (go_at_call 46; exact cls_call ((HT.out _).mono fun e w3 h => ⟨h.1, Step.then (ClsW.ok _) h.2 (by simp)⟩))
    | (go_at_call 47; exact cls_call ((HJ.out _).mono fun e w3 h => ⟨h.1, Step.then (ClsW.ok _) h.2 (by simp)⟩))
    | (go_at_call 24; exact cls_call ((HU.out _).mono fun e w3 h => ⟨h.1, Step.then (ClsW.ok _) h.2 (by simp)⟩)))))
  refine wpQuiet_nil ?_
  rintro w2 ⟨⟨w2i, hw2⟩, he⟩
  have he' : w2 = w2i := he
  subst he'
  clear he
  have HF := Lib.hid ((HS1.out.then (Step.refl [] w1).drew (by simp)).then hw2 (by simp))
  clear hne hw2 q1 q3 q4
  go_wp2_with fail
  go_ret
  exact ⟨by rw [HCB.out]; rfl, HF.out⟩
set_option maxRecDepth 100000 in
set_option maxHeartbeats 1000000 in
theorem refCmd_6 (c : PC) (a : Option Addr) (k : Nat) (w : World) (hk : c.kd = 6) (ha : TxS w a c.sp.ds) (hl : LitC c) (hw : WfC c) :
    Calls Try.prog 35 #[.agg (cmC c a c.sp.ds.length k).toArray] w fun e w' => e = .returned (.string (bstr (cmdB c))) ∧ Step [] w w' := by
  have hcb : cmdB c = numB 6 ++ (txtB c.nm) := by
    unfold cmdB fieldsB
    rw [hk]
    simp
  have HCB := Lib.hid hcb
  have b1 := Blk.new w (cmC c a c.sp.ds.length k).toArray 38
  have s1 := (Step.refl [] w).alloc (.cells (cmC c a c.sp.ds.length k).toArray 38)
  obtain ⟨W, hWW⟩ : ∃ W, w.alloc (.cells (cmC c a c.sp.ds.length k).toArray 38) = W := ⟨_, rfl⟩
  obtain ⟨cb, hcb⟩ : ∃ cb, w.heap.size = cb := ⟨_, rfl⟩
  obtain ⟨n, hnn⟩ : ∃ n, c.sp.ds.length = n := ⟨_, rfl⟩
  rw [hWW] at b1 s1
  rw [hcb] at b1
  have HN := Lib.hid hnn
  rw [hnn] at hWW b1 ⊢
  have HWW := Lib.hid (And.intro hWW hcb)
  have HB := Lib.hid b1
  have HS := Lib.hid s1
  have HX := Lib.hid (And.intro hl (And.intro hw ha))
  have l1 := numB_len 6
  have HNum := Lib.hid (show Calls Try.prog 24 #[.int .u64 6] W (fun e w' => e = .returned (.string (bstr (numB 6))) ∧ Step [] W w') from refNum_any 6 W (by unfold M64; omega))
  have c0 : W.cell? ⟨cb, 0, none⟩ = some (.int .i64 c.kd) := b1.cell 0
  rw [hk] at c0
  have HK := Lib.hid hk
  clear b1 s1 hWW hcb hnn ha hl hw hk
  go_enter Try.func35, Try.ntmps35
  go_wp2_with (rw [HWW.out.1, HWW.out.2])
  refine HNum.out.mono ?_
  rintro e w1 ⟨rfl, hs1⟩
  have HS1 := Lib.hid (HS.out.then hs1 (by simp))
  have HB1 := Lib.hid (HB.out.step hs1 (by simp))
  clear hs1 c0 HNum HS
  have c0 : w1.cell? ⟨cb, 0, none⟩ = some (.int .i64 c.kd) := HB1.out.cell 0
  rw [HK.out] at c0
  have c1 : w1.cell? ⟨cb, 1, none⟩ = some (.string (bstr c.nm)) := HB1.out.cell 1
  have hz := two_size (a := numB 6) (b := txtB c.nm) (by have := txtB_len c.nm; have := HX.out.1.nm; omega)
  have HC := Lib.hid (show ∀ (W : World), Calls Try.prog 46 #[.string (bstr c.nm)] W fun e w' => e = .returned (.string (bstr (txtB c.nm))) ∧ Step [] W w' from fun W => refText_any c.nm W (by have := HX.out.1.nm; omega))
  go_wp2_with fail
  refine (HC.out _).mono ?_
  rintro e w2 ⟨rfl, hs2⟩
  have HS2 := Lib.hid (HS1.out.then hs2 (by simp))
  clear hs2
  go_wp2_with fail
  go_ret
  exact ⟨by rw [HCB.out]; rfl, HS2.out⟩
set_option maxRecDepth 100000 in
set_option maxHeartbeats 1000000 in
theorem refCmd_7 (c : PC) (a : Option Addr) (k : Nat) (w : World) (hk : c.kd = 7) (ha : TxS w a c.sp.ds) (hl : LitC c) (hw : WfC c) :
    Calls Try.prog 35 #[.agg (cmC c a c.sp.ds.length k).toArray] w fun e w' => e = .returned (.string (bstr (cmdB c))) ∧ Step [] w w' := by
  have hcb : cmdB c = numB 7 ++ (txtB c.nm) := by
    unfold cmdB fieldsB
    rw [hk]
    simp
  have HCB := Lib.hid hcb
  have b1 := Blk.new w (cmC c a c.sp.ds.length k).toArray 38
  have s1 := (Step.refl [] w).alloc (.cells (cmC c a c.sp.ds.length k).toArray 38)
  obtain ⟨W, hWW⟩ : ∃ W, w.alloc (.cells (cmC c a c.sp.ds.length k).toArray 38) = W := ⟨_, rfl⟩
  obtain ⟨cb, hcb⟩ : ∃ cb, w.heap.size = cb := ⟨_, rfl⟩
  obtain ⟨n, hnn⟩ : ∃ n, c.sp.ds.length = n := ⟨_, rfl⟩
  rw [hWW] at b1 s1
  rw [hcb] at b1
  have HN := Lib.hid hnn
  rw [hnn] at hWW b1 ⊢
  have HWW := Lib.hid (And.intro hWW hcb)
  have HB := Lib.hid b1
  have HS := Lib.hid s1
  have HX := Lib.hid (And.intro hl (And.intro hw ha))
  have l1 := numB_len 7
  have HNum := Lib.hid (show Calls Try.prog 24 #[.int .u64 7] W (fun e w' => e = .returned (.string (bstr (numB 7))) ∧ Step [] W w') from refNum_any 7 W (by unfold M64; omega))
  have c0 : W.cell? ⟨cb, 0, none⟩ = some (.int .i64 c.kd) := b1.cell 0
  rw [hk] at c0
  have HK := Lib.hid hk
  clear b1 s1 hWW hcb hnn ha hl hw hk
  go_enter Try.func35, Try.ntmps35
  go_wp2_with (rw [HWW.out.1, HWW.out.2])
  refine HNum.out.mono ?_
  rintro e w1 ⟨rfl, hs1⟩
  have HS1 := Lib.hid (HS.out.then hs1 (by simp))
  have HB1 := Lib.hid (HB.out.step hs1 (by simp))
  clear hs1 c0 HNum HS
  have c0 : w1.cell? ⟨cb, 0, none⟩ = some (.int .i64 c.kd) := HB1.out.cell 0
  rw [HK.out] at c0
  have c1 : w1.cell? ⟨cb, 1, none⟩ = some (.string (bstr c.nm)) := HB1.out.cell 1
  have hz := two_size (a := numB 7) (b := txtB c.nm) (by have := txtB_len c.nm; have := HX.out.1.nm; omega)
  have HC := Lib.hid (show ∀ (W : World), Calls Try.prog 46 #[.string (bstr c.nm)] W fun e w' => e = .returned (.string (bstr (txtB c.nm))) ∧ Step [] W w' from fun W => refText_any c.nm W (by have := HX.out.1.nm; omega))
  go_wp2_with fail
  refine (HC.out _).mono ?_
  rintro e w2 ⟨rfl, hs2⟩
  have HS2 := Lib.hid (HS1.out.then hs2 (by simp))
  clear hs2
  go_wp2_with fail
  go_ret
  exact ⟨by rw [HCB.out]; rfl, HS2.out⟩
set_option maxRecDepth 100000 in
set_option maxHeartbeats 1000000 in
theorem refCmd_8 (c : PC) (a : Option Addr) (k : Nat) (w : World) (hk : c.kd = 8) (ha : TxS w a c.sp.ds) (hl : LitC c) (hw : WfC c) :
    Calls Try.prog 35 #[.agg (cmC c a c.sp.ds.length k).toArray] w fun e w' => e = .returned (.string (bstr (cmdB c))) ∧ Step [] w w' := by
  have hcb : cmdB c = numB 8 ++ (txtB c.nm) := by
    unfold cmdB fieldsB
    rw [hk]
    simp
  have HCB := Lib.hid hcb
  have b1 := Blk.new w (cmC c a c.sp.ds.length k).toArray 38
  have s1 := (Step.refl [] w).alloc (.cells (cmC c a c.sp.ds.length k).toArray 38)
  obtain ⟨W, hWW⟩ : ∃ W, w.alloc (.cells (cmC c a c.sp.ds.length k).toArray 38) = W := ⟨_, rfl⟩
  obtain ⟨cb, hcb⟩ : ∃ cb, w.heap.size = cb := ⟨_, rfl⟩
  obtain ⟨n, hnn⟩ : ∃ n, c.sp.ds.length = n := ⟨_, rfl⟩
  rw [hWW] at b1 s1
  rw [hcb] at b1
  have HN := Lib.hid hnn
  rw [hnn] at hWW b1 ⊢
  have HWW := Lib.hid (And.intro hWW hcb)
  have HB := Lib.hid b1
  have HS := Lib.hid s1
  have HX := Lib.hid (And.intro hl (And.intro hw ha))
  have l1 := numB_len 8
  have HNum := Lib.hid (show Calls Try.prog 24 #[.int .u64 8] W (fun e w' => e = .returned (.string (bstr (numB 8))) ∧ Step [] W w') from refNum_any 8 W (by unfold M64; omega))
  have c0 : W.cell? ⟨cb, 0, none⟩ = some (.int .i64 c.kd) := b1.cell 0
  rw [hk] at c0
  have HK := Lib.hid hk
  clear b1 s1 hWW hcb hnn ha hl hw hk
  go_enter Try.func35, Try.ntmps35
  go_wp2_with (rw [HWW.out.1, HWW.out.2])
  refine HNum.out.mono ?_
  rintro e w1 ⟨rfl, hs1⟩
  have HS1 := Lib.hid (HS.out.then hs1 (by simp))
  have HB1 := Lib.hid (HB.out.step hs1 (by simp))
  clear hs1 c0 HNum HS
  have c0 : w1.cell? ⟨cb, 0, none⟩ = some (.int .i64 c.kd) := HB1.out.cell 0
  rw [HK.out] at c0
  have c1 : w1.cell? ⟨cb, 1, none⟩ = some (.string (bstr c.nm)) := HB1.out.cell 1
  have hz := two_size (a := numB 8) (b := txtB c.nm) (by have := txtB_len c.nm; have := HX.out.1.nm; omega)
  have HC := Lib.hid (show ∀ (W : World), Calls Try.prog 46 #[.string (bstr c.nm)] W fun e w' => e = .returned (.string (bstr (txtB c.nm))) ∧ Step [] W w' from fun W => refText_any c.nm W (by have := HX.out.1.nm; omega))
  go_wp2_with fail
  refine (HC.out _).mono ?_
  rintro e w2 ⟨rfl, hs2⟩
  have HS2 := Lib.hid (HS1.out.then hs2 (by simp))
  clear hs2
  go_wp2_with fail
  go_ret
  exact ⟨by rw [HCB.out]; rfl, HS2.out⟩
set_option maxRecDepth 100000 in
set_option maxHeartbeats 1000000 in
theorem refCmd_9 (c : PC) (a : Option Addr) (k : Nat) (w : World) (hk : c.kd = 9) (ha : TxS w a c.sp.ds) (hl : LitC c) (hw : WfC c) :
    Calls Try.prog 35 #[.agg (cmC c a c.sp.ds.length k).toArray] w fun e w' => e = .returned (.string (bstr (cmdB c))) ∧ Step [] w w' := by
  have hcb : cmdB c = numB 9 ++ (intB c.vl) := by
    unfold cmdB fieldsB
    rw [hk]
    simp
  have HCB := Lib.hid hcb
  have b1 := Blk.new w (cmC c a c.sp.ds.length k).toArray 38
  have s1 := (Step.refl [] w).alloc (.cells (cmC c a c.sp.ds.length k).toArray 38)
  obtain ⟨W, hWW⟩ : ∃ W, w.alloc (.cells (cmC c a c.sp.ds.length k).toArray 38) = W := ⟨_, rfl⟩
  obtain ⟨cb, hcb⟩ : ∃ cb, w.heap.size = cb := ⟨_, rfl⟩
  obtain ⟨n, hnn⟩ : ∃ n, c.sp.ds.length = n := ⟨_, rfl⟩
  rw [hWW] at b1 s1
  rw [hcb] at b1
  have HN := Lib.hid hnn
  rw [hnn] at hWW b1 ⊢
  have HWW := Lib.hid (And.intro hWW hcb)
  have HB := Lib.hid b1
  have HS := Lib.hid s1
  have HX := Lib.hid (And.intro hl (And.intro hw ha))
  have l1 := numB_len 9
  have HNum := Lib.hid (show Calls Try.prog 24 #[.int .u64 9] W (fun e w' => e = .returned (.string (bstr (numB 9))) ∧ Step [] W w') from refNum_any 9 W (by unfold M64; omega))
  have c0 : W.cell? ⟨cb, 0, none⟩ = some (.int .i64 c.kd) := b1.cell 0
  rw [hk] at c0
  have HK := Lib.hid hk
  clear b1 s1 hWW hcb hnn ha hl hw hk
  go_enter Try.func35, Try.ntmps35
  go_wp2_with (rw [HWW.out.1, HWW.out.2])
  refine HNum.out.mono ?_
  rintro e w1 ⟨rfl, hs1⟩
  have HS1 := Lib.hid (HS.out.then hs1 (by simp))
  have HB1 := Lib.hid (HB.out.step hs1 (by simp))
  clear hs1 c0 HNum HS
  have c0 : w1.cell? ⟨cb, 0, none⟩ = some (.int .i64 c.kd) := HB1.out.cell 0
  rw [HK.out] at c0
  have c4 : w1.cell? ⟨cb, 4, none⟩ = some (.int .i64 c.vl) := HB1.out.cell 4
  have hz := two_size (a := numB 9) (b := intB c.vl) (by have := intB_len c.vl; omega)
  have HC := Lib.hid (show ∀ W, Calls Try.prog 47 #[.int .i64 c.vl] W fun e w' => e = .returned (.string (bstr (intB c.vl))) ∧ Step [] W w' from fun W => refInt_any c.vl W HX.out.2.1.vl)
  go_wp2_with fail
  refine (HC.out _).mono ?_
  rintro e w2 ⟨rfl, hs2⟩
  have HS2 := Lib.hid (HS1.out.then hs2 (by simp))
  clear hs2
  go_wp2_with fail
  go_ret
  exact ⟨by rw [HCB.out]; rfl, HS2.out⟩
theorem refCmd_any (c : PC) (a : Option Addr) (k : Nat) (w : World) (hk : okK c.kd) (ha : TxS w a c.sp.ds) (hl : LitC c) (hw : WfC c) :
    Calls Try.prog 35 #[.agg (cmC c a c.sp.ds.length k).toArray] w fun e w' => e = .returned (.string (bstr (cmdB c))) ∧ Step [] w w' := by
  rcases kinds hk with h | h | h | h | h | h | h | h | h | h
  · exact refCmd_0 c a k w h ha hl hw
  · exact refCmd_1 c a k w h ha hl hw
  · exact refCmd_2 c a k w h ha hl hw
  · exact refCmd_3 c a k w h ha hl hw
  · exact refCmd_4 c a k w h ha hl hw
  · exact refCmd_5 c a k w h ha hl hw
  · exact refCmd_6 c a k w h ha hl hw
  · exact refCmd_7 c a k w h ha hl hw
  · exact refCmd_8 c a k w h ha hl hw
  · exact refCmd_9 c a k w h ha hl hw
theorem rq_cm {w : World} {xb : Nat} {q : PQ} {a : Option Addr} {n k : Nat} {T : TypeId} (h : Blk w xb (rqC q a n k).toArray T) : rowC w xb 2 16 = some (cmC q.c a n k) :=
  row_of_range w xb (cmC q.c a n k) 2 (fun j v hv => by
    rw [h.cell (2 + j)]
    have : (rqC q a n k).toArray[2 + j]? = (cmC q.c a n k)[j]? := by
      rw [List.getElem?_toArray]
      show (rqC q a n k)[2 + j]? = _
      rw [show 2 + j = j + 2 by omega]
      rfl
    rw [this]
    exact hv)
set_option maxRecDepth 100000 in
set_option maxHeartbeats 1000000 in
theorem refReq_any (q : PQ) (a : Option Addr) (k : Nat) (w : World) (hk : okK q.c.kd) (ha : TxS w a q.c.sp.ds) (hl : LitC q.c) (hw : WfC q.c) (h1 : q.cl < M64) (h2 : q.no < M64) :
    Calls Try.prog 16 #[.agg (rqC q a q.c.sp.ds.length k).toArray] w fun e w' => e = .returned (.string (bstr (reqB q))) ∧ Step [] w w' := by
  have b1 := Blk.new w (rqC q a q.c.sp.ds.length k).toArray 40
  have s1 := (Step.refl [] w).alloc (.cells (rqC q a q.c.sp.ds.length k).toArray 40)
  obtain ⟨W, hWW⟩ : ∃ W, w.alloc (.cells (rqC q a q.c.sp.ds.length k).toArray 40) = W := ⟨_, rfl⟩
  obtain ⟨cb, hcb⟩ : ∃ cb, w.heap.size = cb := ⟨_, rfl⟩
  obtain ⟨n, hnn⟩ : ∃ n, q.c.sp.ds.length = n := ⟨_, rfl⟩
  rw [hWW] at b1 s1
  rw [hcb] at b1
  have HC := Lib.hid (fun (W : World) (h : Step [] w W) => refCmd_any q.c a k W hk (ha.step0 h) hl hw)
  have HU1 := Lib.hid (fun (W : World) => refNum_any q.cl W h1)
  have HU2 := Lib.hid (fun (W : World) => refNum_any q.no W h2)
  rw [hnn] at hWW b1 HC ⊢
  have HWW := Lib.hid (And.intro hWW hcb)
  have HB := Lib.hid b1
  have HS := Lib.hid s1
  have l1 := (numB_len q.cl).2
  have l2 := (numB_len q.no).2
  have l3 : (cmdB q.c).length ≤ 2000100 := by
    have := fieldsB_len q.c hl
    have := (numB_len q.c.kd.toNat).2
    unfold cmdB
    rw [List.length_append]
    omega
  have hz1 := two_size (a := numB q.cl) (b := numB q.no) (by omega)
  have hz2 := two_size (a := numB q.cl ++ numB q.no) (b := cmdB q.c) (by simp only [List.length_append]; omega)
  have HR := Lib.hid (show reqB q = numB q.cl ++ (numB q.no ++ cmdB q.c) from rfl)
  clear b1 s1 hWW hcb hnn ha hl hw hk h1 h2 l1 l2 l3
  go_enter Try.func16, Try.ntmps16
  go_wp2_with (rw [HWW.out.1, HWW.out.2])
  have hne : Nonempty (ClsW (Step [] W.drew)) := ⟨⟨_, Step.refl _ _⟩⟩
  have q0 : ∀ y : ClsW (Step [] W.drew), y.val.cell? ⟨cb, 0, none⟩ = some (.int .u64 (q.cl : Int)) := fun y => (HB.out.drew.step y.ok (by simp)).cell 0
  have q1 : ∀ y : ClsW (Step [] W.drew), y.val.cell? ⟨cb, 1, none⟩ = some (.int .u64 (q.no : Int)) := fun y => (HB.out.drew.step y.ok (by simp)).cell 1
  have q2 : ∀ y : ClsW (Step [] W.drew), rowC y.val cb 2 16 = some (cmC q.c a n k) := fun y => rq_cm (HB.out.drew.step y.ok (by simp))
  refine region_cls (G := Step [] W.drew) (by kernel_rfl) (by kernel_rfl) (Step.refl _ _) ?_
  go_big_quiet_step (fail)
  go_big_quiet_step (fail)
  go_big_quiet_step ((go_at_call 24; exact cls_call ((HU1.out _).mono fun e w3 h => ⟨h.1, Step.then (ClsW.ok _) h.2 (by simp)⟩)))
  repeat (go_big_quiet_step ((first
    | (go_at_call 24; exact cls_call ((HU2.out _).mono fun e w3 h => ⟨h.1, Step.then (ClsW.ok _) h.2 (by simp)⟩))
    | (go_at_call 35; exact cls_call ((HC.out _ (Step.then (Step.then HS.out (Step.refl [] W).drew (by simp)) (ClsW.ok _) (by simp))).mono fun e w3 h => ⟨h.1, Step.then (ClsW.ok _) h.2 (by simp)⟩)))))
  refine wpQuiet_nil ?_
  rintro w2 ⟨⟨w2i, hw2⟩, he⟩
  have he' : w2 = w2i := he
  subst he'
  clear he
  have HF := Lib.hid ((HS.out.then (Step.refl [] W).drew (by simp)).then hw2 (by simp))
  clear hne hw2 q0 q1 q2
  go_wp2_with fail
  go_ret
  exact ⟨by rw [HR.out]; try rfl, HF.out⟩
end Go.Proofs.Ytdfkagpnfgmbeaa
