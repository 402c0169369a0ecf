/- complinelaw18.few, same. -/
import Derived.Test.YtdfkagpnfgmbeaaCmdL
import Derived.Test.YtdfkagpnfgmbeaaSqB
namespace Go.Proofs.Ytdfkagpnfgmbeaa
set_option linter.unusedVariables false
set_option linter.unusedSimpArgs false
open Go.RowKit
attribute [local go_sem ↓] exec_load_c exec_store_c exec_load_s exec_store_s
attribute [local go_sem] Try.load_c row_drew Try.store_c Try.load_s Try.store_s bstr_toList

theorem two_box (w : World) (C D : Array Value) (T : TypeId) : ∃ W1 W cb db, (w.alloc (.cells C T) = W1 ∧ w.heap.size = cb) ∧ (W1.alloc (.cells D T) = W ∧ W1.heap.size = db) ∧ Blk W cb C T ∧ Blk W db D T ∧ Step [] w W := by
  have b1 := Blk.new w C T
  have s1 := (Step.refl [] w).alloc (.cells C T)
  have b2 := Blk.new (w.alloc (.cells C T)) D T
  have s2 := (Step.refl [] (w.alloc (.cells C T))).alloc (.cells D T)
  exact ⟨_, _, _, _, ⟨rfl, rfl⟩, ⟨rfl, rfl⟩, b1.step s2 (by simp), b2, s1.then s2 (by simp)⟩

set_option maxRecDepth 100000 in
set_option maxHeartbeats 1000000 in
theorem same_0 (c1 c2 : PC) (a1 a2 : Option Addr) (k1 k2 : Nat) (w : World) (t1 : TxS w a1 c1.sp.ds) (t2 : TxS w a2 c2.sp.ds) (l1 : LitS c1.sp) (l2 : LitS c2.sp) (w1 : WfS c1.sp) (w2 : WfS c2.sp)  (hn : ¬ c1.kd = c2.kd) :
    Calls Try.prog 13 #[.agg (cmC c1 a1 c1.sp.ds.length k1).toArray, .agg (cmC c2 a2 c2.sp.ds.length k2).toArray] w fun e w' => e = .returned (.bool (sameC c1 c2)) ∧ Step [] w w' := by
  obtain ⟨n1, hn1⟩ : ∃ n, c1.sp.ds.length = n := ⟨_, rfl⟩
  obtain ⟨n2, hn2⟩ : ∃ n, c2.sp.ds.length = n := ⟨_, rfl⟩
  have HA := Lib.hid (fun (X : World) (hX : Step [] w X) => refBytes_any c1.sp a1 k1 X (t1.step0 hX) l1 w1)
  have HB := Lib.hid (fun (X : World) (hX : Step [] w X) => refBytes_any c2.sp a2 k2 X (t2.step0 hX) l2 w2)
  rw [hn1] at HA ⊢
  rw [hn2] at HB ⊢
  obtain ⟨W1, W, cb, db, x1, x2, b1, b2, hst⟩ := two_box w (cmC c1 a1 n1 k1).toArray (cmC c2 a2 n2 k2).toArray 38
  have X1 := Lib.hid x1
  have X2 := Lib.hid x2
  have B1 := Lib.hid b1
  have B2 := Lib.hid b2
  have HS := Lib.hid hst
  have hres : sameC c1 c2 = false := by
    unfold sameC
    simp [hn]
  rw [hres]
  have hne : Nonempty (ClsW (Step [] W.drew)) := ⟨⟨_, Step.refl _ _⟩⟩
  have q0 : ∀ y : ClsW (Step [] W.drew), y.val.cell? ⟨cb, 0, none⟩ = some (.int .i64 c1.kd) := fun y => (B1.out.drew.step y.ok (by simp)).cell 0
  have r0 : ∀ y : ClsW (Step [] W.drew), y.val.cell? ⟨db, 0, none⟩ = some (.int .i64 c2.kd) := fun y => (B2.out.drew.step y.ok (by simp)).cell 0
  have hb : (c1.kd == c2.kd) = false := by simpa using hn
  clear hres hn1 hn2 x1 x2 b1 b2 hst t1 t2 l1 l2 w1 w2
  go_enter Try.func13, Try.ntmps13
  go_wp2_with (first | rw [X1.out.1, X1.out.2] | rw [X2.out.1, X2.out.2])
  refine region_cls (G := Step [] W.drew) (by kernel_rfl) (by kernel_rfl) (Step.refl _ _) ?_
  repeat (go_big_quiet_step (fail))
  refine wpQuiet_nil ?_
  rintro w2 ⟨⟨w2i, hw2⟩, he⟩
  have he' : w2 = w2i := he
  subst he'
  clear he
  have HF := Lib.hid ((HS.out.then (Step.refl [] W).drew (by simp)).then hw2 (by simp))
  clear hne hw2 q0 r0
  go_wp2_with fail
  go_ret
  exact ⟨rfl, HF.out⟩
set_option maxRecDepth 100000 in
set_option maxHeartbeats 1000000 in
theorem same_1 (c1 c2 : PC) (a1 a2 : Option Addr) (k1 k2 : Nat) (w : World) (t1 : TxS w a1 c1.sp.ds) (t2 : TxS w a2 c2.sp.ds) (l1 : LitS c1.sp) (l2 : LitS c2.sp) (w1 : WfS c1.sp) (w2 : WfS c2.sp) (h0 : c1.kd = c2.kd) (hn : ¬ c1.nm = c2.nm) :
    Calls Try.prog 13 #[.agg (cmC c1 a1 c1.sp.ds.length k1).toArray, .agg (cmC c2 a2 c2.sp.ds.length k2).toArray] w fun e w' => e = .returned (.bool (sameC c1 c2)) ∧ Step [] w w' := by
  obtain ⟨n1, hn1⟩ : ∃ n, c1.sp.ds.length = n := ⟨_, rfl⟩
  obtain ⟨n2, hn2⟩ : ∃ n, c2.sp.ds.length = n := ⟨_, rfl⟩
  have HA := Lib.hid (fun (X : World) (hX : Step [] w X) => refBytes_any c1.sp a1 k1 X (t1.step0 hX) l1 w1)
  have HB := Lib.hid (fun (X : World) (hX : Step [] w X) => refBytes_any c2.sp a2 k2 X (t2.step0 hX) l2 w2)
  rw [hn1] at HA ⊢
  rw [hn2] at HB ⊢
  obtain ⟨W1, W, cb, db, x1, x2, b1, b2, hst⟩ := two_box w (cmC c1 a1 n1 k1).toArray (cmC c2 a2 n2 k2).toArray 38
  have X1 := Lib.hid x1
  have X2 := Lib.hid x2
  have B1 := Lib.hid b1
  have B2 := Lib.hid b2
  have HS := Lib.hid hst
  have hres : sameC c1 c2 = false := by
    unfold sameC
    simp [hn]
  rw [hres]
  have hne : Nonempty (ClsW (Step [] W.drew)) := ⟨⟨_, Step.refl _ _⟩⟩
  have q0 : ∀ y : ClsW (Step [] W.drew), y.val.cell? ⟨cb, 0, none⟩ = some (.int .i64 c1.kd) := fun y => (B1.out.drew.step y.ok (by simp)).cell 0
  have r0 : ∀ y : ClsW (Step [] W.drew), y.val.cell? ⟨db, 0, none⟩ = some (.int .i64 c1.kd) := fun y => by rw [h0]; exact (B2.out.drew.step y.ok (by simp)).cell 0
  have q1 : ∀ y : ClsW (Step [] W.drew), y.val.cell? ⟨cb, 1, none⟩ = some (.string (bstr c1.nm)) := fun y => (B1.out.drew.step y.ok (by simp)).cell 1
  have r1 : ∀ y : ClsW (Step [] W.drew), y.val.cell? ⟨db, 1, none⟩ = some (.string (bstr c2.nm)) := fun y => (B2.out.drew.step y.ok (by simp)).cell 1
  have hb : (c1.nm == c2.nm) = false := by simp [hn]
  clear hres hn1 hn2 x1 x2 b1 b2 hst t1 t2 l1 l2 w1 w2 h0
  go_enter Try.func13, Try.ntmps13
  go_wp2_with (first | rw [X1.out.1, X1.out.2] | rw [X2.out.1, X2.out.2])
  refine region_cls (G := Step [] W.drew) (by kernel_rfl) (by kernel_rfl) (Step.refl _ _) ?_
  repeat (go_big_quiet_step (fail))
  refine wpQuiet_nil ?_
  rintro w2 ⟨⟨w2i, hw2⟩, he⟩
  have he' : w2 = w2i := he
  subst he'
  clear he
  have HF := Lib.hid ((HS.out.then (Step.refl [] W).drew (by simp)).then hw2 (by simp))
  clear hne hw2 q0 r0 q1 r1
  go_wp2_with fail
  go_ret
  exact ⟨rfl, HF.out⟩
set_option maxRecDepth 100000 in
set_option maxHeartbeats 1000000 in
theorem same_2 (c1 c2 : PC) (a1 a2 : Option Addr) (k1 k2 : Nat) (w : World) (t1 : TxS w a1 c1.sp.ds) (t2 : TxS w a2 c2.sp.ds) (l1 : LitS c1.sp) (l2 : LitS c2.sp) (w1 : WfS c1.sp) (w2 : WfS c2.sp) (h0 : c1.kd = c2.kd) (h1 : c1.nm = c2.nm) (hn : ¬ c1.wk = c2.wk) :
    Calls Try.prog 13 #[.agg (cmC c1 a1 c1.sp.ds.length k1).toArray, .agg (cmC c2 a2 c2.sp.ds.length k2).toArray] w fun e w' => e = .returned (.bool (sameC c1 c2)) ∧ Step [] w w' := by
  obtain ⟨n1, hn1⟩ : ∃ n, c1.sp.ds.length = n := ⟨_, rfl⟩
  obtain ⟨n2, hn2⟩ : ∃ n, c2.sp.ds.length = n := ⟨_, rfl⟩
  have HA := Lib.hid (fun (X : World) (hX : Step [] w X) => refBytes_any c1.sp a1 k1 X (t1.step0 hX) l1 w1)
  have HB := Lib.hid (fun (X : World) (hX : Step [] w X) => refBytes_any c2.sp a2 k2 X (t2.step0 hX) l2 w2)
  rw [hn1] at HA ⊢
  rw [hn2] at HB ⊢
  obtain ⟨W1, W, cb, db, x1, x2, b1, b2, hst⟩ := two_box w (cmC c1 a1 n1 k1).toArray (cmC c2 a2 n2 k2).toArray 38
  have X1 := Lib.hid x1
  have X2 := Lib.hid x2
  have B1 := Lib.hid b1
  have B2 := Lib.hid b2
  have HS := Lib.hid hst
  have hres : sameC c1 c2 = false := by
    unfold sameC
    simp [hn]
  rw [hres]
  have hne : Nonempty (ClsW (Step [] W.drew)) := ⟨⟨_, Step.refl _ _⟩⟩
  have q0 : ∀ y : ClsW (Step [] W.drew), y.val.cell? ⟨cb, 0, none⟩ = some (.int .i64 c1.kd) := fun y => (B1.out.drew.step y.ok (by simp)).cell 0
  have r0 : ∀ y : ClsW (Step [] W.drew), y.val.cell? ⟨db, 0, none⟩ = some (.int .i64 c1.kd) := fun y => by rw [h0]; exact (B2.out.drew.step y.ok (by simp)).cell 0
  have q1 : ∀ y : ClsW (Step [] W.drew), y.val.cell? ⟨cb, 1, none⟩ = some (.string (bstr c1.nm)) := fun y => (B1.out.drew.step y.ok (by simp)).cell 1
  have r1 : ∀ y : ClsW (Step [] W.drew), y.val.cell? ⟨db, 1, none⟩ = some (.string (bstr c1.nm)) := fun y => by rw [h1]; exact (B2.out.drew.step y.ok (by simp)).cell 1
  have q2 : ∀ y : ClsW (Step [] W.drew), y.val.cell? ⟨cb, 2, none⟩ = some (.string (bstr c1.wk)) := fun y => (B1.out.drew.step y.ok (by simp)).cell 2
  have r2 : ∀ y : ClsW (Step [] W.drew), y.val.cell? ⟨db, 2, none⟩ = some (.string (bstr c2.wk)) := fun y => (B2.out.drew.step y.ok (by simp)).cell 2
  have hb : (c1.wk == c2.wk) = false := by simp [hn]
  clear hres hn1 hn2 x1 x2 b1 b2 hst t1 t2 l1 l2 w1 w2 h0 h1
  go_enter Try.func13, Try.ntmps13
  go_wp2_with (first | rw [X1.out.1, X1.out.2] | rw [X2.out.1, X2.out.2])
  refine region_cls (G := Step [] W.drew) (by kernel_rfl) (by kernel_rfl) (Step.refl _ _) ?_
  repeat (go_big_quiet_step (fail))
  refine wpQuiet_nil ?_
  rintro w2 ⟨⟨w2i, hw2⟩, he⟩
  have he' : w2 = w2i := he
  subst he'
  clear he
  have HF := Lib.hid ((HS.out.then (Step.refl [] W).drew (by simp)).then hw2 (by simp))
  clear hne hw2 q0 r0 q1 r1 q2 r2
  go_wp2_with fail
  go_ret
  exact ⟨rfl, HF.out⟩
set_option maxRecDepth 100000 in
set_option maxHeartbeats 1000000 in
theorem same_3 (c1 c2 : PC) (a1 a2 : Option Addr) (k1 k2 : Nat) (w : World) (t1 : TxS w a1 c1.sp.ds) (t2 : TxS w a2 c2.sp.ds) (l1 : LitS c1.sp) (l2 : LitS c2.sp) (w1 : WfS c1.sp) (w2 : WfS c2.sp) (h0 : c1.kd = c2.kd) (h1 : c1.nm = c2.nm) (h2 : c1.wk = c2.wk) (hn : ¬ c1.tk = c2.tk) :
    Calls Try.prog 13 #[.agg (cmC c1 a1 c1.sp.ds.length k1).toArray, .agg (cmC c2 a2 c2.sp.ds.length k2).toArray] w fun e w' => e = .returned (.bool (sameC c1 c2)) ∧ Step [] w w' := by
  obtain ⟨n1, hn1⟩ : ∃ n, c1.sp.ds.length = n := ⟨_, rfl⟩
  obtain ⟨n2, hn2⟩ : ∃ n, c2.sp.ds.length = n := ⟨_, rfl⟩
  have HA := Lib.hid (fun (X : World) (hX : Step [] w X) => refBytes_any c1.sp a1 k1 X (t1.step0 hX) l1 w1)
  have HB := Lib.hid (fun (X : World) (hX : Step [] w X) => refBytes_any c2.sp a2 k2 X (t2.step0 hX) l2 w2)
  rw [hn1] at HA ⊢
  rw [hn2] at HB ⊢
  obtain ⟨W1, W, cb, db, x1, x2, b1, b2, hst⟩ := two_box w (cmC c1 a1 n1 k1).toArray (cmC c2 a2 n2 k2).toArray 38
  have X1 := Lib.hid x1
  have X2 := Lib.hid x2
  have B1 := Lib.hid b1
  have B2 := Lib.hid b2
  have HS := Lib.hid hst
  have hres : sameC c1 c2 = false := by
    unfold sameC
    simp [hn]
  rw [hres]
  have hne : Nonempty (ClsW (Step [] W.drew)) := ⟨⟨_, Step.refl _ _⟩⟩
  have q0 : ∀ y : ClsW (Step [] W.drew), y.val.cell? ⟨cb, 0, none⟩ = some (.int .i64 c1.kd) := fun y => (B1.out.drew.step y.ok (by simp)).cell 0
  have r0 : ∀ y : ClsW (Step [] W.drew), y.val.cell? ⟨db, 0, none⟩ = some (.int .i64 c1.kd) := fun y => by rw [h0]; exact (B2.out.drew.step y.ok (by simp)).cell 0
  have q1 : ∀ y : ClsW (Step [] W.drew), y.val.cell? ⟨cb, 1, none⟩ = some (.string (bstr c1.nm)) := fun y => (B1.out.drew.step y.ok (by simp)).cell 1
  have r1 : ∀ y : ClsW (Step [] W.drew), y.val.cell? ⟨db, 1, none⟩ = some (.string (bstr c1.nm)) := fun y => by rw [h1]; exact (B2.out.drew.step y.ok (by simp)).cell 1
  have q2 : ∀ y : ClsW (Step [] W.drew), y.val.cell? ⟨cb, 2, none⟩ = some (.string (bstr c1.wk)) := fun y => (B1.out.drew.step y.ok (by simp)).cell 2
  have r2 : ∀ y : ClsW (Step [] W.drew), y.val.cell? ⟨db, 2, none⟩ = some (.string (bstr c1.wk)) := fun y => by rw [h2]; exact (B2.out.drew.step y.ok (by simp)).cell 2
  have q3 : ∀ y : ClsW (Step [] W.drew), y.val.cell? ⟨cb, 3, none⟩ = some (.int .u64 (c1.tk : Int)) := fun y => (B1.out.drew.step y.ok (by simp)).cell 3
  have r3 : ∀ y : ClsW (Step [] W.drew), y.val.cell? ⟨db, 3, none⟩ = some (.int .u64 (c2.tk : Int)) := fun y => (B2.out.drew.step y.ok (by simp)).cell 3
  have hb : ((c1.tk : Int) == (c2.tk : Int)) = false := by simp only [beq_eq_false_iff_ne, ne_eq]; omega
  clear hres hn1 hn2 x1 x2 b1 b2 hst t1 t2 l1 l2 w1 w2 h0 h1 h2
  go_enter Try.func13, Try.ntmps13
  go_wp2_with (first | rw [X1.out.1, X1.out.2] | rw [X2.out.1, X2.out.2])
  refine region_cls (G := Step [] W.drew) (by kernel_rfl) (by kernel_rfl) (Step.refl _ _) ?_
  repeat (go_big_quiet_step (fail))
  refine wpQuiet_nil ?_
  rintro w2 ⟨⟨w2i, hw2⟩, he⟩
  have he' : w2 = w2i := he
  subst he'
  clear he
  have HF := Lib.hid ((HS.out.then (Step.refl [] W).drew (by simp)).then hw2 (by simp))
  clear hne hw2 q0 r0 q1 r1 q2 r2 q3 r3
  go_wp2_with fail
  go_ret
  exact ⟨rfl, HF.out⟩
set_option maxRecDepth 100000 in
set_option maxHeartbeats 1000000 in
theorem same_4 (c1 c2 : PC) (a1 a2 : Option Addr) (k1 k2 : Nat) (w : World) (t1 : TxS w a1 c1.sp.ds) (t2 : TxS w a2 c2.sp.ds) (l1 : LitS c1.sp) (l2 : LitS c2.sp) (w1 : WfS c1.sp) (w2 : WfS c2.sp) (h0 : c1.kd = c2.kd) (h1 : c1.nm = c2.nm) (h2 : c1.wk = c2.wk) (h3 : c1.tk = c2.tk) (hn : ¬ c1.vl = c2.vl) :
    Calls Try.prog 13 #[.agg (cmC c1 a1 c1.sp.ds.length k1).toArray, .agg (cmC c2 a2 c2.sp.ds.length k2).toArray] w fun e w' => e = .returned (.bool (sameC c1 c2)) ∧ Step [] w w' := by
  obtain ⟨n1, hn1⟩ : ∃ n, c1.sp.ds.length = n := ⟨_, rfl⟩
  obtain ⟨n2, hn2⟩ : ∃ n, c2.sp.ds.length = n := ⟨_, rfl⟩
  have HA := Lib.hid (fun (X : World) (hX : Step [] w X) => refBytes_any c1.sp a1 k1 X (t1.step0 hX) l1 w1)
  have HB := Lib.hid (fun (X : World) (hX : Step [] w X) => refBytes_any c2.sp a2 k2 X (t2.step0 hX) l2 w2)
  rw [hn1] at HA ⊢
  rw [hn2] at HB ⊢
  obtain ⟨W1, W, cb, db, x1, x2, b1, b2, hst⟩ := two_box w (cmC c1 a1 n1 k1).toArray (cmC c2 a2 n2 k2).toArray 38
  have X1 := Lib.hid x1
  have X2 := Lib.hid x2
  have B1 := Lib.hid b1
  have B2 := Lib.hid b2
  have HS := Lib.hid hst
  have hres : sameC c1 c2 = false := by
    unfold sameC
    simp [hn]
  rw [hres]
  have hne : Nonempty (ClsW (Step [] W.drew)) := ⟨⟨_, Step.refl _ _⟩⟩
  have q0 : ∀ y : ClsW (Step [] W.drew), y.val.cell? ⟨cb, 0, none⟩ = some (.int .i64 c1.kd) := fun y => (B1.out.drew.step y.ok (by simp)).cell 0
  have r0 : ∀ y : ClsW (Step [] W.drew), y.val.cell? ⟨db, 0, none⟩ = some (.int .i64 c1.kd) := fun y => by rw [h0]; exact (B2.out.drew.step y.ok (by simp)).cell 0
  have q1 : ∀ y : ClsW (Step [] W.drew), y.val.cell? ⟨cb, 1, none⟩ = some (.string (bstr c1.nm)) := fun y => (B1.out.drew.step y.ok (by simp)).cell 1
  have r1 : ∀ y : ClsW (Step [] W.drew), y.val.cell? ⟨db, 1, none⟩ = some (.string (bstr c1.nm)) := fun y => by rw [h1]; exact (B2.out.drew.step y.ok (by simp)).cell 1
  have q2 : ∀ y : ClsW (Step [] W.drew), y.val.cell? ⟨cb, 2, none⟩ = some (.string (bstr c1.wk)) := fun y => (B1.out.drew.step y.ok (by simp)).cell 2
  have r2 : ∀ y : ClsW (Step [] W.drew), y.val.cell? ⟨db, 2, none⟩ = some (.string (bstr c1.wk)) := fun y => by rw [h2]; exact (B2.out.drew.step y.ok (by simp)).cell 2
  have q3 : ∀ y : ClsW (Step [] W.drew), y.val.cell? ⟨cb, 3, none⟩ = some (.int .u64 (c1.tk : Int)) := fun y => (B1.out.drew.step y.ok (by simp)).cell 3
  have r3 : ∀ y : ClsW (Step [] W.drew), y.val.cell? ⟨db, 3, none⟩ = some (.int .u64 (c1.tk : Int)) := fun y => by rw [h3]; exact (B2.out.drew.step y.ok (by simp)).cell 3
  have q4 : ∀ y : ClsW (Step [] W.drew), y.val.cell? ⟨cb, 4, none⟩ = some (.int .i64 c1.vl) := fun y => (B1.out.drew.step y.ok (by simp)).cell 4
  have r4 : ∀ y : ClsW (Step [] W.drew), y.val.cell? ⟨db, 4, none⟩ = some (.int .i64 c2.vl) := fun y => (B2.out.drew.step y.ok (by simp)).cell 4
  have hb : (c1.vl == c2.vl) = false := by simpa using hn
  clear hres hn1 hn2 x1 x2 b1 b2 hst t1 t2 l1 l2 w1 w2 h0 h1 h2 h3
  go_enter Try.func13, Try.ntmps13
  go_wp2_with (first | rw [X1.out.1, X1.out.2] | rw [X2.out.1, X2.out.2])
  refine region_cls (G := Step [] W.drew) (by kernel_rfl) (by kernel_rfl) (Step.refl _ _) ?_
  repeat (go_big_quiet_step (fail))
  refine wpQuiet_nil ?_
  rintro w2 ⟨⟨w2i, hw2⟩, he⟩
  have he' : w2 = w2i := he
  subst he'
  clear he
  have HF := Lib.hid ((HS.out.then (Step.refl [] W).drew (by simp)).then hw2 (by simp))
  clear hne hw2 q0 r0 q1 r1 q2 r2 q3 r3 q4 r4
  go_wp2_with fail
  go_ret
  exact ⟨rfl, HF.out⟩
set_option maxRecDepth 100000 in
set_option maxHeartbeats 1000000 in
theorem same_5 (c1 c2 : PC) (a1 a2 : Option Addr) (k1 k2 : Nat) (w : World) (t1 : TxS w a1 c1.sp.ds) (t2 : TxS w a2 c2.sp.ds) (l1 : LitS c1.sp) (l2 : LitS c2.sp) (w1 : WfS c1.sp) (w2 : WfS c2.sp) (h0 : c1.kd = c2.kd) (h1 : c1.nm = c2.nm) (h2 : c1.wk = c2.wk) (h3 : c1.tk = c2.tk) (h4 : c1.vl = c2.vl) :
    Calls Try.prog 13 #[.agg (cmC c1 a1 c1.sp.ds.length k1).toArray, .agg (cmC c2 a2 c2.sp.ds.length k2).toArray] w fun e w' => e = .returned (.bool (sameC c1 c2)) ∧ Step [] w w' := by
  obtain ⟨n1, hn1⟩ : ∃ n, c1.sp.ds.length = n := ⟨_, rfl⟩
  obtain ⟨n2, hn2⟩ : ∃ n, c2.sp.ds.length = n := ⟨_, rfl⟩
  have HA := Lib.hid (fun (X : World) (hX : Step [] w X) => refBytes_any c1.sp a1 k1 X (t1.step0 hX) l1 w1)
  have HB := Lib.hid (fun (X : World) (hX : Step [] w X) => refBytes_any c2.sp a2 k2 X (t2.step0 hX) l2 w2)
  rw [hn1] at HA ⊢
  rw [hn2] at HB ⊢
  obtain ⟨W1, W, cb, db, x1, x2, b1, b2, hst⟩ := two_box w (cmC c1 a1 n1 k1).toArray (cmC c2 a2 n2 k2).toArray 38
  have X1 := Lib.hid x1
  have X2 := Lib.hid x2
  have B1 := Lib.hid b1
  have B2 := Lib.hid b2
  have HS := Lib.hid hst
  have hres : sameC c1 c2 = (bytesS c1.sp == bytesS c2.sp) := by
    unfold sameC
    by_cases h : bytesS c1.sp = bytesS c2.sp <;> simp [h0, h1, h2, h3, h4, h]
  rw [hres]
  have hne : Nonempty (ClsW (Step [] W.drew)) := ⟨⟨_, Step.refl _ _⟩⟩
  have q0 : ∀ y : ClsW (Step [] W.drew), y.val.cell? ⟨cb, 0, none⟩ = some (.int .i64 c1.kd) := fun y => (B1.out.drew.step y.ok (by simp)).cell 0
  have r0 : ∀ y : ClsW (Step [] W.drew), y.val.cell? ⟨db, 0, none⟩ = some (.int .i64 c1.kd) := fun y => by rw [h0]; exact (B2.out.drew.step y.ok (by simp)).cell 0
  have q1 : ∀ y : ClsW (Step [] W.drew), y.val.cell? ⟨cb, 1, none⟩ = some (.string (bstr c1.nm)) := fun y => (B1.out.drew.step y.ok (by simp)).cell 1
  have r1 : ∀ y : ClsW (Step [] W.drew), y.val.cell? ⟨db, 1, none⟩ = some (.string (bstr c1.nm)) := fun y => by rw [h1]; exact (B2.out.drew.step y.ok (by simp)).cell 1
  have q2 : ∀ y : ClsW (Step [] W.drew), y.val.cell? ⟨cb, 2, none⟩ = some (.string (bstr c1.wk)) := fun y => (B1.out.drew.step y.ok (by simp)).cell 2
  have r2 : ∀ y : ClsW (Step [] W.drew), y.val.cell? ⟨db, 2, none⟩ = some (.string (bstr c1.wk)) := fun y => by rw [h2]; exact (B2.out.drew.step y.ok (by simp)).cell 2
  have q3 : ∀ y : ClsW (Step [] W.drew), y.val.cell? ⟨cb, 3, none⟩ = some (.int .u64 (c1.tk : Int)) := fun y => (B1.out.drew.step y.ok (by simp)).cell 3
  have r3 : ∀ y : ClsW (Step [] W.drew), y.val.cell? ⟨db, 3, none⟩ = some (.int .u64 (c1.tk : Int)) := fun y => by rw [h3]; exact (B2.out.drew.step y.ok (by simp)).cell 3
  have q4 : ∀ y : ClsW (Step [] W.drew), y.val.cell? ⟨cb, 4, none⟩ = some (.int .i64 c1.vl) := fun y => (B1.out.drew.step y.ok (by simp)).cell 4
  have r4 : ∀ y : ClsW (Step [] W.drew), y.val.cell? ⟨db, 4, none⟩ = some (.int .i64 c1.vl) := fun y => by rw [h4]; exact (B2.out.drew.step y.ok (by simp)).cell 4
  have q5 : ∀ y : ClsW (Step [] W.drew), rowC y.val cb 5 11 = some (spC c1.sp a1 n1 k1) := fun y => cm_sp (B1.out.drew.step y.ok (by simp))
  have r5 : ∀ y : ClsW (Step [] W.drew), rowC y.val db 5 11 = some (spC c2.sp a2 n2 k2) := fun y => cm_sp (B2.out.drew.step y.ok (by simp))
  obtain ⟨x, hx⟩ : ∃ x, bytesS c1.sp = x := ⟨_, rfl⟩
  obtain ⟨z, hz⟩ : ∃ x, bytesS c2.sp = x := ⟨_, rfl⟩
  rw [hx] at HA ⊢
  rw [hz] at HB ⊢
  obtain ⟨rr, hr⟩ : ∃ r, (x == z) = r := ⟨_, rfl⟩
  rw [hr]
  clear hres hn1 hn2 x1 x2 b1 b2 hst t1 t2 l1 l2 w1 w2 hx hz h0 h1 h2 h3 h4
  go_enter Try.func13, Try.ntmps13
  go_wp2_with (first | rw [X1.out.1, X1.out.2] | rw [X2.out.1, X2.out.2])
  refine region_cls (G := Step [] W.drew) (by kernel_rfl) (by kernel_rfl) (Step.refl _ _) ?_
  repeat (go_big_quiet_step ((first
    | (go_at_call_of 32 n1; exact cls_call ((HA.out _ (Step.then (Step.then HS.out (Step.refl [] W).drew (by simp)) (ClsW.ok _) (by simp))).mono fun e w3 h => ⟨h.1, Step.then (ClsW.ok _) h.2 (by simp)⟩))
    | (go_at_call_of 32 n2; exact cls_call ((HB.out _ (Step.then (Step.then HS.out (Step.refl [] W).drew (by simp)) (ClsW.ok _) (by simp))).mono fun e w3 h => ⟨h.1, Step.then (ClsW.ok _) h.2 (by simp)⟩)))))
  refine wpQuiet_nil ?_
  rintro w2 ⟨⟨w2i, hw2⟩, he⟩
  have he' : w2 = w2i := he
  subst he'
  clear he
  have HF := Lib.hid ((HS.out.then (Step.refl [] W).drew (by simp)).then hw2 (by simp))
  clear hne hw2 q0 r0 q1 r1 q2 r2 q3 r3 q4 r4 q5 r5
  go_wp2_with fail
  go_ret
  exact ⟨rfl, HF.out⟩
theorem same_any (c1 c2 : PC) (a1 a2 : Option Addr) (k1 k2 : Nat) (w : World) (t1 : TxS w a1 c1.sp.ds) (t2 : TxS w a2 c2.sp.ds) (l1 : LitS c1.sp) (l2 : LitS c2.sp) (w1 : WfS c1.sp) (w2 : WfS c2.sp) :
    Calls Try.prog 13 #[.agg (cmC c1 a1 c1.sp.ds.length k1).toArray, .agg (cmC c2 a2 c2.sp.ds.length k2).toArray] w fun e w' => e = .returned (.bool (sameC c1 c2)) ∧ Step [] w w' := by
  by_cases h0 : c1.kd = c2.kd
  · by_cases h1 : c1.nm = c2.nm
    · by_cases h2 : c1.wk = c2.wk
      · by_cases h3 : c1.tk = c2.tk
        · by_cases h4 : c1.vl = c2.vl
          · exact same_5 c1 c2 a1 a2 k1 k2 w t1 t2 l1 l2 w1 w2 h0 h1 h2 h3 h4
          · exact same_4 c1 c2 a1 a2 k1 k2 w t1 t2 l1 l2 w1 w2 h0 h1 h2 h3 h4
        · exact same_3 c1 c2 a1 a2 k1 k2 w t1 t2 l1 l2 w1 w2 h0 h1 h2 h3
      · exact same_2 c1 c2 a1 a2 k1 k2 w t1 t2 l1 l2 w1 w2 h0 h1 h2
    · exact same_1 c1 c2 a1 a2 k1 k2 w t1 t2 l1 l2 w1 w2 h0 h1
  · exact same_0 c1 c2 a1 a2 k1 k2 w t1 t2 l1 l2 w1 w2 h0

/-- is a command little? -/
def fewC (c : PC) : Bool := decide (c.nm.length ≤ 600) && decide (c.wk.length ≤ 600) && fewS c.sp
theorem fewC_lit {c : PC} (h : fewC c = true) : LitC c := by
  unfold fewC at h
  simp only [Bool.and_eq_true, decide_eq_true_eq] at h
  exact ⟨by omega, by omega, ((fewS_iff c.sp).1 h.2).lit⟩
set_option maxRecDepth 100000 in
set_option maxHeartbeats 1000000 in
theorem fewc_any (c : PC) (a : Option Addr) (k : Nat) (w : World) (hm1 : c.nm.length ≤ 9223372036854775807) (hm2 : c.wk.length ≤ 9223372036854775807)
    (hf : ∀ W, Step [] w W → Calls Try.prog 29 #[.agg (spC c.sp a c.sp.ds.length k).toArray] W fun e w' => e = .returned (.bool (fewS c.sp)) ∧ Step [] W w') :
    Calls Try.prog 11 #[.agg (cmC c a c.sp.ds.length k).toArray] w fun e w' => e = .returned (.bool (fewC c)) ∧ Step [] w w' := by
  obtain ⟨n, hnn⟩ : ∃ n, c.sp.ds.length = n := ⟨_, rfl⟩
  rw [hnn] at hf ⊢
  have b1 := Blk.new w (cmC c a n k).toArray 38
  have s1 := (Step.refl [] w).alloc (.cells (cmC c a n k).toArray 38)
  obtain ⟨W, hWW⟩ : ∃ W, w.alloc (.cells (cmC c a n k).toArray 38) = W := ⟨_, rfl⟩
  obtain ⟨cb, hcb⟩ : ∃ cb, w.heap.size = cb := ⟨_, rfl⟩
  rw [hWW] at b1 s1
  rw [hcb] at b1
  have HWW := Lib.hid (And.intro hWW hcb)
  have HB := Lib.hid b1
  have HS := Lib.hid s1
  have HF := Lib.hid (hf W s1)
  have c1 : W.cell? ⟨cb, 1, none⟩ = some (.string (bstr c.nm)) := b1.cell 1
  have c2 : W.cell? ⟨cb, 2, none⟩ = some (.string (bstr c.wk)) := b1.cell 2
  have c5 := cm_sp b1
  have z1 := bstr_size c.nm
  have z2 := bstr_size c.wk
  have hres : fewC c = (decide (c.nm.length ≤ 600) && decide (c.wk.length ≤ 600) && fewS c.sp) := rfl
  rw [hres]
  generalize fewS c.sp = f at *
  clear hWW hcb hf b1 s1 hres hnn
  by_cases h1 : c.nm.length ≤ 600
  · have h1' : (c.nm.length : Int) ≤ 600 := by omega
    by_cases h2 : c.wk.length ≤ 600
    · have h2' : (c.wk.length : Int) ≤ 600 := by omega
      go_enter Try.func11, Try.ntmps11
      go_wp2_with (rw [HWW.out.1, HWW.out.2])
      refine HF.out.mono ?_
      rintro e w1 ⟨rfl, hs1⟩
      have HS1 := Lib.hid (HS.out.then hs1 (by simp))
      clear hs1
      go_wp2_with fail
      go_ret
      exact ⟨by simp [h1, h2], HS1.out⟩
    · have h2' : ¬ (c.wk.length : Int) ≤ 600 := by omega
      go_enter Try.func11, Try.ntmps11
      go_wp2_with (rw [HWW.out.1, HWW.out.2])
      go_ret
      exact ⟨by simp [h2], HS.out⟩
  · have h1' : ¬ (c.nm.length : Int) ≤ 600 := by omega
    go_enter Try.func11, Try.ntmps11
    go_wp2_with (rw [HWW.out.1, HWW.out.2])
    go_ret
    exact ⟨by simp [h1], HS.out⟩
end Go.Proofs.Ytdfkagpnfgmbeaa
