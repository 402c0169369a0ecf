/- SpecClones: spec.Same, walked once for each field that parts. (Printed by a program.) -/
import Derived.Test.YtiilgpffclhlcaaSpecM
namespace Go.Proofs.Ytiilgpffclhlcaa
set_option linter.unusedVariables false
open Go.RowKit
attribute [local go_sem] bstr_toList
theorem blk2 (w : World) (C D : Array Value) (T : TypeId) : Blk ((w.alloc (.cells C T)).alloc (.cells D T)) w.heap.size C T ∧ Blk ((w.alloc (.cells C T)).alloc (.cells D T)) (w.heap.size + 1) D T ∧ Step [] w ((w.alloc (.cells C T)).alloc (.cells D T)) := by
  refine ⟨(Blk.new w C T).alloc _, ?_, ((Step.refl [] w).alloc _).alloc _⟩
  have := Blk.new (w.alloc (.cells C T)) D T
  rwa [World.size_alloc] at this

set_option maxRecDepth 100000 in
set_option maxHeartbeats 1000000 in
theorem same_0 (s t : PS) (a b : Option Addr) (c d : Nat) (w : World) (ha : TxS w a s.ds) (hb : TxS w b t.ds) (hl : s.ds.length ≤ 1000000) (hm : t.ds.length ≤ 1000000) (q0 : (s.nm == t.nm) = false) :
    Calls Try.prog 10 #[.agg (spC s a s.ds.length c).toArray, .agg (spC t b t.ds.length d).toArray] w fun e w' => e = .returned (.bool false) ∧ Step [] w w' := by
  obtain ⟨hb1, hb2, hst⟩ := blk2 w (spC s a s.ds.length c).toArray (spC t b t.ds.length d).toArray 28
  have HE := Lib.hid (fun (W : World) (hs : Step [] w W) => equal_txs a b c d s.ds t.ds W (ha.step0 hs) (hb.step0 hs) hl hm)
  obtain ⟨W, hW⟩ : ∃ W, (w.alloc (.cells (spC s a s.ds.length c).toArray 28)).alloc (.cells (spC t b t.ds.length d).toArray 28) = W := ⟨_, rfl⟩
  rw [hW] at hb1 hb2 hst
  have HW := Lib.hid hW
  have HB1 := Lib.hid hb1
  have HB2 := Lib.hid hb2
  have HS := Lib.hid hst
  clear hW hb1 hb2 hst ha hb hl hm
  go_enter Try.func10, Try.ntmps10
  go_wp2_with fail
  rw [HW.out]
  have hne : Nonempty (ClsW (Step [] W.drew)) := ⟨⟨_, Step.refl _ _⟩⟩
  have x4 : ∀ y : ClsW (Step [] W.drew), y.val.cell? ⟨w.heap.size, 4, none⟩ = some _ := fun y => (HB1.out.drew.step y.ok (by simp)).cell 4
  have y4 : ∀ y : ClsW (Step [] W.drew), y.val.cell? ⟨w.heap.size + 1, 4, none⟩ = some _ := fun y => (HB2.out.drew.step y.ok (by simp)).cell 4
  refine region_cls (G := Step [] W.drew) (by kernel_rfl) (by kernel_rfl) (Step.refl _ _) ?_
  repeat (go_big_quiet_step (fail))
  refine wpQuiet_nil ?_
  rintro w2 ⟨⟨w2i, hw2⟩, he⟩
  have he' : w2 = w2i := he
  subst he'
  clear he
  have HF := Lib.hid ((HS.out.then (Step.refl [] W).drew (by simp)).then hw2 (by simp))
  obtain ⟨u0, u1, u2, u3, u4, u5, u6, u7, u8, u9, u10⟩ := sp_cells (HB1.out.drew.step hw2 (by simp))
  obtain ⟨v0, v1, v2, v3, v4, v5, v6, v7, v8, v9, v10⟩ := sp_cells (HB2.out.drew.step hw2 (by simp))
  clear hne x4 y4
  go_wp2_with fail
  go_ret
  exact ⟨rfl, HF.out⟩

set_option maxRecDepth 100000 in
set_option maxHeartbeats 1000000 in
theorem same_1 (s t : PS) (a b : Option Addr) (c d : Nat) (w : World) (ha : TxS w a s.ds) (hb : TxS w b t.ds) (hl : s.ds.length ≤ 1000000) (hm : t.ds.length ≤ 1000000) (q0 : (s.nm == t.nm) = true) (q1 : (s.tn == t.tn) = false) :
    Calls Try.prog 10 #[.agg (spC s a s.ds.length c).toArray, .agg (spC t b t.ds.length d).toArray] w fun e w' => e = .returned (.bool false) ∧ Step [] w w' := by
  obtain ⟨hb1, hb2, hst⟩ := blk2 w (spC s a s.ds.length c).toArray (spC t b t.ds.length d).toArray 28
  have HE := Lib.hid (fun (W : World) (hs : Step [] w W) => equal_txs a b c d s.ds t.ds W (ha.step0 hs) (hb.step0 hs) hl hm)
  obtain ⟨W, hW⟩ : ∃ W, (w.alloc (.cells (spC s a s.ds.length c).toArray 28)).alloc (.cells (spC t b t.ds.length d).toArray 28) = W := ⟨_, rfl⟩
  rw [hW] at hb1 hb2 hst
  have HW := Lib.hid hW
  have HB1 := Lib.hid hb1
  have HB2 := Lib.hid hb2
  have HS := Lib.hid hst
  clear hW hb1 hb2 hst ha hb hl hm
  go_enter Try.func10, Try.ntmps10
  go_wp2_with fail
  rw [HW.out]
  have hne : Nonempty (ClsW (Step [] W.drew)) := ⟨⟨_, Step.refl _ _⟩⟩
  have x4 : ∀ y : ClsW (Step [] W.drew), y.val.cell? ⟨w.heap.size, 4, none⟩ = some _ := fun y => (HB1.out.drew.step y.ok (by simp)).cell 4
  have y4 : ∀ y : ClsW (Step [] W.drew), y.val.cell? ⟨w.heap.size + 1, 4, none⟩ = some _ := fun y => (HB2.out.drew.step y.ok (by simp)).cell 4
  refine region_cls (G := Step [] W.drew) (by kernel_rfl) (by kernel_rfl) (Step.refl _ _) ?_
  repeat (go_big_quiet_step (fail))
  refine wpQuiet_nil ?_
  rintro w2 ⟨⟨w2i, hw2⟩, he⟩
  have he' : w2 = w2i := he
  subst he'
  clear he
  have HF := Lib.hid ((HS.out.then (Step.refl [] W).drew (by simp)).then hw2 (by simp))
  obtain ⟨u0, u1, u2, u3, u4, u5, u6, u7, u8, u9, u10⟩ := sp_cells (HB1.out.drew.step hw2 (by simp))
  obtain ⟨v0, v1, v2, v3, v4, v5, v6, v7, v8, v9, v10⟩ := sp_cells (HB2.out.drew.step hw2 (by simp))
  clear hne x4 y4
  go_wp2_with fail
  go_ret
  exact ⟨rfl, HF.out⟩

set_option maxRecDepth 100000 in
set_option maxHeartbeats 1000000 in
theorem same_2 (s t : PS) (a b : Option Addr) (c d : Nat) (w : World) (ha : TxS w a s.ds) (hb : TxS w b t.ds) (hl : s.ds.length ≤ 1000000) (hm : t.ds.length ≤ 1000000) (q0 : (s.nm == t.nm) = true) (q1 : (s.tn == t.tn) = true) (q2 : (s.pr == t.pr) = false) :
    Calls Try.prog 10 #[.agg (spC s a s.ds.length c).toArray, .agg (spC t b t.ds.length d).toArray] w fun e w' => e = .returned (.bool false) ∧ Step [] w w' := by
  obtain ⟨hb1, hb2, hst⟩ := blk2 w (spC s a s.ds.length c).toArray (spC t b t.ds.length d).toArray 28
  have HE := Lib.hid (fun (W : World) (hs : Step [] w W) => equal_txs a b c d s.ds t.ds W (ha.step0 hs) (hb.step0 hs) hl hm)
  obtain ⟨W, hW⟩ : ∃ W, (w.alloc (.cells (spC s a s.ds.length c).toArray 28)).alloc (.cells (spC t b t.ds.length d).toArray 28) = W := ⟨_, rfl⟩
  rw [hW] at hb1 hb2 hst
  have HW := Lib.hid hW
  have HB1 := Lib.hid hb1
  have HB2 := Lib.hid hb2
  have HS := Lib.hid hst
  clear hW hb1 hb2 hst ha hb hl hm
  go_enter Try.func10, Try.ntmps10
  go_wp2_with fail
  rw [HW.out]
  have hne : Nonempty (ClsW (Step [] W.drew)) := ⟨⟨_, Step.refl _ _⟩⟩
  have x4 : ∀ y : ClsW (Step [] W.drew), y.val.cell? ⟨w.heap.size, 4, none⟩ = some _ := fun y => (HB1.out.drew.step y.ok (by simp)).cell 4
  have y4 : ∀ y : ClsW (Step [] W.drew), y.val.cell? ⟨w.heap.size + 1, 4, none⟩ = some _ := fun y => (HB2.out.drew.step y.ok (by simp)).cell 4
  refine region_cls (G := Step [] W.drew) (by kernel_rfl) (by kernel_rfl) (Step.refl _ _) ?_
  repeat (go_big_quiet_step (fail))
  refine wpQuiet_nil ?_
  rintro w2 ⟨⟨w2i, hw2⟩, he⟩
  have he' : w2 = w2i := he
  subst he'
  clear he
  have HF := Lib.hid ((HS.out.then (Step.refl [] W).drew (by simp)).then hw2 (by simp))
  obtain ⟨u0, u1, u2, u3, u4, u5, u6, u7, u8, u9, u10⟩ := sp_cells (HB1.out.drew.step hw2 (by simp))
  obtain ⟨v0, v1, v2, v3, v4, v5, v6, v7, v8, v9, v10⟩ := sp_cells (HB2.out.drew.step hw2 (by simp))
  clear hne x4 y4
  go_wp2_with fail
  go_ret
  exact ⟨rfl, HF.out⟩

set_option maxRecDepth 100000 in
set_option maxHeartbeats 1000000 in
theorem same_3 (s t : PS) (a b : Option Addr) (c d : Nat) (w : World) (ha : TxS w a s.ds) (hb : TxS w b t.ds) (hl : s.ds.length ≤ 1000000) (hm : t.ds.length ≤ 1000000) (q0 : (s.nm == t.nm) = true) (q1 : (s.tn == t.tn) = true) (q2 : (s.pr == t.pr) = true) (q3 : (s.de == t.de) = false) :
    Calls Try.prog 10 #[.agg (spC s a s.ds.length c).toArray, .agg (spC t b t.ds.length d).toArray] w fun e w' => e = .returned (.bool false) ∧ Step [] w w' := by
  obtain ⟨hb1, hb2, hst⟩ := blk2 w (spC s a s.ds.length c).toArray (spC t b t.ds.length d).toArray 28
  have HE := Lib.hid (fun (W : World) (hs : Step [] w W) => equal_txs a b c d s.ds t.ds W (ha.step0 hs) (hb.step0 hs) hl hm)
  obtain ⟨W, hW⟩ : ∃ W, (w.alloc (.cells (spC s a s.ds.length c).toArray 28)).alloc (.cells (spC t b t.ds.length d).toArray 28) = W := ⟨_, rfl⟩
  rw [hW] at hb1 hb2 hst
  have HW := Lib.hid hW
  have HB1 := Lib.hid hb1
  have HB2 := Lib.hid hb2
  have HS := Lib.hid hst
  clear hW hb1 hb2 hst ha hb hl hm
  go_enter Try.func10, Try.ntmps10
  go_wp2_with fail
  rw [HW.out]
  have hne : Nonempty (ClsW (Step [] W.drew)) := ⟨⟨_, Step.refl _ _⟩⟩
  have x4 : ∀ y : ClsW (Step [] W.drew), y.val.cell? ⟨w.heap.size, 4, none⟩ = some _ := fun y => (HB1.out.drew.step y.ok (by simp)).cell 4
  have y4 : ∀ y : ClsW (Step [] W.drew), y.val.cell? ⟨w.heap.size + 1, 4, none⟩ = some _ := fun y => (HB2.out.drew.step y.ok (by simp)).cell 4
  refine region_cls (G := Step [] W.drew) (by kernel_rfl) (by kernel_rfl) (Step.refl _ _) ?_
  repeat (go_big_quiet_step (fail))
  refine wpQuiet_nil ?_
  rintro w2 ⟨⟨w2i, hw2⟩, he⟩
  have he' : w2 = w2i := he
  subst he'
  clear he
  have HF := Lib.hid ((HS.out.then (Step.refl [] W).drew (by simp)).then hw2 (by simp))
  obtain ⟨u0, u1, u2, u3, u4, u5, u6, u7, u8, u9, u10⟩ := sp_cells (HB1.out.drew.step hw2 (by simp))
  obtain ⟨v0, v1, v2, v3, v4, v5, v6, v7, v8, v9, v10⟩ := sp_cells (HB2.out.drew.step hw2 (by simp))
  clear hne x4 y4
  go_wp2_with fail
  go_ret
  exact ⟨rfl, HF.out⟩

set_option maxRecDepth 100000 in
set_option maxHeartbeats 1000000 in
theorem same_4 (s t : PS) (a b : Option Addr) (c d : Nat) (w : World) (ha : TxS w a s.ds) (hb : TxS w b t.ds) (hl : s.ds.length ≤ 1000000) (hm : t.ds.length ≤ 1000000) (q0 : (s.nm == t.nm) = true) (q1 : (s.tn == t.tn) = true) (q2 : (s.pr == t.pr) = true) (q3 : (s.de == t.de) = true) (q4 : (s.ds == t.ds) = false) :
    Calls Try.prog 10 #[.agg (spC s a s.ds.length c).toArray, .agg (spC t b t.ds.length d).toArray] w fun e w' => e = .returned (.bool false) ∧ Step [] w w' := by
  obtain ⟨hb1, hb2, hst⟩ := blk2 w (spC s a s.ds.length c).toArray (spC t b t.ds.length d).toArray 28
  have HE := Lib.hid (fun (W : World) (hs : Step [] w W) => equal_txs a b c d s.ds t.ds W (ha.step0 hs) (hb.step0 hs) hl hm)
  obtain ⟨W, hW⟩ : ∃ W, (w.alloc (.cells (spC s a s.ds.length c).toArray 28)).alloc (.cells (spC t b t.ds.length d).toArray 28) = W := ⟨_, rfl⟩
  rw [hW] at hb1 hb2 hst
  have HW := Lib.hid hW
  have HB1 := Lib.hid hb1
  have HB2 := Lib.hid hb2
  have HS := Lib.hid hst
  clear hW hb1 hb2 hst ha hb hl hm
  go_enter Try.func10, Try.ntmps10
  go_wp2_with fail
  rw [HW.out]
  have hne : Nonempty (ClsW (Step [] W.drew)) := ⟨⟨_, Step.refl _ _⟩⟩
  have x4 : ∀ y : ClsW (Step [] W.drew), y.val.cell? ⟨w.heap.size, 4, none⟩ = some _ := fun y => (HB1.out.drew.step y.ok (by simp)).cell 4
  have y4 : ∀ y : ClsW (Step [] W.drew), y.val.cell? ⟨w.heap.size + 1, 4, none⟩ = some _ := fun y => (HB2.out.drew.step y.ok (by simp)).cell 4
  refine region_cls (G := Step [] W.drew) (by kernel_rfl) (by kernel_rfl) (Step.refl _ _) ?_
  repeat (go_big_quiet_step (fail))
  refine wpQuiet_nil ?_
  rintro w2 ⟨⟨w2i, hw2⟩, he⟩
  have he' : w2 = w2i := he
  subst he'
  clear he
  have HF := Lib.hid ((HS.out.then (Step.refl [] W).drew (by simp)).then hw2 (by simp))
  obtain ⟨u0, u1, u2, u3, u4, u5, u6, u7, u8, u9, u10⟩ := sp_cells (HB1.out.drew.step hw2 (by simp))
  obtain ⟨v0, v1, v2, v3, v4, v5, v6, v7, v8, v9, v10⟩ := sp_cells (HB2.out.drew.step hw2 (by simp))
  clear hne x4 y4
  go_wp2_with fail
  refine (HE.out w2 HF.out).mono ?_
  rintro e w3 ⟨rfl, h3⟩
  rw [q4]
  have HF3 := Lib.hid (HF.out.then h3 (by simp))
  clear u0 u1 u2 u3 u4 u5 u6 u7 u8 u9 u10 v0 v1 v2 v3 v4 v5 v6 v7 v8 v9 v10
  obtain ⟨u0, u1, u2, u3, u4, u5, u6, u7, u8, u9, u10⟩ := sp_cells ((HB1.out.drew.step hw2 (by simp)).step h3 (by simp))
  obtain ⟨v0, v1, v2, v3, v4, v5, v6, v7, v8, v9, v10⟩ := sp_cells ((HB2.out.drew.step hw2 (by simp)).step h3 (by simp))
  clear h3 hw2
  go_simp
  go_wp2_with fail
  go_ret
  exact ⟨rfl, HF3.out⟩

set_option maxRecDepth 100000 in
set_option maxHeartbeats 1000000 in
theorem same_5 (s t : PS) (a b : Option Addr) (c d : Nat) (w : World) (ha : TxS w a s.ds) (hb : TxS w b t.ds) (hl : s.ds.length ≤ 1000000) (hm : t.ds.length ≤ 1000000) (q0 : (s.nm == t.nm) = true) (q1 : (s.tn == t.tn) = true) (q2 : (s.pr == t.pr) = true) (q3 : (s.de == t.de) = true) (q4 : (s.ds == t.ds) = true) (q5 : (s.ba == t.ba) = false) :
    Calls Try.prog 10 #[.agg (spC s a s.ds.length c).toArray, .agg (spC t b t.ds.length d).toArray] w fun e w' => e = .returned (.bool false) ∧ Step [] w w' := by
  obtain ⟨hb1, hb2, hst⟩ := blk2 w (spC s a s.ds.length c).toArray (spC t b t.ds.length d).toArray 28
  have HE := Lib.hid (fun (W : World) (hs : Step [] w W) => equal_txs a b c d s.ds t.ds W (ha.step0 hs) (hb.step0 hs) hl hm)
  obtain ⟨W, hW⟩ : ∃ W, (w.alloc (.cells (spC s a s.ds.length c).toArray 28)).alloc (.cells (spC t b t.ds.length d).toArray 28) = W := ⟨_, rfl⟩
  rw [hW] at hb1 hb2 hst
  have HW := Lib.hid hW
  have HB1 := Lib.hid hb1
  have HB2 := Lib.hid hb2
  have HS := Lib.hid hst
  clear hW hb1 hb2 hst ha hb hl hm
  go_enter Try.func10, Try.ntmps10
  go_wp2_with fail
  rw [HW.out]
  have hne : Nonempty (ClsW (Step [] W.drew)) := ⟨⟨_, Step.refl _ _⟩⟩
  have x4 : ∀ y : ClsW (Step [] W.drew), y.val.cell? ⟨w.heap.size, 4, none⟩ = some _ := fun y => (HB1.out.drew.step y.ok (by simp)).cell 4
  have y4 : ∀ y : ClsW (Step [] W.drew), y.val.cell? ⟨w.heap.size + 1, 4, none⟩ = some _ := fun y => (HB2.out.drew.step y.ok (by simp)).cell 4
  refine region_cls (G := Step [] W.drew) (by kernel_rfl) (by kernel_rfl) (Step.refl _ _) ?_
  repeat (go_big_quiet_step (fail))
  refine wpQuiet_nil ?_
  rintro w2 ⟨⟨w2i, hw2⟩, he⟩
  have he' : w2 = w2i := he
  subst he'
  clear he
  have HF := Lib.hid ((HS.out.then (Step.refl [] W).drew (by simp)).then hw2 (by simp))
  obtain ⟨u0, u1, u2, u3, u4, u5, u6, u7, u8, u9, u10⟩ := sp_cells (HB1.out.drew.step hw2 (by simp))
  obtain ⟨v0, v1, v2, v3, v4, v5, v6, v7, v8, v9, v10⟩ := sp_cells (HB2.out.drew.step hw2 (by simp))
  clear hne x4 y4
  go_wp2_with fail
  refine (HE.out w2 HF.out).mono ?_
  rintro e w3 ⟨rfl, h3⟩
  rw [q4]
  have HF3 := Lib.hid (HF.out.then h3 (by simp))
  clear u0 u1 u2 u3 u4 u5 u6 u7 u8 u9 u10 v0 v1 v2 v3 v4 v5 v6 v7 v8 v9 v10
  obtain ⟨u0, u1, u2, u3, u4, u5, u6, u7, u8, u9, u10⟩ := sp_cells ((HB1.out.drew.step hw2 (by simp)).step h3 (by simp))
  obtain ⟨v0, v1, v2, v3, v4, v5, v6, v7, v8, v9, v10⟩ := sp_cells ((HB2.out.drew.step hw2 (by simp)).step h3 (by simp))
  clear h3 hw2
  go_simp
  go_wp2_with fail
  go_ret
  exact ⟨rfl, HF3.out⟩

set_option maxRecDepth 100000 in
set_option maxHeartbeats 1000000 in
theorem same_6 (s t : PS) (a b : Option Addr) (c d : Nat) (w : World) (ha : TxS w a s.ds) (hb : TxS w b t.ds) (hl : s.ds.length ≤ 1000000) (hm : t.ds.length ≤ 1000000) (q0 : (s.nm == t.nm) = true) (q1 : (s.tn == t.tn) = true) (q2 : (s.pr == t.pr) = true) (q3 : (s.de == t.de) = true) (q4 : (s.ds == t.ds) = true) (q5 : (s.ba == t.ba) = true) (q6 : (s.ca == t.ca) = false) :
    Calls Try.prog 10 #[.agg (spC s a s.ds.length c).toArray, .agg (spC t b t.ds.length d).toArray] w fun e w' => e = .returned (.bool false) ∧ Step [] w w' := by
  obtain ⟨hb1, hb2, hst⟩ := blk2 w (spC s a s.ds.length c).toArray (spC t b t.ds.length d).toArray 28
  have HE := Lib.hid (fun (W : World) (hs : Step [] w W) => equal_txs a b c d s.ds t.ds W (ha.step0 hs) (hb.step0 hs) hl hm)
  obtain ⟨W, hW⟩ : ∃ W, (w.alloc (.cells (spC s a s.ds.length c).toArray 28)).alloc (.cells (spC t b t.ds.length d).toArray 28) = W := ⟨_, rfl⟩
  rw [hW] at hb1 hb2 hst
  have HW := Lib.hid hW
  have HB1 := Lib.hid hb1
  have HB2 := Lib.hid hb2
  have HS := Lib.hid hst
  clear hW hb1 hb2 hst ha hb hl hm
  go_enter Try.func10, Try.ntmps10
  go_wp2_with fail
  rw [HW.out]
  have hne : Nonempty (ClsW (Step [] W.drew)) := ⟨⟨_, Step.refl _ _⟩⟩
  have x4 : ∀ y : ClsW (Step [] W.drew), y.val.cell? ⟨w.heap.size, 4, none⟩ = some _ := fun y => (HB1.out.drew.step y.ok (by simp)).cell 4
  have y4 : ∀ y : ClsW (Step [] W.drew), y.val.cell? ⟨w.heap.size + 1, 4, none⟩ = some _ := fun y => (HB2.out.drew.step y.ok (by simp)).cell 4
  refine region_cls (G := Step [] W.drew) (by kernel_rfl) (by kernel_rfl) (Step.refl _ _) ?_
  repeat (go_big_quiet_step (fail))
  refine wpQuiet_nil ?_
  rintro w2 ⟨⟨w2i, hw2⟩, he⟩
  have he' : w2 = w2i := he
  subst he'
  clear he
  have HF := Lib.hid ((HS.out.then (Step.refl [] W).drew (by simp)).then hw2 (by simp))
  obtain ⟨u0, u1, u2, u3, u4, u5, u6, u7, u8, u9, u10⟩ := sp_cells (HB1.out.drew.step hw2 (by simp))
  obtain ⟨v0, v1, v2, v3, v4, v5, v6, v7, v8, v9, v10⟩ := sp_cells (HB2.out.drew.step hw2 (by simp))
  clear hne x4 y4
  go_wp2_with fail
  refine (HE.out w2 HF.out).mono ?_
  rintro e w3 ⟨rfl, h3⟩
  rw [q4]
  have HF3 := Lib.hid (HF.out.then h3 (by simp))
  clear u0 u1 u2 u3 u4 u5 u6 u7 u8 u9 u10 v0 v1 v2 v3 v4 v5 v6 v7 v8 v9 v10
  obtain ⟨u0, u1, u2, u3, u4, u5, u6, u7, u8, u9, u10⟩ := sp_cells ((HB1.out.drew.step hw2 (by simp)).step h3 (by simp))
  obtain ⟨v0, v1, v2, v3, v4, v5, v6, v7, v8, v9, v10⟩ := sp_cells ((HB2.out.drew.step hw2 (by simp)).step h3 (by simp))
  clear h3 hw2
  go_simp
  go_wp2_with fail
  go_ret
  exact ⟨rfl, HF3.out⟩

set_option maxRecDepth 100000 in
set_option maxHeartbeats 1000000 in
theorem same_7 (s t : PS) (a b : Option Addr) (c d : Nat) (w : World) (ha : TxS w a s.ds) (hb : TxS w b t.ds) (hl : s.ds.length ≤ 1000000) (hm : t.ds.length ≤ 1000000) (q0 : (s.nm == t.nm) = true) (q1 : (s.tn == t.tn) = true) (q2 : (s.pr == t.pr) = true) (q3 : (s.de == t.de) = true) (q4 : (s.ds == t.ds) = true) (q5 : (s.ba == t.ba) = true) (q6 : (s.ca == t.ca) = true) (q7 : (s.at' == t.at') = false) :
    Calls Try.prog 10 #[.agg (spC s a s.ds.length c).toArray, .agg (spC t b t.ds.length d).toArray] w fun e w' => e = .returned (.bool false) ∧ Step [] w w' := by
  obtain ⟨hb1, hb2, hst⟩ := blk2 w (spC s a s.ds.length c).toArray (spC t b t.ds.length d).toArray 28
  have HE := Lib.hid (fun (W : World) (hs : Step [] w W) => equal_txs a b c d s.ds t.ds W (ha.step0 hs) (hb.step0 hs) hl hm)
  obtain ⟨W, hW⟩ : ∃ W, (w.alloc (.cells (spC s a s.ds.length c).toArray 28)).alloc (.cells (spC t b t.ds.length d).toArray 28) = W := ⟨_, rfl⟩
  rw [hW] at hb1 hb2 hst
  have HW := Lib.hid hW
  have HB1 := Lib.hid hb1
  have HB2 := Lib.hid hb2
  have HS := Lib.hid hst
  clear hW hb1 hb2 hst ha hb hl hm
  go_enter Try.func10, Try.ntmps10
  go_wp2_with fail
  rw [HW.out]
  have hne : Nonempty (ClsW (Step [] W.drew)) := ⟨⟨_, Step.refl _ _⟩⟩
  have x4 : ∀ y : ClsW (Step [] W.drew), y.val.cell? ⟨w.heap.size, 4, none⟩ = some _ := fun y => (HB1.out.drew.step y.ok (by simp)).cell 4
  have y4 : ∀ y : ClsW (Step [] W.drew), y.val.cell? ⟨w.heap.size + 1, 4, none⟩ = some _ := fun y => (HB2.out.drew.step y.ok (by simp)).cell 4
  refine region_cls (G := Step [] W.drew) (by kernel_rfl) (by kernel_rfl) (Step.refl _ _) ?_
  repeat (go_big_quiet_step (fail))
  refine wpQuiet_nil ?_
  rintro w2 ⟨⟨w2i, hw2⟩, he⟩
  have he' : w2 = w2i := he
  subst he'
  clear he
  have HF := Lib.hid ((HS.out.then (Step.refl [] W).drew (by simp)).then hw2 (by simp))
  obtain ⟨u0, u1, u2, u3, u4, u5, u6, u7, u8, u9, u10⟩ := sp_cells (HB1.out.drew.step hw2 (by simp))
  obtain ⟨v0, v1, v2, v3, v4, v5, v6, v7, v8, v9, v10⟩ := sp_cells (HB2.out.drew.step hw2 (by simp))
  clear hne x4 y4
  go_wp2_with fail
  refine (HE.out w2 HF.out).mono ?_
  rintro e w3 ⟨rfl, h3⟩
  rw [q4]
  have HF3 := Lib.hid (HF.out.then h3 (by simp))
  clear u0 u1 u2 u3 u4 u5 u6 u7 u8 u9 u10 v0 v1 v2 v3 v4 v5 v6 v7 v8 v9 v10
  obtain ⟨u0, u1, u2, u3, u4, u5, u6, u7, u8, u9, u10⟩ := sp_cells ((HB1.out.drew.step hw2 (by simp)).step h3 (by simp))
  obtain ⟨v0, v1, v2, v3, v4, v5, v6, v7, v8, v9, v10⟩ := sp_cells ((HB2.out.drew.step hw2 (by simp)).step h3 (by simp))
  clear h3 hw2
  go_simp
  go_wp2_with fail
  go_ret
  exact ⟨rfl, HF3.out⟩

set_option maxRecDepth 100000 in
set_option maxHeartbeats 1000000 in
theorem same_8 (s t : PS) (a b : Option Addr) (c d : Nat) (w : World) (ha : TxS w a s.ds) (hb : TxS w b t.ds) (hl : s.ds.length ≤ 1000000) (hm : t.ds.length ≤ 1000000) (q0 : (s.nm == t.nm) = true) (q1 : (s.tn == t.tn) = true) (q2 : (s.pr == t.pr) = true) (q3 : (s.de == t.de) = true) (q4 : (s.ds == t.ds) = true) (q5 : (s.ba == t.ba) = true) (q6 : (s.ca == t.ca) = true) (q7 : (s.at' == t.at') = true) (q8 : (s.le == t.le) = false) :
    Calls Try.prog 10 #[.agg (spC s a s.ds.length c).toArray, .agg (spC t b t.ds.length d).toArray] w fun e w' => e = .returned (.bool false) ∧ Step [] w w' := by
  obtain ⟨hb1, hb2, hst⟩ := blk2 w (spC s a s.ds.length c).toArray (spC t b t.ds.length d).toArray 28
  have HE := Lib.hid (fun (W : World) (hs : Step [] w W) => equal_txs a b c d s.ds t.ds W (ha.step0 hs) (hb.step0 hs) hl hm)
  obtain ⟨W, hW⟩ : ∃ W, (w.alloc (.cells (spC s a s.ds.length c).toArray 28)).alloc (.cells (spC t b t.ds.length d).toArray 28) = W := ⟨_, rfl⟩
  rw [hW] at hb1 hb2 hst
  have HW := Lib.hid hW
  have HB1 := Lib.hid hb1
  have HB2 := Lib.hid hb2
  have HS := Lib.hid hst
  clear hW hb1 hb2 hst ha hb hl hm
  go_enter Try.func10, Try.ntmps10
  go_wp2_with fail
  rw [HW.out]
  have hne : Nonempty (ClsW (Step [] W.drew)) := ⟨⟨_, Step.refl _ _⟩⟩
  have x4 : ∀ y : ClsW (Step [] W.drew), y.val.cell? ⟨w.heap.size, 4, none⟩ = some _ := fun y => (HB1.out.drew.step y.ok (by simp)).cell 4
  have y4 : ∀ y : ClsW (Step [] W.drew), y.val.cell? ⟨w.heap.size + 1, 4, none⟩ = some _ := fun y => (HB2.out.drew.step y.ok (by simp)).cell 4
  refine region_cls (G := Step [] W.drew) (by kernel_rfl) (by kernel_rfl) (Step.refl _ _) ?_
  repeat (go_big_quiet_step (fail))
  refine wpQuiet_nil ?_
  rintro w2 ⟨⟨w2i, hw2⟩, he⟩
  have he' : w2 = w2i := he
  subst he'
  clear he
  have HF := Lib.hid ((HS.out.then (Step.refl [] W).drew (by simp)).then hw2 (by simp))
  obtain ⟨u0, u1, u2, u3, u4, u5, u6, u7, u8, u9, u10⟩ := sp_cells (HB1.out.drew.step hw2 (by simp))
  obtain ⟨v0, v1, v2, v3, v4, v5, v6, v7, v8, v9, v10⟩ := sp_cells (HB2.out.drew.step hw2 (by simp))
  clear hne x4 y4
  go_wp2_with fail
  refine (HE.out w2 HF.out).mono ?_
  rintro e w3 ⟨rfl, h3⟩
  rw [q4]
  have HF3 := Lib.hid (HF.out.then h3 (by simp))
  clear u0 u1 u2 u3 u4 u5 u6 u7 u8 u9 u10 v0 v1 v2 v3 v4 v5 v6 v7 v8 v9 v10
  obtain ⟨u0, u1, u2, u3, u4, u5, u6, u7, u8, u9, u10⟩ := sp_cells ((HB1.out.drew.step hw2 (by simp)).step h3 (by simp))
  obtain ⟨v0, v1, v2, v3, v4, v5, v6, v7, v8, v9, v10⟩ := sp_cells ((HB2.out.drew.step hw2 (by simp)).step h3 (by simp))
  clear h3 hw2
  go_simp
  go_wp2_with fail
  go_ret
  exact ⟨rfl, HF3.out⟩

set_option maxRecDepth 100000 in
set_option maxHeartbeats 1000000 in
theorem same_9 (s t : PS) (a b : Option Addr) (c d : Nat) (w : World) (ha : TxS w a s.ds) (hb : TxS w b t.ds) (hl : s.ds.length ≤ 1000000) (hm : t.ds.length ≤ 1000000) (q0 : (s.nm == t.nm) = true) (q1 : (s.tn == t.tn) = true) (q2 : (s.pr == t.pr) = true) (q3 : (s.de == t.de) = true) (q4 : (s.ds == t.ds) = true) (q5 : (s.ba == t.ba) = true) (q6 : (s.ca == t.ca) = true) (q7 : (s.at' == t.at') = true) (q8 : (s.le == t.le) = true) (q9 : (s.cr == t.cr) = false) :
    Calls Try.prog 10 #[.agg (spC s a s.ds.length c).toArray, .agg (spC t b t.ds.length d).toArray] w fun e w' => e = .returned (.bool false) ∧ Step [] w w' := by
  obtain ⟨hb1, hb2, hst⟩ := blk2 w (spC s a s.ds.length c).toArray (spC t b t.ds.length d).toArray 28
  have HE := Lib.hid (fun (W : World) (hs : Step [] w W) => equal_txs a b c d s.ds t.ds W (ha.step0 hs) (hb.step0 hs) hl hm)
  obtain ⟨W, hW⟩ : ∃ W, (w.alloc (.cells (spC s a s.ds.length c).toArray 28)).alloc (.cells (spC t b t.ds.length d).toArray 28) = W := ⟨_, rfl⟩
  rw [hW] at hb1 hb2 hst
  have HW := Lib.hid hW
  have HB1 := Lib.hid hb1
  have HB2 := Lib.hid hb2
  have HS := Lib.hid hst
  clear hW hb1 hb2 hst ha hb hl hm
  go_enter Try.func10, Try.ntmps10
  go_wp2_with fail
  rw [HW.out]
  have hne : Nonempty (ClsW (Step [] W.drew)) := ⟨⟨_, Step.refl _ _⟩⟩
  have x4 : ∀ y : ClsW (Step [] W.drew), y.val.cell? ⟨w.heap.size, 4, none⟩ = some _ := fun y => (HB1.out.drew.step y.ok (by simp)).cell 4
  have y4 : ∀ y : ClsW (Step [] W.drew), y.val.cell? ⟨w.heap.size + 1, 4, none⟩ = some _ := fun y => (HB2.out.drew.step y.ok (by simp)).cell 4
  refine region_cls (G := Step [] W.drew) (by kernel_rfl) (by kernel_rfl) (Step.refl _ _) ?_
  repeat (go_big_quiet_step (fail))
  refine wpQuiet_nil ?_
  rintro w2 ⟨⟨w2i, hw2⟩, he⟩
  have he' : w2 = w2i := he
  subst he'
  clear he
  have HF := Lib.hid ((HS.out.then (Step.refl [] W).drew (by simp)).then hw2 (by simp))
  obtain ⟨u0, u1, u2, u3, u4, u5, u6, u7, u8, u9, u10⟩ := sp_cells (HB1.out.drew.step hw2 (by simp))
  obtain ⟨v0, v1, v2, v3, v4, v5, v6, v7, v8, v9, v10⟩ := sp_cells (HB2.out.drew.step hw2 (by simp))
  clear hne x4 y4
  go_wp2_with fail
  refine (HE.out w2 HF.out).mono ?_
  rintro e w3 ⟨rfl, h3⟩
  rw [q4]
  have HF3 := Lib.hid (HF.out.then h3 (by simp))
  clear u0 u1 u2 u3 u4 u5 u6 u7 u8 u9 u10 v0 v1 v2 v3 v4 v5 v6 v7 v8 v9 v10
  obtain ⟨u0, u1, u2, u3, u4, u5, u6, u7, u8, u9, u10⟩ := sp_cells ((HB1.out.drew.step hw2 (by simp)).step h3 (by simp))
  obtain ⟨v0, v1, v2, v3, v4, v5, v6, v7, v8, v9, v10⟩ := sp_cells ((HB2.out.drew.step hw2 (by simp)).step h3 (by simp))
  clear h3 hw2
  go_simp
  go_wp2_with fail
  go_ret
  exact ⟨rfl, HF3.out⟩

set_option maxRecDepth 100000 in
set_option maxHeartbeats 1000000 in
theorem same_10 (s t : PS) (a b : Option Addr) (c d : Nat) (w : World) (ha : TxS w a s.ds) (hb : TxS w b t.ds) (hl : s.ds.length ≤ 1000000) (hm : t.ds.length ≤ 1000000) (q0 : (s.nm == t.nm) = true) (q1 : (s.tn == t.tn) = true) (q2 : (s.pr == t.pr) = true) (q3 : (s.de == t.de) = true) (q4 : (s.ds == t.ds) = true) (q5 : (s.ba == t.ba) = true) (q6 : (s.ca == t.ca) = true) (q7 : (s.at' == t.at') = true) (q8 : (s.le == t.le) = true) (q9 : (s.cr == t.cr) = true) (q10 : (s.ct == t.ct) = false) :
    Calls Try.prog 10 #[.agg (spC s a s.ds.length c).toArray, .agg (spC t b t.ds.length d).toArray] w fun e w' => e = .returned (.bool false) ∧ Step [] w w' := by
  obtain ⟨hb1, hb2, hst⟩ := blk2 w (spC s a s.ds.length c).toArray (spC t b t.ds.length d).toArray 28
  have HE := Lib.hid (fun (W : World) (hs : Step [] w W) => equal_txs a b c d s.ds t.ds W (ha.step0 hs) (hb.step0 hs) hl hm)
  obtain ⟨W, hW⟩ : ∃ W, (w.alloc (.cells (spC s a s.ds.length c).toArray 28)).alloc (.cells (spC t b t.ds.length d).toArray 28) = W := ⟨_, rfl⟩
  rw [hW] at hb1 hb2 hst
  have HW := Lib.hid hW
  have HB1 := Lib.hid hb1
  have HB2 := Lib.hid hb2
  have HS := Lib.hid hst
  clear hW hb1 hb2 hst ha hb hl hm
  go_enter Try.func10, Try.ntmps10
  go_wp2_with fail
  rw [HW.out]
  have hne : Nonempty (ClsW (Step [] W.drew)) := ⟨⟨_, Step.refl _ _⟩⟩
  have x4 : ∀ y : ClsW (Step [] W.drew), y.val.cell? ⟨w.heap.size, 4, none⟩ = some _ := fun y => (HB1.out.drew.step y.ok (by simp)).cell 4
  have y4 : ∀ y : ClsW (Step [] W.drew), y.val.cell? ⟨w.heap.size + 1, 4, none⟩ = some _ := fun y => (HB2.out.drew.step y.ok (by simp)).cell 4
  refine region_cls (G := Step [] W.drew) (by kernel_rfl) (by kernel_rfl) (Step.refl _ _) ?_
  repeat (go_big_quiet_step (fail))
  refine wpQuiet_nil ?_
  rintro w2 ⟨⟨w2i, hw2⟩, he⟩
  have he' : w2 = w2i := he
  subst he'
  clear he
  have HF := Lib.hid ((HS.out.then (Step.refl [] W).drew (by simp)).then hw2 (by simp))
  obtain ⟨u0, u1, u2, u3, u4, u5, u6, u7, u8, u9, u10⟩ := sp_cells (HB1.out.drew.step hw2 (by simp))
  obtain ⟨v0, v1, v2, v3, v4, v5, v6, v7, v8, v9, v10⟩ := sp_cells (HB2.out.drew.step hw2 (by simp))
  clear hne x4 y4
  go_wp2_with fail
  refine (HE.out w2 HF.out).mono ?_
  rintro e w3 ⟨rfl, h3⟩
  rw [q4]
  have HF3 := Lib.hid (HF.out.then h3 (by simp))
  clear u0 u1 u2 u3 u4 u5 u6 u7 u8 u9 u10 v0 v1 v2 v3 v4 v5 v6 v7 v8 v9 v10
  obtain ⟨u0, u1, u2, u3, u4, u5, u6, u7, u8, u9, u10⟩ := sp_cells ((HB1.out.drew.step hw2 (by simp)).step h3 (by simp))
  obtain ⟨v0, v1, v2, v3, v4, v5, v6, v7, v8, v9, v10⟩ := sp_cells ((HB2.out.drew.step hw2 (by simp)).step h3 (by simp))
  clear h3 hw2
  go_simp
  go_wp2_with fail
  go_ret
  exact ⟨rfl, HF3.out⟩

set_option maxRecDepth 100000 in
set_option maxHeartbeats 1000000 in
theorem same_11 (s t : PS) (a b : Option Addr) (c d : Nat) (w : World) (ha : TxS w a s.ds) (hb : TxS w b t.ds) (hl : s.ds.length ≤ 1000000) (hm : t.ds.length ≤ 1000000) (q0 : (s.nm == t.nm) = true) (q1 : (s.tn == t.tn) = true) (q2 : (s.pr == t.pr) = true) (q3 : (s.de == t.de) = true) (q4 : (s.ds == t.ds) = true) (q5 : (s.ba == t.ba) = true) (q6 : (s.ca == t.ca) = true) (q7 : (s.at' == t.at') = true) (q8 : (s.le == t.le) = true) (q9 : (s.cr == t.cr) = true) (q10 : (s.ct == t.ct) = true) :
    Calls Try.prog 10 #[.agg (spC s a s.ds.length c).toArray, .agg (spC t b t.ds.length d).toArray] w fun e w' => e = .returned (.bool true) ∧ Step [] w w' := by
  obtain ⟨hb1, hb2, hst⟩ := blk2 w (spC s a s.ds.length c).toArray (spC t b t.ds.length d).toArray 28
  have HE := Lib.hid (fun (W : World) (hs : Step [] w W) => equal_txs a b c d s.ds t.ds W (ha.step0 hs) (hb.step0 hs) hl hm)
  obtain ⟨W, hW⟩ : ∃ W, (w.alloc (.cells (spC s a s.ds.length c).toArray 28)).alloc (.cells (spC t b t.ds.length d).toArray 28) = W := ⟨_, rfl⟩
  rw [hW] at hb1 hb2 hst
  have HW := Lib.hid hW
  have HB1 := Lib.hid hb1
  have HB2 := Lib.hid hb2
  have HS := Lib.hid hst
  clear hW hb1 hb2 hst ha hb hl hm
  go_enter Try.func10, Try.ntmps10
  go_wp2_with fail
  rw [HW.out]
  have hne : Nonempty (ClsW (Step [] W.drew)) := ⟨⟨_, Step.refl _ _⟩⟩
  have x4 : ∀ y : ClsW (Step [] W.drew), y.val.cell? ⟨w.heap.size, 4, none⟩ = some _ := fun y => (HB1.out.drew.step y.ok (by simp)).cell 4
  have y4 : ∀ y : ClsW (Step [] W.drew), y.val.cell? ⟨w.heap.size + 1, 4, none⟩ = some _ := fun y => (HB2.out.drew.step y.ok (by simp)).cell 4
  refine region_cls (G := Step [] W.drew) (by kernel_rfl) (by kernel_rfl) (Step.refl _ _) ?_
  repeat (go_big_quiet_step (fail))
  refine wpQuiet_nil ?_
  rintro w2 ⟨⟨w2i, hw2⟩, he⟩
  have he' : w2 = w2i := he
  subst he'
  clear he
  have HF := Lib.hid ((HS.out.then (Step.refl [] W).drew (by simp)).then hw2 (by simp))
  obtain ⟨u0, u1, u2, u3, u4, u5, u6, u7, u8, u9, u10⟩ := sp_cells (HB1.out.drew.step hw2 (by simp))
  obtain ⟨v0, v1, v2, v3, v4, v5, v6, v7, v8, v9, v10⟩ := sp_cells (HB2.out.drew.step hw2 (by simp))
  clear hne x4 y4
  go_wp2_with fail
  refine (HE.out w2 HF.out).mono ?_
  rintro e w3 ⟨rfl, h3⟩
  rw [q4]
  have HF3 := Lib.hid (HF.out.then h3 (by simp))
  clear u0 u1 u2 u3 u4 u5 u6 u7 u8 u9 u10 v0 v1 v2 v3 v4 v5 v6 v7 v8 v9 v10
  obtain ⟨u0, u1, u2, u3, u4, u5, u6, u7, u8, u9, u10⟩ := sp_cells ((HB1.out.drew.step hw2 (by simp)).step h3 (by simp))
  obtain ⟨v0, v1, v2, v3, v4, v5, v6, v7, v8, v9, v10⟩ := sp_cells ((HB2.out.drew.step hw2 (by simp)).step h3 (by simp))
  clear h3 hw2
  go_simp
  go_wp2_with fail
  go_ret
  exact ⟨rfl, HF3.out⟩

theorem same_any (s t : PS) (a b : Option Addr) (c d : Nat) (w : World) (ha : TxS w a s.ds) (hb : TxS w b t.ds) (hl : s.ds.length ≤ 1000000) (hm : t.ds.length ≤ 1000000) :
    Calls Try.prog 10 #[.agg (spC s a s.ds.length c).toArray, .agg (spC t b t.ds.length d).toArray] w fun e w' => e = .returned (.bool (sameS s t)) ∧ Step [] w w' := by
  cases h0 : (s.nm == t.nm) with
  | false =>
    have e : sameS s t = false := by unfold sameS; rw [h0]; simp
    rw [e]
    exact same_0 s t a b c d w ha hb hl hm h0
  | true =>
    cases h1 : (s.tn == t.tn) with
    | false =>
      have e : sameS s t = false := by unfold sameS; rw [h0, h1]; simp
      rw [e]
      exact same_1 s t a b c d w ha hb hl hm h0 h1
    | true =>
      cases h2 : (s.pr == t.pr) with
      | false =>
        have e : sameS s t = false := by unfold sameS; rw [h0, h1, h2]; simp
        rw [e]
        exact same_2 s t a b c d w ha hb hl hm h0 h1 h2
      | true =>
        cases h3 : (s.de == t.de) with
        | false =>
          have e : sameS s t = false := by unfold sameS; rw [h0, h1, h2, h3]; simp
          rw [e]
          exact same_3 s t a b c d w ha hb hl hm h0 h1 h2 h3
        | true =>
          cases h4 : (s.ds == t.ds) with
          | false =>
            have e : sameS s t = false := by unfold sameS; rw [h0, h1, h2, h3, h4]; simp
            rw [e]
            exact same_4 s t a b c d w ha hb hl hm h0 h1 h2 h3 h4
          | true =>
            cases h5 : (s.ba == t.ba) with
            | false =>
              have e : sameS s t = false := by unfold sameS; rw [h0, h1, h2, h3, h4, h5]; simp
              rw [e]
              exact same_5 s t a b c d w ha hb hl hm h0 h1 h2 h3 h4 h5
            | true =>
              cases h6 : (s.ca == t.ca) with
              | false =>
                have e : sameS s t = false := by unfold sameS; rw [h0, h1, h2, h3, h4, h5, h6]; simp
                rw [e]
                exact same_6 s t a b c d w ha hb hl hm h0 h1 h2 h3 h4 h5 h6
              | true =>
                cases h7 : (s.at' == t.at') with
                | false =>
                  have e : sameS s t = false := by unfold sameS; rw [h0, h1, h2, h3, h4, h5, h6, h7]; simp
                  rw [e]
                  exact same_7 s t a b c d w ha hb hl hm h0 h1 h2 h3 h4 h5 h6 h7
                | true =>
                  cases h8 : (s.le == t.le) with
                  | false =>
                    have e : sameS s t = false := by unfold sameS; rw [h0, h1, h2, h3, h4, h5, h6, h7, h8]; simp
                    rw [e]
                    exact same_8 s t a b c d w ha hb hl hm h0 h1 h2 h3 h4 h5 h6 h7 h8
                  | true =>
                    cases h9 : (s.cr == t.cr) with
                    | false =>
                      have e : sameS s t = false := by unfold sameS; rw [h0, h1, h2, h3, h4, h5, h6, h7, h8, h9]; simp
                      rw [e]
                      exact same_9 s t a b c d w ha hb hl hm h0 h1 h2 h3 h4 h5 h6 h7 h8 h9
                    | true =>
                      cases h10 : (s.ct == t.ct) with
                      | false =>
                        have e : sameS s t = false := by unfold sameS; rw [h0, h1, h2, h3, h4, h5, h6, h7, h8, h9, h10]; simp
                        rw [e]
                        exact same_10 s t a b c d w ha hb hl hm h0 h1 h2 h3 h4 h5 h6 h7 h8 h9 h10
                      | true =>
                        have e : sameS s t = true := by unfold sameS; rw [h0, h1, h2, h3, h4, h5, h6, h7, h8, h9, h10]; rfl
                        rw [e]
                        exact same_11 s t a b c d w ha hb hl hm h0 h1 h2 h3 h4 h5 h6 h7 h8 h9 h10
end Go.Proofs.Ytiilgpffclhlcaa
