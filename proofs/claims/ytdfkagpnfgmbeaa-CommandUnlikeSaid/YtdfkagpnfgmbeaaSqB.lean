/- complineref14.Bytes walked. -/
import Derived.Test.YtdfkagpnfgmbeaaSqM
namespace Go.Proofs.Ytdfkagpnfgmbeaa
set_option linter.unusedVariables false
open Go.RowKit
attribute [local go_sem ↓] exec_load_s exec_store_s
attribute [local go_sem] Try.load_s row_drew Try.store_s bstr_app

theorem depsS_len2 (l : List (List UInt8)) (h : ∀ d ∈ l, d.length ≤ 1000) : (depsS l).length ≤ 1010 * l.length := by
  induction l with
  | nil => simp [depsS]
  | cons d l ih =>
    have h1 := ih (fun d hd => h d (by simp [hd]))
    have h2 := txtB_len d
    have h3 := h d (by simp)
    simp only [depsS, List.flatMap_cons, List.length_append, List.length_cons] at h1 ⊢
    omega
theorem two_size {a b : List UInt8} (h : a.length + b.length ≤ 9223372036854775807) : (bstr a).size + (bstr b).size ≤ 9223372036854775807 := by
  rw [bstr_size, bstr_size]
  exact h

set_option maxRecDepth 100000 in
set_option maxHeartbeats 4000000 in
theorem refBytes_any (s : PS) (a : Option Addr) (c : Nat) (w : World) (ha : TxS w a s.ds) (hf : LitS s) (hw : WfS s) :
    Calls Try.prog 32 #[.agg (spC s a s.ds.length c).toArray] w fun e w' => e = .returned (.string (bstr (bytesS s))) ∧ Step [] w w' := by
  have l1 : (txtB s.nm).length ≤ 1010 := by have := txtB_len s.nm; have := hf.nm; omega
  have l2 : (txtB s.tn).length ≤ 1010 := by have := txtB_len s.tn; have := hf.tn; omega
  have l3 : (intB s.pr).length ≤ 10 := intB_len _
  have l4 : (intB s.de).length ≤ 10 := intB_len _
  have l5 : (numB s.ds.length).length ≤ 10 := (numB_len _).2
  have m1 : (intB s.ba).length ≤ 10 := intB_len _
  have m2 : (intB s.ca).length ≤ 10 := intB_len _
  have m3 : (intB s.at').length ≤ 10 := intB_len _
  have m4 : (intB s.le).length ≤ 10 := intB_len _
  have m5 : (txtB s.cr).length ≤ 1010 := by have := txtB_len s.cr; have := hf.cr; omega
  have m6 : (intB s.ct).length ≤ 10 := intB_len _
  have HI := Lib.hid hw
  have HT := Lib.hid (show ∀ (l : List UInt8) (W : World) (h : l.length ≤ 1000), Calls Try.prog 46 #[.string (bstr l)] W fun e w' => e = .returned (.string (bstr (txtB l))) ∧ Step [] W w' from fun l W h => refText_any l W (by omega))
  have HJ := Lib.hid (show ∀ (l : Int) (W : World) (h : I64 l), Calls Try.prog 47 #[.int .i64 l] W fun e w' => e = .returned (.string (bstr (intB l))) ∧ Step [] W w' from fun l W h => refInt_any l W h)
  have HU := Lib.hid (fun (l : Nat) (W : World) (h : l ≤ 1000) => refNum_any l W (by unfold M64; omega))
  have t1 : s.nm.length ≤ 1000 := by have := hf.nm; omega
  have t2 : s.tn.length ≤ 1000 := by have := hf.tn; omega
  have t3 : s.cr.length ≤ 1000 := hf.cr
  have t4 := hw.pr
  have t5 := hw.de
  have HDL := Lib.hid (And.intro hf.dl (depsS_len2 s.ds hf.dl))
  have hp2 := two_size (a := txtB s.nm) (b := txtB s.tn) (by first | omega | (simp only [List.length_append]; omega))
  have hp3 := two_size (a := txtB s.nm ++ txtB s.tn) (b := intB s.pr) (by first | omega | (simp only [List.length_append]; omega))
  have hp4 := two_size (a := txtB s.nm ++ txtB s.tn ++ intB s.pr) (b := intB s.de) (by first | omega | (simp only [List.length_append]; omega))
  have hp5 := two_size (a := txtB s.nm ++ txtB s.tn ++ intB s.pr ++ intB s.de) (b := numB s.ds.length) (by first | omega | (simp only [List.length_append]; omega))
  have HL := Lib.hid (show (txtB s.nm ++ txtB s.tn ++ intB s.pr ++ intB s.de ++ numB s.ds.length).length ≤ 2050 by simp only [List.length_append]; omega)
  simp only [List.append_assoc] at hp4 hp5
  have hl20 := hf.ds
  clear hf hw
  have hb1 := Blk.new w (spC s a s.ds.length c).toArray 36
  have hst := (Step.refl [] w).alloc (.cells (spC s a s.ds.length c).toArray 36)
  obtain ⟨W, hW⟩ : ∃ W, w.alloc (.cells (spC s a s.ds.length c).toArray 36) = W := ⟨_, rfl⟩
  rw [hW] at hb1 hst
  have HW := Lib.hid hW
  have HB1 := Lib.hid hb1
  have HA := Lib.hid ha
  have HS := Lib.hid hst
  clear hW hb1 hst ha
  obtain ⟨n, hn⟩ : ∃ n, s.ds.length = n := ⟨_, rfl⟩
  have HN := Lib.hid hn
  rw [hn] at HB1 HW HL hp5 hl20 ⊢
  clear hn l1 l2 l3 l4 l5 m1 m2 m3 m4 m5 m6
  go_enter Try.func32, Try.ntmps32
  go_wp2_with fail
  rw [HW.out]
  have hne : Nonempty (ClsW (Step [] W.drew)) := ⟨⟨_, Step.refl _ _⟩⟩
  have q0 : ∀ y : ClsW (Step [] W.drew), y.val.cell? ⟨w.heap.size, 0, none⟩ = some (.string (bstr s.nm)) := fun y => (HB1.out.drew.step y.ok (by simp)).cell 0
  have q1 : ∀ y : ClsW (Step [] W.drew), y.val.cell? ⟨w.heap.size, 1, none⟩ = some (.string (bstr s.tn)) := fun y => (HB1.out.drew.step y.ok (by simp)).cell 1
  have q2 : ∀ y : ClsW (Step [] W.drew), y.val.cell? ⟨w.heap.size, 2, none⟩ = some (.int .i64 s.pr) := fun y => (HB1.out.drew.step y.ok (by simp)).cell 2
  have q3 : ∀ y : ClsW (Step [] W.drew), y.val.cell? ⟨w.heap.size, 3, none⟩ = some (.int .i64 s.de) := fun y => (HB1.out.drew.step y.ok (by simp)).cell 3
  have q4 : ∀ y : ClsW (Step [] W.drew), y.val.cell? ⟨w.heap.size, 4, none⟩ = some (.slice a n c) := fun y => (HB1.out.drew.step y.ok (by simp)).cell 4
  refine region_cls (G := Step [] W.drew) (by kernel_rfl) (by kernel_rfl) (Step.refl _ _) ?_
  repeat (go_big_quiet_step ((first
    | (go_at_call 46; exact cls_call ((HT.out _ _ (by assumption)).mono fun e w3 h => ⟨h.1, Step.then (ClsW.ok _) h.2 (by simp)⟩))
    | (go_at_call 47; exact cls_call ((HJ.out _ _ (by assumption)).mono fun e w3 h => ⟨h.1, Step.then (ClsW.ok _) h.2 (by simp)⟩))
    | (go_at_call 24; exact cls_call ((HU.out _ _ (by assumption)).mono fun e w3 h => ⟨h.1, Step.then (ClsW.ok _) h.2 (by simp)⟩)))))
  refine wpQuiet_nil ?_
  rintro w2 ⟨⟨w2i, hw2⟩, he⟩
  have he' : w2 = w2i := he
  subst he'
  clear he
  have HF := Lib.hid ((HS.out.then (Step.refl [] W).drew (by simp)).then hw2 (by simp))
  have HB := Lib.hid (HB1.out.drew.step hw2 (by simp))
  have p4 := (sp_cells HB.out).2.2.2.2.1
  clear hne hw2 q0 q1 q2 q3 q4 hp2 hp3 hp4 hp5 t1 t2 t4 t5
  obtain ⟨x, hx⟩ : ∃ x, txtB s.nm ++ (txtB s.tn ++ (intB s.pr ++ (intB s.de ++ numB n))) = x := ⟨_, rfl⟩
  have HX := Lib.hid hx
  rw [hx]
  clear hx
  go_wp2_with fail
  go_loopw [3, 30] (fun o i wr => ∃ k : Nat, i = .int .i64 k ∧ k ≤ n ∧ o = .string (bstr (x ++ depsS (s.ds.take k))) ∧ Step [] w2 wr) (fun _ i _ => n - (intOf i).toNat)
  case atStart => exact ⟨0, rfl, Nat.zero_le _, by simp [depsS], Step.refl _ _⟩
  case round =>
    obtain ⟨k, rfl, hk, rfl, hs⟩ := hrel
    have hxl : x.length ≤ 2050 := by rw [← HX.out]; have := HL.out; simp only [List.length_append] at this ⊢; omega
    have hdl : (depsS (s.ds.take k)).length ≤ 1010 * 1000 := by
      have := depsS_len2 (s.ds.take k) (fun d hd => HDL.out.1 d (List.mem_of_mem_take hd))
      rw [List.length_take] at this
      omega
    have hal : (x ++ depsS (s.ds.take k)).length ≤ 1100000 := by rw [List.length_append]; omega
    have HQ := Lib.hid hs
    have HSr := Lib.hid (HF.out.then hs (by simp))
    have HBr := Lib.hid (HB.out.step hs (by simp))
    clear hs hdl hxl
    by_cases hkn : k < n
    · have hkl : k < s.ds.length := by rw [HN.out]; exact hkn
      obtain ⟨b1, off, rfl, hlt, hc⟩ := HA.out k hkl
      have hd := HDL.out.1 _ (List.getElem_mem hkl)
      have htk : s.ds.take (k + 1) = s.ds.take k ++ [s.ds[k]] := List.take_succ_eq_append_getElem hkl
      rw [getD_eq hkl] at hc
      have hc2 := (HSr.out.cell hlt (by simp)).trans hc
      have hlw := Nat.lt_of_lt_of_le hlt HSr.out.size
      have hkk : (k : Int) < (n : Int) := by omega
      obtain ⟨d, hdd⟩ : ∃ d, s.ds[k] = d := ⟨_, rfl⟩
      rw [hdd] at hc2 hd htk
      have hlen := txtB_len d
      obtain ⟨y, hy⟩ : ∃ y, x ++ depsS (s.ds.take k) = y := ⟨_, rfl⟩
      rw [hy] at hal ⊢
      have HY := Lib.hid (show x ++ depsS (s.ds.take (k + 1)) = y ++ txtB d by
        rw [htk, ← hy]
        simp [depsS])
      have hp := two_size (a := y) (b := txtB d) (by omega)
      clear hc hdd htk hy hlen
      go_wp2_with fail
      refine (HT.out d _ (by omega)).mono ?_
      rintro e w4 ⟨rfl, hs4⟩
      have HS4 := Lib.hid hs4
      clear hs4
      go_simp
      go_wp2_with fail
      go_roundw
      case rel => exact ⟨k + 1, by go_num, by omega, by rw [HY.out], HQ.out.then HS4.out (by simp)⟩
      case measure => simp [intOf]; omega
    · have hke : k = n := by omega
      subst hke
      obtain ⟨Y, hY⟩ : ∃ Y, x ++ depsS (s.ds.take k) = Y := ⟨_, rfl⟩
      rw [hY] at hal ⊢
      have HY := Lib.hid hY
      clear hY
      have t1 := HI.out.ba
      have t2 := HI.out.ca
      have t4 := HI.out.at'
      have t5 := HI.out.le
      have t6 := HI.out.ct
      have m1 : (intB s.ba).length ≤ 10 := intB_len _
      have m2 : (intB s.ca).length ≤ 10 := intB_len _
      have m3 : (intB s.at').length ≤ 10 := intB_len _
      have m4 : (intB s.le).length ≤ 10 := intB_len _
      have m5 : (txtB s.cr).length ≤ 1010 := by have := txtB_len s.cr; omega
      have m6 : (intB s.ct).length ≤ 10 := intB_len _
      have hp1 := two_size (a := Y) (b := intB s.ba) (by first | omega | (simp only [List.length_append]; omega))
      have hp2 := two_size (a := Y ++ intB s.ba) (b := intB s.ca) (by first | omega | (simp only [List.length_append]; omega))
      have hp3 := two_size (a := Y ++ intB s.ba ++ intB s.ca) (b := intB s.at') (by first | omega | (simp only [List.length_append]; omega))
      have hp4 := two_size (a := Y ++ intB s.ba ++ intB s.ca ++ intB s.at') (b := intB s.le) (by first | omega | (simp only [List.length_append]; omega))
      have hp5 := two_size (a := Y ++ intB s.ba ++ intB s.ca ++ intB s.at' ++ intB s.le) (b := txtB s.cr) (by first | omega | (simp only [List.length_append]; omega))
      have hp6 := two_size (a := Y ++ intB s.ba ++ intB s.ca ++ intB s.at' ++ intB s.le ++ txtB s.cr) (b := intB s.ct) (by first | omega | (simp only [List.length_append]; omega))
      simp only [List.append_assoc] at hp3 hp4 hp5 hp6
      clear m1 m2 m3 m4 m5 m6
      go_wp2_with fail
      have hne : Nonempty (ClsW (Step [] wr.drew)) := ⟨⟨_, Step.refl _ _⟩⟩
      have q5 : ∀ y : ClsW (Step [] wr.drew), y.val.cell? ⟨w.heap.size, 5, none⟩ = some (.int .i64 s.ba) := fun y => (HBr.out.drew.step y.ok (by simp)).cell 5
      have q6 : ∀ y : ClsW (Step [] wr.drew), y.val.cell? ⟨w.heap.size, 6, none⟩ = some (.int .i64 s.ca) := fun y => (HBr.out.drew.step y.ok (by simp)).cell 6
      have q7 : ∀ y : ClsW (Step [] wr.drew), y.val.cell? ⟨w.heap.size, 7, none⟩ = some (.int .i64 s.at') := fun y => (HBr.out.drew.step y.ok (by simp)).cell 7
      have q8 : ∀ y : ClsW (Step [] wr.drew), y.val.cell? ⟨w.heap.size, 8, none⟩ = some (.int .i64 s.le) := fun y => (HBr.out.drew.step y.ok (by simp)).cell 8
      have q9 : ∀ y : ClsW (Step [] wr.drew), y.val.cell? ⟨w.heap.size, 9, none⟩ = some (.string (bstr s.cr)) := fun y => (HBr.out.drew.step y.ok (by simp)).cell 9
      have q10 : ∀ y : ClsW (Step [] wr.drew), y.val.cell? ⟨w.heap.size, 10, none⟩ = some (.int .i64 s.ct) := fun y => (HBr.out.drew.step y.ok (by simp)).cell 10
      refine region_cls (G := Step [] wr.drew) (by kernel_rfl) (by kernel_rfl) (Step.refl _ _) ?_
      repeat (go_big_quiet_step ((first
        | (go_at_call 46; exact cls_call ((HT.out _ _ (by assumption)).mono fun e w3 h => ⟨h.1, Step.then (ClsW.ok _) h.2 (by simp)⟩))
        | (go_at_call 47; exact cls_call ((HJ.out _ _ (by assumption)).mono fun e w3 h => ⟨h.1, Step.then (ClsW.ok _) h.2 (by simp)⟩)))))
      refine wpQuiet_nil ?_
      rintro w5 ⟨⟨w5i, hw5⟩, he⟩
      have he' : w5 = w5i := he
      subst he'
      clear he
      have HG := Lib.hid ((HSr.out.then (Step.refl [] wr).drew (by simp)).then hw5 (by simp))
      clear hne hw5 q5 q6 q7 q8 q9 q10 hp1 hp2 hp3 hp4 hp5 hp6 t1 t2 t4 t5 t6
      go_wp2_with fail
      go_ret
      refine ⟨congrArg (fun b => Ending.returned (Value.string (bstr b))) ?_, HG.out⟩
      rw [← HY.out, ← HX.out, ← HN.out, List.take_length]
      unfold bytesS headS tailS
      simp only [List.append_assoc]
end Go.Proofs.Ytdfkagpnfgmbeaa
