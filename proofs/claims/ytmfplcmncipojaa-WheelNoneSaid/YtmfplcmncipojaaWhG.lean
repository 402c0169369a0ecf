/- wheel.order: two timers held against one another. -/
import Derived.Test.YtmfplcmncipojaaWhS
import Derived.Test.YtmfplcmncipojaaWhC
import Derived.Lib.Bytealg
namespace Go.Proofs.Ytmfplcmncipojaa
set_option linter.unusedVariables false
set_option linter.unusedSimpArgs false
open Go.RowKit Go.Maps

/-- a timer's cells -/
def encT (x : ByteArray × Int) : List Value := [.string x.1, .int .i64 x.2]
def cmpI (a b : Int) : Int := if a < b then -1 else if b < a then 1 else 0
def cmpT (x y : ByteArray × Int) : Int := if cmpI x.2 y.2 = 0 then Lib.compareBytes x.1.data.toList y.1.data.toList else cmpI x.2 y.2

theorem wcmp_any (a b : Int) (w : World) : Calls Try.prog 38 #[.int .i64 a, .int .i64 b] w fun e w' => e = .returned (.int .i64 (cmpI a b)) ∧ w' = w := by
  have hn : ∀ (x : Int) (w : World), Calls Try.prog 51 #[.int .i64 x] w fun e w' => e = .returned (.bool false) ∧ w' = w := fun x w => by
    go_enter Try.func51, Try.ntmps51
    go_wp2
    go_ret
    exact ⟨by simp, rfl⟩
  unfold cmpI
  by_cases h1 : a < b
  · rw [if_pos h1]
    go_enter Try.func38, Try.ntmps38
    go_wp2_with (first | (go_at_call 51; refine (hn _ _).mono ?_; rintro e w' ⟨rfl, rfl⟩))
    go_ret
    exact ⟨rfl, rfl⟩
  · rw [if_neg h1]
    by_cases h2 : b < a
    · rw [if_pos h2]
      go_enter Try.func38, Try.ntmps38
      go_wp2_with (first | (go_at_call 51; refine (hn _ _).mono ?_; rintro e w' ⟨rfl, rfl⟩))
      go_ret
      exact ⟨rfl, rfl⟩
    · rw [if_neg h2]
      go_enter Try.func38, Try.ntmps38
      go_wp2_with (first | (go_at_call 51; refine (hn _ _).mono ?_; rintro e w' ⟨rfl, rfl⟩))
      go_ret
      exact ⟨rfl, rfl⟩
theorem wstr_any (a b : ByteArray) (w : World) : Calls Try.prog 39 #[.string a, .string b] w fun e w' => e = .returned (.int .i64 (Lib.compareBytes a.data.toList b.data.toList)) ∧ w' = w := by
  have hb : ∀ w, Calls Try.prog 52 #[.string a, .string b] w fun e w' => e = .returned (.int .i64 (Lib.compareBytes a.data.toList b.data.toList)) ∧ w' = w := fun w => by
    go_enter Try.func52, Try.ntmps52
    go_wp2
    rw [run_callFunc_extern Try.func58 (by kernel_rfl) (by kernel_rfl) (by kernel_rfl) (e := Extern.BytealgCompare.compare) (by kernel_rfl), Lib.run_compareString]
    simp only [Result.andThen]
    rw [Oper.upon_value]
    go_wp2
    go_ret
    exact ⟨rfl, rfl⟩
  go_enter Try.func39, Try.ntmps39
  go_wp2_with (first | (go_at_call 52; refine (hb _).mono ?_; rintro e w' ⟨rfl, rfl⟩))
  go_ret
  exact ⟨rfl, rfl⟩
set_option maxRecDepth 20000 in
theorem wor_any (g : Nat) (a b : Int) (w : World) (h0 : w.cell? ⟨g, 0, none⟩ = some (.int .i64 a)) (h1 : w.cell? ⟨g, 1, none⟩ = some (.int .i64 b)) :
    Calls Try.prog 37 #[.slice (some ⟨g, 0, none⟩) 2 2] w fun e w' => e = .returned (.int .i64 (if a = 0 then b else a)) ∧ w' = w := by
  go_enter Try.func37, Try.ntmps37
  go_wp2_with fail
  go_loop [8] (fun j => ∃ k : Nat, j = .int .i64 k ∧ k ≤ 2 ∧ (1 ≤ k → a = 0) ∧ (2 ≤ k → b = 0)) (fun j => 2 - (intOf j).toNat)
  case atStart => exact ⟨0, rfl, by omega, by omega, by omega⟩
  case round =>
    obtain ⟨k, rfl, hk, i1, i2⟩ := hrel
    rcases (by omega : k = 0 ∨ k = 1 ∨ k = 2) with rfl | rfl | rfl
    · by_cases ha : a = 0
      · subst ha
        go_wp2_with fail
        go_round
        case rel => exact ⟨1, by go_num, by omega, by simp, by omega⟩
        case measure => simp [intOf]
      · have ha2 : (a == 0) = false := by simpa using ha
        go_wp2_with fail
        go_ret
        exact ⟨by simp [ha], rfl⟩
    · have ha := i1 (by omega)
      subst ha
      by_cases hb : b = 0
      · subst hb
        go_wp2_with fail
        go_round
        case rel => exact ⟨2, by go_num, by omega, by simp, by simp⟩
        case measure => simp [intOf]
      · have hb2 : (b == 0) = false := by simpa using hb
        go_wp2_with fail
        go_ret
        exact ⟨by simp, rfl⟩
    · have ha := i1 (by omega)
      have hb := i2 (by omega)
      subst ha hb
      go_wp2_with fail
      go_ret
      exact ⟨by simp, rfl⟩
/-- draws and blocks behind: no more -/
def Grw (w w' : World) : Prop := ∃ (q : Nat) (os : Array Obj), w' = Sort.grow (w.drewN q) os
theorem Grw.refl (w : World) : Grw w w := ⟨0, #[], by rw [Sort.grow_empty]; rfl⟩
theorem Grw.trans {w w' w'' : World} (h : Grw w w') (h' : Grw w' w'') : Grw w w'' := by
  obtain ⟨q, os, rfl⟩ := h
  obtain ⟨q', os', rfl⟩ := h'
  refine ⟨q + q', os ++ os', ?_⟩
  show Sort.grow (Sort.grow ((w.drewN q).drewN q') os) os' = _
  rw [Sort.grow_grow]
  congr 1
  simp only [World.drewN, Nat.add_assoc]
theorem Grw.alloc (w : World) (o : Obj) : Grw w (w.alloc o) := ⟨0, #[o], by rw [Sort.alloc_eq_grow]; rfl⟩
theorem Grw.drew (w : World) : Grw w w.drew := ⟨1, #[], by rw [Sort.grow_empty]; rfl⟩
def GrS (w w' : World) : Prop := Step [] w w' ∧ Grw w w'
theorem GrS.refl (w : World) : GrS w w := ⟨Step.refl _ _, Grw.refl _⟩
theorem GrS.trans {w w' w'' : World} (h : GrS w w') (h' : GrS w' w'') : GrS w w'' := ⟨h.1.then h'.1 (by simp), h.2.trans h'.2⟩
theorem GrS.drew (w : World) : GrS w w.drew := ⟨(Step.refl _ _).drew, Grw.drew _⟩
theorem GrS.alloc (w : World) (o : Obj) : GrS w (w.alloc o) := ⟨(Step.refl _ _).alloc _, Grw.alloc _ _⟩
def SpO (x y : ByteArray × Int) (f : FuncId) (_ : Array Value) (v : Value) (_ : World) : Prop := (f = 38 → v = .int .i64 (cmpI x.2 y.2)) ∧ (f = 39 → v = .int .i64 (Lib.compareBytes x.1.data.toList y.1.data.toList))
theorem spO_law (x y : ByteArray × Int) : RelLaw GrS (SpO x y) := ⟨GrS.refl, fun w w' w'' h1 h2 => h1.trans h2, fun f args v w w' h _ => h⟩
theorem anti_tailO {P : Program} {ops : Array Oper} {Q : Exit → Act → World → Prop} {l : List Oper} {G : World → World → Prop} {W0 : World} (a : Act) (F F' : World → Prop) (h : ∀ w, F' w → F w)
    (hQ : ∀ w', G W0 w' → F w' → wpList P ops Q l a w') : ∀ w', G W0 w' → F' w' → wpList P ops Q l a w' := fun w' hg hf => hQ w' hg (h w' hf)
set_option maxRecDepth 20000 in
set_option maxHeartbeats 2000000 in
theorem worder_any (x y : ByteArray × Int) (w : World) :
    Calls Try.prog 27 #[.agg (encT x).toArray, .agg (encT y).toArray] w fun e w' => e = .returned (.int .i64 (cmpT x y)) ∧ GrS w w' := by
  obtain ⟨x1, x2⟩ := x
  obtain ⟨y1, y2⟩ := y
  have b1 := Blk.new w (encT (x1, x2)).toArray 37
  have s1 := GrS.alloc w (.cells (encT (x1, x2)).toArray 37)
  generalize hW1 : w.alloc (.cells (encT (x1, x2)).toArray 37) = W1 at *
  have b2 := Blk.new W1 (encT (y1, y2)).toArray 37
  have s2 := GrS.alloc W1 (.cells (encT (y1, y2)).toArray 37)
  generalize hW2 : W1.alloc (.cells (encT (y1, y2)).toArray 37) = W2 at *
  generalize hxb : w.heap.size = xb at *
  generalize hyb : W1.heap.size = yb at *
  have X1 := Lib.hid (And.intro hW1 hxb)
  have X2 := Lib.hid (And.intro hW2 hyb)
  have B1 := Lib.hid (b1.step s2.1 (by simp))
  have B2 := Lib.hid b2
  have HS := Lib.hid (s1.trans s2)
  clear b1 b2 s1 s2 hW1 hW2 hxb hyb
  have hres : cmpT (x1, x2) (y1, y2) = if cmpI x2 y2 = 0 then Lib.compareBytes x1.data.toList y1.data.toList else cmpI x2 y2 := rfl
  rw [hres]
  clear hres
  obtain ⟨c1, hc1⟩ : ∃ c, cmpI x2 y2 = c := ⟨_, rfl⟩
  obtain ⟨c2, hc2⟩ : ∃ c, Lib.compareBytes x1.data.toList y1.data.toList = c := ⟨_, rfl⟩
  rw [hc1, hc2]
  obtain ⟨r, hr⟩ : ∃ r, (if c1 = 0 then c2 else c1) = r := ⟨_, rfl⟩
  rw [hr]
  have HC := Lib.hid (And.intro hc1 (And.intro hc2 hr))
  clear hc1 hc2 hr
  go_enter Try.func27, Try.ntmps27
  go_wp2_with (first | rw [X1.out.1, X1.out.2] | rw [X2.out.1, X2.out.2])
  have hne : Nonempty (ClsW (GrS W2.drew)) := ⟨⟨_, GrS.refl _⟩⟩
  have q0 : ∀ z : ClsW (GrS W2.drew), z.val.cell? ⟨xb, 0, none⟩ = some (.string x1) := fun z => (B1.out.drew.step z.ok.1 (by simp)).cell 0
  have q1 : ∀ z : ClsW (GrS W2.drew), z.val.cell? ⟨xb, 1, none⟩ = some (.int .i64 x2) := fun z => (B1.out.drew.step z.ok.1 (by simp)).cell 1
  have r0 : ∀ z : ClsW (GrS W2.drew), z.val.cell? ⟨yb, 0, none⟩ = some (.string y1) := fun z => (B2.out.drew.step z.ok.1 (by simp)).cell 0
  have r1 : ∀ z : ClsW (GrS W2.drew), z.val.cell? ⟨yb, 1, none⟩ = some (.int .i64 y2) := fun z => (B2.out.drew.step z.ok.1 (by simp)).cell 1
  refine wp_region_rel_tail (spO_law (x1, x2) (y1, y2)) 10 (by kernel_rfl) (by kernel_rfl) ?_
  simp only [List.take_succ_cons, List.take_zero, List.drop_succ_cons, List.drop_zero]
  refine wpR_pre (spO_law (x1, x2) (y1, y2)) anti_tailO 4 _ _ _ ?_ rfl
  simp only [List.take_succ_cons, List.take_zero, List.drop_succ_cons, List.drop_zero]
  repeat (go_big_quiet_step (fail))
  refine wpQuiet_nil ?_
  refine wpR_callF 38 _ _ rfl (by rfl) Try.func38 (by kernel_rfl) (by kernel_rfl) #[.int .i64 x2, .int .i64 y2] (by simp [Act.eval]) (fun X hX => (wcmp_any x2 y2 X).mono fun e w' h => ⟨_, h.1, ⟨fun _ => rfl, fun hf => absurd hf (by decide)⟩, by rw [h.2]; exact GrS.refl _⟩) ?_
  rintro v ⟨_, _, hv, -⟩
  obtain rfl := hv rfl
  refine wpR_pre (spO_law (x1, x2) (y1, y2)) anti_tailO 4 _ _ _ ?_ rfl
  simp only [List.take_succ_cons, List.take_zero, List.drop_succ_cons, List.drop_zero]
  go_simp
  repeat (go_big_quiet_step (fail))
  refine wpQuiet_nil ?_
  refine wpR_callF 39 _ _ rfl (by rfl) Try.func39 (by kernel_rfl) (by kernel_rfl) #[.string x1, .string y1] (by simp [Act.eval]) (fun X hX => (wstr_any x1 y1 X).mono fun e w' h => ⟨_, h.1, ⟨fun hf => absurd hf (by decide), fun _ => rfl⟩, by rw [h.2]; exact GrS.refl _⟩) ?_
  rintro v ⟨_, _, -, hv⟩
  obtain rfl := hv rfl
  unfold wpR
  intro w7 hs7 _
  have HS7 := Lib.hid ((HS.out.trans (GrS.drew _)).trans hs7)
  clear q0 q1 r0 r1 hne hs7 hv
  simp only [HC.out.1, HC.out.2.1]
  go_wp2_with fail
  have hbk := Blk.new w7 #[.int .i64 c1, .int .i64 c2] 3
  have HO := Lib.hid (wor_any w7.heap.size c1 c2 _ (hbk.cell 0) (hbk.cell 1))
  rw [HC.out.2.2] at HO
  refine HO.out.mono ?_
  rintro e w8 ⟨rfl, rfl⟩
  have HF := Lib.hid (HS7.out.trans (GrS.alloc w7 (.cells #[.int .i64 c1, .int .i64 c2] 3)))
  clear hbk
  go_wp2_with fail
  go_ret
  exact ⟨rfl, HF.out⟩
theorem wcmpLays (blk off size : Nat) (w : World) : CmpLays Try.prog 27 #[] encT 2 cmpT blk off size w :=
  fun _ _ _ _ x y => (worder_any x y _).mono fun e w' h => ⟨h.1, h.2.2⟩
end Go.Proofs.Ytmfplcmncipojaa
