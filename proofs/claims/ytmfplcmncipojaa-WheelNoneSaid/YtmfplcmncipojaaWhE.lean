/- wheel.New. -/
import Derived.Test.YtmfplcmncipojaaWhB
import Derived.Laws.Tables
import Derived.Carry
namespace Go.Proofs.Ytmfplcmncipojaa
set_option linter.unusedVariables false
set_option linter.unusedSimpArgs false
open Go.RowKit Go.Maps

theorem wC_set (now most : Int) (L : Nat → Value) (f d h v : Value) {s : Nat} (hs : s < 256) : (wC now most L f d h).toArray.setIfInBounds (2 + s) v = (wC now most (fun t => if t = s then v else L t) f d h).toArray := by
  unfold wC
  rw [List.setIfInBounds_toArray]
  congr 1
  rw [show 2 + s = s + 1 + 1 by omega, List.set_cons_succ, List.set_cons_succ, List.set_append_left _ _ (by simpa using hs)]
  congr 3
  apply List.ext_getElem?
  intro i
  rw [List.getElem?_set]
  by_cases h1 : s = i
  · subst h1
    simp [hs]
  · rw [if_neg h1]
    by_cases h2 : i < 256
    · have h3 : ¬ i = s := fun e => h1 e.symm
      simp [h2, h3]
    · simp [h2]
theorem wC_congr (now most : Int) {L L' : Nat → Value} (f d h : Value) (he : ∀ s, s < 256 → L s = L' s) : wC now most L f d h = wC now most L' f d h := by
  unfold wC
  congr 3
  apply List.map_congr_left
  intro s hs
  exact he s (by simpa using hs)
/-- a struct of many cells is built at once -/
def buildBig (parts : Array (Nat × Value)) : Sem Value := Instr.build 68 parts
theorem exec_build (a : Act) (dst : Option Tmp) (parts : Array (Nat × Operand)) (ty : TypeId) (pos : String) (after : Array Edge) (guard : Option (Nat × Bool)) :
    execOp a.eval { dst, op := .build 68 parts, type := ty, pos, after, guard } = (do pure (.value (← buildBig (parts.map fun (i, x) => (i, a.eval x))))) := rfl
theorem Try.buildW (a b : Int) (f d h : Nat) (w : World) : (buildBig #[(0, .int .i64 a), (1, .int .i64 b), (3, .map (some f)), (4, .map (some d)), (5, .map (some h))]).run Try.prog w = .ok (.agg (wC a b (fun _ => .map none) (.map (some f)) (.map (some d)) (.map (some h))).toArray) w :=
  run_build w _ _ _ (by kernel_rfl)
attribute [local go_sem ↓] exec_build
attribute [local go_sem] Try.buildW

/-- the first slots of a new wheel -/
structure Nw (w : World) (wb : Nat) (now most : Int) (s : Nat) (wr : World) : Prop where
  blk : Blk wr wb (wC now most (fun t => if t < s then .map (some (wb + 1 + t)) else .map none) (.map (some (wb - 3))) (.map (some (wb - 2))) (.map (some (wb - 1)))).toArray 68
  sz : wr.heap.size = wb + 1 + s
  lo : w.heap.size + 3 = wb
  mp : ∀ t, t < s → MapF nmK atE wr (wb + 1 + t) 0 (fun _ => none)
  far : MapF nmK atE wr (wb - 3) 0 (fun _ => none)
  due : MapF nmK atE wr (wb - 2) 0 (fun _ => none)
  wh : MapF nmK plE wr (wb - 1) 0 (fun _ => none)
  st : Step [] w wr
theorem Nw.next {w wr : World} {wb : Nat} {now most : Int} {s : Nat} (h : Nw w wb now most s wr) (hs : s < 256) : Nw w wb now most (s + 1) ((wr.alloc (.map #[] 0)).setCell ⟨wb, 2 + s, none⟩ (.map (some wr.heap.size))) := by
  have hal := (Step.refl [] wr).alloc (.map #[] 0)
  have hst := ((Step.refl [wb] wr).alloc (.map #[] 0)).setCell (b := wb) (.inl (by simp)) (2 + s) (.map (some wr.heap.size))
  have hsz := h.sz
  have hlo := h.lo
  refine ⟨?_, ?_, h.lo, ?_, h.far.step hst (by simp; omega), h.due.step hst (by simp; omega), h.wh.step hst (by simp; omega), ?_⟩
  · have h1 := (h.blk.step hal (by simp)).set (2 + s) (.map (some wr.heap.size))
    rw [wC_set _ _ _ _ _ _ _ hs] at h1
    rw [wC_congr (L' := fun t => if t < s + 1 then .map (some (wb + 1 + t)) else .map none)] at h1
    · exact h1
    · intro t ht
      by_cases e : t = s
      · subst e
        simp [hsz]
      · by_cases e2 : t < s
        · rw [if_neg e, if_pos e2, if_pos (by omega)]
        · rw [if_neg e, if_neg e2, if_neg (by omega)]
  · rw [World.size_setCell, World.size_alloc, hsz]
    omega
  · intro t ht
    by_cases e : t = s
    · subst e
      have h1 := MapF.made nmK atE wr
      rw [hsz] at h1
      exact h1.step ((Step.refl [wb] _).setCell (b := wb) (.inl (by simp)) (2 + t) (.map (some wr.heap.size))) (by simp; omega)
    · exact (h.mp t (by omega)).step hst (by simp; omega)
  · exact (h.st.alloc _).setCell (.inr (by omega)) _ _
theorem Nw.start (w : World) (now most : Int) : Nw w (w.heap.size + 1 + 1 + 1) now most 0 ((((w.alloc (.map #[] 0)).alloc (.map #[] 0)).alloc (.map #[] 0)).alloc (.cells (wC now most (fun _ => .map none) (.map (some w.heap.size)) (.map (some (w.heap.size + 1))) (.map (some (w.heap.size + 1 + 1)))).toArray 68)) := by
  have z1 : (w.alloc (.map #[] 0)).heap.size = w.heap.size + 1 := World.size_alloc _ _
  have z2 : ((w.alloc (.map #[] 0)).alloc (.map #[] 0)).heap.size = w.heap.size + 1 + 1 := by rw [World.size_alloc, z1]
  have z3 : (((w.alloc (.map #[] 0)).alloc (.map #[] 0)).alloc (.map #[] 0)).heap.size = w.heap.size + 1 + 1 + 1 := by rw [World.size_alloc, z2]
  have m1 := MapF.made nmK atE w
  have m2 := MapF.made nmK atE (w.alloc (.map #[] 0))
  have m3 := MapF.made nmK plE ((w.alloc (.map #[] 0)).alloc (.map #[] 0))
  rw [z1] at m2
  rw [z2] at m3
  have s1 := (Step.refl [] w).alloc (.map #[] 0)
  have s2 := (Step.refl [] (w.alloc (.map #[] 0))).alloc (.map #[] 0)
  have s3 := (Step.refl [] ((w.alloc (.map #[] 0)).alloc (.map #[] 0))).alloc (.map #[] 0)
  have s4 := (Step.refl [] (((w.alloc (.map #[] 0)).alloc (.map #[] 0)).alloc (.map #[] 0))).alloc (.cells (wC now most (fun _ => .map none) (.map (some w.heap.size)) (.map (some (w.heap.size + 1))) (.map (some (w.heap.size + 1 + 1)))).toArray 68)
  have b4 := Blk.new (((w.alloc (.map #[] 0)).alloc (.map #[] 0)).alloc (.map #[] 0)) (wC now most (fun _ => .map none) (.map (some w.heap.size)) (.map (some (w.heap.size + 1))) (.map (some (w.heap.size + 1 + 1)))).toArray 68
  rw [z3] at b4
  have e1 : w.heap.size + 1 + 1 + 1 - 3 = w.heap.size := by omega
  have e2 : w.heap.size + 1 + 1 + 1 - 2 = w.heap.size + 1 := by omega
  have e3 : w.heap.size + 1 + 1 + 1 - 1 = w.heap.size + 1 + 1 := by omega
  refine ⟨?_, ?_, by omega, fun t ht => by omega, ?_, ?_, ?_, ((s1.then s2 (by simp)).then s3 (by simp)).then s4 (by simp)⟩
  · rw [e1, e2, e3, wC_congr (L' := fun _ => .map none)]
    · exact b4
    · intro s hs
      simp
  · rw [World.size_alloc, z3]
  · rw [e1]
    exact ((m1.step s2 (by simp)).step s3 (by simp)).step s4 (by simp)
  · rw [e2]
    exact (m2.step s3 (by simp)).step s4 (by simp)
  · rw [e3]
    exact m3.step s4 (by simp)
/-- where a new wheel's maps lie -/
def nwB (wb : Nat) : Nat → Nat := fun s => if s < 256 then wb + 1 + s else if s = 256 then wb - 3 else wb - 2
theorem Nw.done {w wr : World} {wb : Nat} {now most : Int} (h : Nw w wb now most 256 wr) : Wh wr wb (nwB wb) (wb - 1) now most 0 (fun _ => none) (fun _ _ => none) := by
  have hlo := h.lo
  have e1 : nwB wb 256 = wb - 3 := rfl
  have e2 : nwB wb 257 = wb - 2 := rfl
  refine ⟨?_, ?_, h.wh, ?_, ?_, ?_, by omega⟩
  · rw [e1, e2, wC_congr (L' := fun t => if t < 256 then .map (some (wb + 1 + t)) else .map none)]
    · exact h.blk
    · intro s hs
      unfold nwB
      simp [hs]
  · intro s hs
    unfold nwB
    by_cases h1 : s < 256
    · rw [if_pos h1]
      exact h.mp s h1
    · rw [if_neg h1]
      by_cases h2 : s = 256
      · rw [if_pos h2]; exact h.far
      · rw [if_neg h2]; exact h.due
  · intro s t hs ht hne
    unfold nwB
    repeat' split
    all_goals omega
  · intro s hs
    unfold nwB
    repeat' split
    all_goals omega
  · intro s hs
    unfold nwB
    repeat' split
    all_goals omega

/-- what New hands back -/
def Newed (now most : Int) (w : World) (e : Ending) (w' : World) : Prop :=
  Step [] w w' ∧ ((0 ≤ now ∧ now ≤ 1099511627776 ∧ 1 ≤ most ∧ most ≤ 65536 ∧ ∃ (wb : Nat) (mb : Nat → Nat) (hb : Nat), e = .returned (.tuple #[ptr wb, .int .i64 0]) ∧ Wh w' wb mb hb now most 0 (fun _ => none) (fun _ _ => none) ∧ (∀ k, k ∈ wb :: mapsF mb hb → w.heap.size ≤ k))
    ∨ (¬ (0 ≤ now ∧ now ≤ 1099511627776 ∧ 1 ≤ most ∧ most ≤ 65536) ∧ e = .returned (.tuple #[.pointer none, .int .i64 1])))
set_option maxRecDepth 20000 in
set_option maxHeartbeats 4000000 in
theorem wnew_any (now most : Int) (w : World) :
    Calls Try.prog 8 #[.int .i64 now, .int .i64 most] w (Newed now most w) := by
  by_cases g1 : now < 0
  · go_enter Try.func8, Try.ntmps8
    go_wp2_with fail
    go_ret2
    exact ⟨Step.refl _ _, .inr ⟨by omega, rfl⟩⟩
  · by_cases g2 : 1099511627776 < now
    · go_enter Try.func8, Try.ntmps8
      go_wp2_with fail
      go_ret2
      exact ⟨Step.refl _ _, .inr ⟨by omega, rfl⟩⟩
    · by_cases g3 : most < 1
      · go_enter Try.func8, Try.ntmps8
        go_wp2_with fail
        go_ret2
        exact ⟨Step.refl _ _, .inr ⟨by omega, rfl⟩⟩
      · by_cases g4 : 65536 < most
        · go_enter Try.func8, Try.ntmps8
          go_wp2_with fail
          go_ret2
          exact ⟨Step.refl _ _, .inr ⟨by omega, rfl⟩⟩
        · have hmm := @run_makeMap Try.prog
          go_enter Try.func8, Try.ntmps8
          go_wp2_with fail
          have hN := Nw.start w now most
          generalize ((((w.alloc (.map #[] 0)).alloc (.map #[] 0)).alloc (.map #[] 0)).alloc (.cells (wC now most (fun _ => .map none) (.map (some w.heap.size)) (.map (some (w.heap.size + 1))) (.map (some (w.heap.size + 1 + 1)))).toArray 68)) = W0 at *
          generalize hwb : w.heap.size + 1 + 1 + 1 = wb at *
          have HW := Lib.hid hwb
          have HN := Lib.hid hN
          clear hN hwb
          go_loopw [30] (fun i wr => ∃ k : Nat, i = .int .i64 k ∧ k ≤ 4 ∧ Nw w wb now most (64 * k) wr) (fun i _ => 4 - (intOf i).toNat)
          case atStart => exact ⟨0, rfl, by omega, HN.out⟩
          case round =>
            obtain ⟨k, rfl, hk, hN⟩ := hrel
            have HK := Lib.hid hN
            clear hN HN
            by_cases hk4 : k < 4
            · have hk4' : (k : Int) < 4 := by omega
              go_wp2_with fail
              go_loopw [33] (fun j w2 => ∃ m : Nat, j = .int .i64 m ∧ m ≤ 64 ∧ Nw w wb now most (64 * k + m) w2) (fun j _ => 64 - (intOf j).toNat)
              case atStart => exact ⟨0, rfl, by omega, HK.out⟩
              case round =>
                obtain ⟨m, rfl, hm, hN⟩ := hrel
                have HM := Lib.hid hN
                clear hN
                by_cases hm4 : m < 64
                · have hm4' : (m : Int) < 64 := by omega
                  have hal := (Step.refl [] wr).alloc (.map #[] 0)
                  have hbk := HM.out.blk.step hal (by simp)
                  have c0 := hbk.cell (2 + (64 * k + m))
                  rw [wC_slot _ _ _ _ _ _ (show 64 * k + m < 256 by omega), if_neg (by omega)] at c0
                  have f0 := hbk.free (2 + (64 * k + m))
                  rw [show 2 + (64 * k + m) = 2 + k * 64 + m by omega] at c0 f0
                  have hnx := HM.out.next (by omega)
                  rw [show 2 + (64 * k + m) = 2 + k * 64 + m by omega, show 64 * k + m + 1 = 64 * k + (m + 1) by omega] at hnx
                  have HX := Lib.hid hnx
                  clear hal hbk hnx
                  go_wp2_with fail
                  go_roundw
                  case rel => exact ⟨m + 1, by go_num, by omega, HX.out⟩
                  case measure => simp [intOf]; omega
                · have hm4' : ¬ (m : Int) < 64 := by omega
                  have hme : 64 * k + m = 64 * (k + 1) := by omega
                  have HX := Lib.hid (show Nw w wb now most (64 * (k + 1)) wr by rw [← hme]; exact HM.out)
                  go_wp2_with fail
                  go_roundw
                  case rel => exact ⟨k + 1, by go_num, by omega, HX.out⟩
                  case measure => simp [intOf]; omega
            · have hk4' : ¬ (k : Int) < 4 := by omega
              have hke : 64 * k = 256 := by omega
              have HX := Lib.hid (show Nw w wb now most 256 wr by rw [← hke]; exact HK.out)
              go_wp2_with fail
              go_ret2
              have hd := HX.out.done
              refine ⟨HX.out.st, .inl ⟨g1, g2, g3, g4, wb, nwB wb, wb - 1, rfl, hd, fun q hq => ?_⟩⟩
              have h1 := HW.out
              rcases List.mem_cons.1 hq with rfl | hq
              · omega
              · rcases mem_mapsF.1 hq with rfl | ⟨s, hs, rfl⟩
                · omega
                · unfold nwB
                  repeat' split
                  all_goals omega
end Go.Proofs.Ytmfplcmncipojaa
