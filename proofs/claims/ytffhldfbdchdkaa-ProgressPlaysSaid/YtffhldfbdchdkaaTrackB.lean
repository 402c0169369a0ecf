/- progress.Track: Yes, No. -/
import Derived.Test.YtffhldfbdchdkaaTrackA
namespace Go.Proofs.Ytffhldfbdchdkaa
set_option linter.unusedVariables false
open Go.RowKit Go.Maps

def yesUp (f : Int → Option Mk) (x i : Int) : Bool := (f x).isSome && decide (mat f x < i)
def yesF (f : Int → Option Mk) (x i : Int) : Int → Option Mk := if yesUp f x i then upd f x (some (i, max (nxt f x) (i + 1))) else f
def noNext (f : Int → Option Mk) (x i : Int) : Int := max (min (nxt f x) (i + 1)) (mat f x + 1)
def noDown (f : Int → Option Mk) (x i : Int) : Bool := (f x).isSome && decide (noNext f x i < nxt f x)
def noF (f : Int → Option Mk) (x i : Int) : Int → Option Mk := if noDown f x i then upd f x (some (mat f x, noNext f x i)) else f

theorem Trk.mono {w : World} {tb mb n : Nat} {f : Int → Option Mk} (h : Trk w tb mb n f) {m : Nat} (hm : n ≤ m) : Trk w tb mb m f := ⟨h.blk, h.map.mono hm, h.ne⟩
theorem Trk.stored {w w' : World} {tb mb n m : Nat} {f g : Int → Option Mk} (h : Trk w tb mb n f) (hm : MapF keyI elM w' mb m g) (hs : Step [mb] w w') : Trk w' tb mb m g :=
  ⟨h.blk.step hs (by simpa using fun e => h.ne e.symm), hm, h.ne⟩

theorem max_if (a b : Int) : (if a < b then b else a) = max a b := by omega

set_option maxHeartbeats 1000000 in
theorem yes_any (tb mb n : Nat) (f : Int → Option Mk) (x i : Int) (w : World) (hT : Trk w tb mb n f) (hx : IsI x) (hi : Low i) (hn : n < 1000000) :
    Calls Try.prog 8 #[.pointer (some ⟨tb, 0, none⟩), .int .i64 x, .int .u64 i] w fun e w' => e = .returned (.bool (yesUp f x i)) ∧ Trk w' tb mb (n + 1) (yesF f x i) ∧ Step [mb] w w' := by
  have HH := Lib.hid (has_any tb mb n f x w hT hx)
  have HT := Lib.hid hT
  have HI := Lib.hid hi
  clear hT
  cases hf : (f x).isSome with
  | false =>
    have hu : yesUp f x i = false := by simp [yesUp, hf]
    have hu2 : yesF f x i = f := by simp [yesF, hu]
    rw [hu, hu2]
    rw [hf] at HH
    go_enter Try.func8, Try.ntmps8
    go_wp2_with fail
    refine HH.out.mono ?_
    rintro e w1 ⟨rfl, hs⟩
    have HS := Lib.hid hs
    clear hs HH
    go_wp2_with fail
    go_ret
    exact ⟨rfl, (HT.out.step HS.out (by simp) (by simp)).mono (by omega), HS.out.mono (fun k hk => by cases hk)⟩
  | true =>
    rw [hf] at HH
    by_cases hlt : mat f x < i
    · have hu : yesUp f x i = true := by simp [yesUp, hf, hlt]
      have hu2 : yesF f x i = upd f x (some (i, max (nxt f x) (i + 1))) := by simp [yesF, hu]
      rw [hu, hu2]
      clear hu hu2
      have hle : decide (i ≤ mat f x) = false := by simpa using by omega
      go_enter Try.func8, Try.ntmps8
      go_wp2_with fail
      refine HH.out.mono ?_
      rintro e w1 ⟨rfl, hs⟩
      have hT1 := HT.out.step hs (by simp) (by simp)
      have HS := Lib.hid hs
      have hc0 := hT1.blk.cell 0
      simp at hc0
      have hlk := hT1.look x hx
      have hlk2 : (Instr.lookup 43 (.map (some mb)) (.int .i64 x) false).run Try.prog w1.drew = _ := (hT1.step ((Step.refl [] w1).drew) (by simp) (by simp)).look x hx
      have hf0 := fun w => field0 w (mat f x) (nxt f x)
      have hf1 := fun w => field1 w (mat f x) (nxt f x)
      have HT1 := Lib.hid hT1
      clear hs HH HT hT1
      go_wp2_with fail
      refine wp_region_still_tail 17 (by kernel_rfl) (by kernel_rfl) ?_
      simp only [List.take_succ_cons, List.take_zero, List.drop_succ_cons, List.drop_zero]
      repeat still_step
      still_call (above_any i _ HI.out)
      repeat still_step
      refine wpStill_nil ?_
      change wpList _ _ _ _ _ w1.drew
      have hD := (Step.refl ([] : List Nat) w1).drew
      refine wpList_store keyI elM rfl _ _ _ 43 47 rfl Try.underlying43 rfl (HT1.out.step hD (by simp) (by simp)).map (by unfold maxLen; omega) x rfl hx.good (i, if nxt f x < i + 1 then i + 1 else nxt f x) rfl ?_
      intro w2 hm2 hs2
      have hT2 := (HT1.out.step hD (by simp) (by simp)).stored hm2 hs2
      rw [max_if] at hT2
      have HT2 := Lib.hid hT2
      have HS2 := Lib.hid ((HS.out.mono (G := [mb]) (fun k hk => by cases hk)).then ((hD.mono (G := [mb]) (fun k hk => by cases hk)).then hs2 (fun k hk => .inl hk)) (fun k hk => .inl hk))
      clear hm2 hs2 hT2 hD hlk hlk2 hf0 hf1 HT1 HS
      go_wp2
      all_goals
        go_ret
        exact ⟨rfl, HT2.out, HS2.out⟩
    · have hu : yesUp f x i = false := by simp [yesUp, hlt]
      have hu2 : yesF f x i = f := by simp [yesF, hu]
      rw [hu, hu2]
      clear hu hu2
      have hle : decide (i ≤ mat f x) = true := by simpa using by omega
      go_enter Try.func8, Try.ntmps8
      go_wp2_with fail
      refine HH.out.mono ?_
      rintro e w1 ⟨rfl, hs⟩
      have hT1 := HT.out.step hs (by simp) (by simp)
      have HS := Lib.hid hs
      have hc0 := hT1.blk.cell 0
      simp at hc0
      have hlk := hT1.look x hx
      have hf0 := fun w => field0 w (mat f x) (nxt f x)
      have HT1 := Lib.hid hT1
      clear hs HH HT hT1
      go_wp2_with fail
      go_ret
      exact ⟨rfl, HT1.out.mono (by omega), HS.out.mono (fun k hk => by cases hk)⟩

set_option maxHeartbeats 1000000 in
theorem no_any (tb mb n : Nat) (f : Int → Option Mk) (x i : Int) (w : World) (hT : Trk w tb mb n f) (hx : IsI x) (hi : Low i) (hm : Low (mat f x)) (hn : n < 1000000) :
    Calls Try.prog 9 #[.pointer (some ⟨tb, 0, none⟩), .int .i64 x, .int .u64 i] w fun e w' => e = .returned (.bool (noDown f x i)) ∧ Trk w' tb mb (n + 1) (noF f x i) ∧ Step [mb] w w' := by
  have HH := Lib.hid (has_any tb mb n f x w hT hx)
  have HT := Lib.hid hT
  have HI := Lib.hid hi
  have HM := Lib.hid hm
  clear hT hi hm
  cases hf : (f x).isSome with
  | false =>
    have hu : noDown f x i = false := by simp [noDown, hf]
    have hu2 : noF f x i = f := by simp [noF, hu]
    rw [hu, hu2]
    rw [hf] at HH
    go_enter Try.func9, Try.ntmps9
    go_wp2_with fail
    refine HH.out.mono ?_
    rintro e w1 ⟨rfl, hs⟩
    have HS := Lib.hid hs
    clear hs HH
    go_wp2_with fail
    go_ret
    exact ⟨rfl, (HT.out.step HS.out (by simp) (by simp)).mono (by omega), HS.out.mono (fun k hk => by cases hk)⟩
  | true =>
    rw [hf] at HH
    go_enter Try.func9, Try.ntmps9
    go_wp2_with fail
    refine HH.out.mono ?_
    rintro e w1 ⟨rfl, hs⟩
    have hT1 := HT.out.step hs (by simp) (by simp)
    have HS := Lib.hid hs
    have hc0 := hT1.blk.cell 0
    simp at hc0
    have hlk := hT1.look x hx
    have HT1 := Lib.hid hT1
    clear hs HH HT hT1
    go_wp2_with fail
    go_quiet ((go_at_call 14; first | exact Calls.quiet_of_same (above_any i _ HI.out) | exact Calls.quiet_of_same (above_any _ _ HM.out)))
    have hsW : Step [] w1 ((w1.alloc (.cells #[.int .u64 (mat f x), .int .u64 (nxt f x)] 47)).drewN nq) := ((Step.refl [] w1).alloc _).drewN nq
    have hTW := HT1.out.step hsW (by simp) (by simp)
    have HTW := Lib.hid hTW
    have HSW := Lib.hid ((HS.out.mono (G := [mb]) (fun k hk => by cases hk)).then hsW (fun k hk => by cases hk))
    have hw0 := hTW.blk.cell 0
    simp only [List.getElem?_toArray, List.getElem?_cons_zero] at hw0
    have hw1 : ((w1.alloc (.cells #[.int .u64 (mat f x), .int .u64 (nxt f x)] 47)).drewN nq).cell? ⟨w1.heap.size, 0, none⟩ = some (.int .u64 (mat f x)) := ((Blk.new w1 #[.int .u64 (mat f x), .int .u64 (nxt f x)] 47).cell 0).trans rfl
    have hw1f : ((w1.alloc (.cells #[.int .u64 (mat f x), .int .u64 (nxt f x)] 47)).drewN nq).cell? ⟨w1.heap.size, 1, none⟩ = some (.int .u64 (nxt f x)) := ((Blk.new w1 #[.int .u64 (mat f x), .int .u64 (nxt f x)] 47).cell 1).trans rfl
    clear hTW hsW hc0 hlk HT1 HS
    generalize (w1.alloc (.cells #[.int .u64 (mat f x), .int .u64 (nxt f x)] 47)).drewN nq = W at *
    go_wp2_with fail
    all_goals first
      | (go_ret
         have hd : noDown f x i = false := by unfold noDown noNext; rw [hf]; simp; omega
         rw [hd, show noF f x i = f by unfold noF; rw [hd]; rfl]
         exact ⟨rfl, HTW.out.mono (by omega), HSW.out⟩)
      | (refine wp_region_still_tail 9 (by kernel_rfl) (by kernel_rfl) ?_
         simp only [List.take_succ_cons, List.take_zero, List.drop_succ_cons, List.drop_zero]
         repeat still_step
         refine wpStill_nil ?_
         change wpList _ _ _ _ _ (World.drew _)
         refine wpList_store keyI elM rfl _ _ _ 43 47 rfl Try.underlying43 rfl (HTW.out.step (Step.refl ([] : List Nat) _).drew (by simp) (by simp)).map (by unfold maxLen; omega) x rfl hx.good (mat f x, noNext f x i) (congrArg (fun z => Value.agg #[.int .u64 (mat f x), .int .u64 z]) (by unfold noNext; omega)) ?_
         intro w2 hm2 hs2
         have hT2 := (HTW.out.step (Step.refl ([] : List Nat) _).drew (by simp) (by simp)).stored hm2 hs2
         have HT2 := Lib.hid hT2
         have HS2 := Lib.hid (HSW.out.then (((Step.refl ([] : List Nat) _).drew.mono (G := [mb]) (fun k hk => by cases hk)).then hs2 (fun k hk => .inl hk)) (fun k hk => .inl hk))
         clear hm2 hs2 hT2 HTW HSW
         have hd : noDown f x i = true := by unfold noDown noNext; rw [hf]; simp; omega
         have hd2 : noF f x i = upd f x (some (mat f x, noNext f x i)) := by unfold noF; rw [hd]; rfl
         go_wp2
         go_ret
         rw [hd, hd2]
         exact ⟨rfl, HT2.out, HS2.out⟩)
end Go.Proofs.Ytffhldfbdchdkaa
