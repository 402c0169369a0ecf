/- A wheel in memory; where a timer is. -/
import Derived.Test.YtmfplcmncipojaaWhP
import Derived.Test.YtmfplcmncipojaaBigCells
import Derived.Test.YtmfplcmncipojaaRowF
import Derived.Test.YtmfplcmncipojaaBlocks
import Derived.Laws.Rows
namespace Go.Proofs.Ytmfplcmncipojaa
set_option linter.unusedVariables false
open Go.RowKit Go.Maps

/-- a wheel's cells -/
def wC (now most : Int) (L : Nat → Value) (f d h : Value) : List Value := .int .i64 now :: .int .i64 most :: ((List.range 256).map L ++ [f, d, h])
theorem wC_len (now most : Int) (L : Nat → Value) (f d h : Value) : (wC now most L f d h).length = 261 := by simp [wC]
theorem wC_slot (now most : Int) (L : Nat → Value) (f d h : Value) {s : Nat} (hs : s < 256) : (wC now most L f d h).toArray[2 + s]? = some (L s) := by
  rw [List.getElem?_toArray, show 2 + s = s + 1 + 1 by omega]
  unfold wC
  rw [List.getElem?_cons_succ, List.getElem?_cons_succ, List.getElem?_append_left (by simpa using hs)]
  simp [hs]
theorem wC_far (now most : Int) (L : Nat → Value) (f d h : Value) : (wC now most L f d h).toArray[258]? = some f := by
  rw [List.getElem?_toArray]
  unfold wC
  rw [List.getElem?_cons_succ, List.getElem?_cons_succ, List.getElem?_append_right (by simp)]
  simp
theorem wC_due (now most : Int) (L : Nat → Value) (f d h : Value) : (wC now most L f d h).toArray[259]? = some d := by
  rw [List.getElem?_toArray]
  unfold wC
  rw [List.getElem?_cons_succ, List.getElem?_cons_succ, List.getElem?_append_right (by simp)]
  simp
theorem wC_where (now most : Int) (L : Nat → Value) (f d h : Value) : (wC now most L f d h).toArray[260]? = some h := by
  rw [List.getElem?_toArray]
  unfold wC
  rw [List.getElem?_cons_succ, List.getElem?_cons_succ, List.getElem?_append_right (by simp)]
  simp

/-- names; deadlines; places -/
@[implicit_reducible] noncomputable def nmK : KeyT Try.prog 9 ByteArray := strKey Try.underlying9
abbrev atE : ElT Int := intEl .i64
abbrev plE : ElT (Int × Int) := pairEl .i64 .i64
def ptr (b : Nat) : Value := .pointer (some ⟨b, 0, none⟩)
/-- a wheel: its variable, its maps -/
structure Wh (w : World) (wb : Nat) (mb : Nat → Nat) (hb : Nat) (now most : Int) (n : Nat) (W : ByteArray → Option (Int × Int)) (S : Nat → ByteArray → Option Int) : Prop where
  blk : Blk w wb (wC now most (fun s => .map (some (mb s))) (.map (some (mb 256))) (.map (some (mb 257))) (.map (some hb))).toArray 68
  mp : ∀ s, s < 258 → MapF nmK atE w (mb s) n (S s)
  wh : MapF nmK plE w hb n W
  dj : ∀ s t, s < 258 → t < 258 → s ≠ t → mb s ≠ mb t
  dh : ∀ s, s < 258 → mb s ≠ hb
  dw : ∀ s, s < 258 → mb s ≠ wb
  dx : hb ≠ wb
section
variable {w w' : World} {wb : Nat} {mb : Nat → Nat} {hb : Nat} {now most : Int} {n : Nat} {W : ByteArray → Option (Int × Int)} {S : Nat → ByteArray → Option Int}
theorem Wh.slot (h : Wh w wb mb hb now most n W S) {s : Nat} (hs : s < 256) : w.cell? ⟨wb, 2 + s, none⟩ = some (.map (some (mb s))) := by
  rw [h.blk.cell]
  exact wC_slot _ _ _ _ _ _ hs
theorem Wh.cnow (h : Wh w wb mb hb now most n W S) : w.cell? ⟨wb, 0, none⟩ = some (.int .i64 now) := h.blk.cell 0
theorem Wh.cmost (h : Wh w wb mb hb now most n W S) : w.cell? ⟨wb, 1, none⟩ = some (.int .i64 most) := h.blk.cell 1
theorem Wh.far (h : Wh w wb mb hb now most n W S) : w.cell? ⟨wb, 258, none⟩ = some (.map (some (mb 256))) := by
  rw [h.blk.cell]
  exact wC_far _ _ _ _ _ _
theorem Wh.due (h : Wh w wb mb hb now most n W S) : w.cell? ⟨wb, 259, none⟩ = some (.map (some (mb 257))) := by
  rw [h.blk.cell]
  exact wC_due _ _ _ _ _ _
theorem Wh.where_ (h : Wh w wb mb hb now most n W S) : w.cell? ⟨wb, 260, none⟩ = some (.map (some hb)) := by
  rw [h.blk.cell]
  exact wC_where _ _ _ _ _ _
theorem Wh.step {F : List Nat} (h : Wh w wb mb hb now most n W S) (hs : Step F w w') (h1 : wb ∉ F) (h2 : hb ∉ F) (h3 : ∀ s, s < 258 → mb s ∉ F) : Wh w' wb mb hb now most n W S where
  blk := h.blk.step hs h1
  mp := fun s hl => (h.mp s hl).step hs (h3 s hl)
  wh := h.wh.step hs h2
  dj := h.dj
  dh := h.dh
  dw := h.dw
  dx := h.dx
theorem Wh.step0 (h : Wh w wb mb hb now most n W S) (hs : Step [] w w') : Wh w' wb mb hb now most n W S := h.step hs (by simp) (by simp) (by simp)
end

set_option maxRecDepth 20000 in
theorem wat_any (wb : Nat) (mb : Nat → Nat) (hb : Nat) (now most : Int) (n : Nat) (W : ByteArray → Option (Int × Int)) (S : Nat → ByteArray → Option Int) (p : Int × Int) (w : World) (h : Wh w wb mb hb now most n W S) (hp : okP p) :
    Calls Try.prog 32 #[ptr wb, .agg #[.int .i64 p.1, .int .i64 p.2]] w fun e w' => e = .returned (.map (some (mb (slt p)))) ∧ Step [] w w' := by
  have hst := (Step.refl [] w).alloc (.cells #[.int .i64 p.1, .int .i64 p.2] 70)
  have hb' := Blk.new w #[.int .i64 p.1, .int .i64 p.2] 70
  have hW := h.step0 hst
  have HS := Lib.hid hst
  obtain ⟨p1, p2⟩ := p
  simp only at hb' hst hW HS
  have HW := Lib.hid hW
  have HB := Lib.hid hb'
  have c0 : (w.alloc (.cells #[.int .i64 p1, .int .i64 p2] 70)).cell? ⟨w.heap.size, 0, none⟩ = some (.int .i64 p1) := hb'.cell 0
  have c1 : (w.alloc (.cells #[.int .i64 p1, .int .i64 p2] 70)).cell? ⟨w.heap.size, 1, none⟩ = some (.int .i64 p2) := hb'.cell 1
  clear hb' hst hW h
  unfold ptr
  rcases hp with ⟨h1, h2⟩ | ⟨h1, h2⟩ | ⟨h1, h2, h3, h4⟩
  · simp only at h1 h2
    subst h1 h2
    have d0 := HW.out.due
    have hsl : slt (-1, 0) = 257 := rfl
    rw [hsl]
    go_enter Try.func32, Try.ntmps32
    go_wp2_with fail
    go_ret
    exact ⟨rfl, HS.out⟩
  · simp only at h1 h2
    subst h1 h2
    have d0 := HW.out.far
    have hsl : slt (4, 0) = 256 := rfl
    rw [hsl]
    go_enter Try.func32, Try.ntmps32
    go_wp2_with fail
    go_ret
    exact ⟨rfl, HS.out⟩
  · simp only at h1 h2 h3 h4
    obtain ⟨i, rfl⟩ : ∃ i : Nat, p1 = (i : Int) := ⟨p1.toNat, by omega⟩
    obtain ⟨k, rfl⟩ : ∃ k : Nat, p2 = (k : Int) := ⟨p2.toNat, by omega⟩
    have hsl : slt ((i : Int), (k : Int)) = 64 * i + k := by
      unfold slt
      simp only
      rw [if_neg (by omega), if_neg (by omega)]
      omega
    rw [hsl]
    have hne1 : ¬ (i : Int) = -1 := by omega
    have hne4 : ¬ (i : Int) = 4 := by omega
    have b1 : (i : Int) < 4 := by omega
    have b2 : (k : Int) < 64 := by omega
    have d0 := HW.out.slot (s := 64 * i + k) (by omega)
    rw [show 2 + (64 * i + k) = 2 + i * 64 + k by omega] at d0
    go_enter Try.func32, Try.ntmps32
    go_wp2_with fail
    go_region
    all_goals (go_wp2_with fail; go_ret; exact ⟨rfl, HS.out.drew⟩)

/-- the zero of a place -/
theorem Try.zeroP (w : World) : (zeroValue 70).run Try.prog w = .ok (.agg #[.int .i64 0, .int .i64 0]) w := by kernel_rfl
set_option maxRecDepth 20000 in
set_option maxHeartbeats 1000000 in
theorem wfind_any (wb : Nat) (mb : Nat → Nat) (hb : Nat) (now most : Int) (n : Nat) (W : ByteArray → Option (Int × Int)) (S : Nat → ByteArray → Option Int) (a : Int) (w : World) (h : Wh w wb mb hb now most n W S) (h0 : 0 ≤ now) (ha : 0 ≤ a) (hm : now ≤ 1099511627776) (ham : a ≤ 1099511627776) :
    Calls Try.prog 33 #[ptr wb, .int .i64 a] w fun e w' => e = .returned (.agg #[.int .i64 (fnd now a).1, .int .i64 (fnd now a).2]) ∧ Step [] w w' := by
  have hst := (Step.refl [] w).alloc (.cells #[.int .i64 0, .int .i64 0] 70)
  have hb' := Blk.new w #[.int .i64 0, .int .i64 0] 70
  have hW := h.step0 hst
  obtain ⟨W1, hW1⟩ : ∃ W1, w.alloc (.cells #[.int .i64 0, .int .i64 0] 70) = W1 := ⟨_, rfl⟩
  obtain ⟨pb, hpb⟩ : ∃ pb, w.heap.size = pb := ⟨_, rfl⟩
  rw [hW1] at hst hb' hW
  rw [hpb] at hb'
  have X := Lib.hid (And.intro hW1 hpb)
  have HS := Lib.hid hst
  have HW := Lib.hid hW
  have HB := Lib.hid hb'
  have HP := Lib.hid (show ∀ (x y : Int), Blk ((W1.setCell ⟨pb, 0, none⟩ (.int .i64 x)).setCell ⟨pb, 1, none⟩ (.int .i64 y)) pb #[.int .i64 x, .int .i64 y] 70 from fun x y => (hb'.set 0 _).set 1 _)
  have f0 := hb'.free 0
  have f1 := hb'.free 1
  have k0 : W1.cell? ⟨pb, 0, none⟩ = some (.int .i64 0) := hb'.cell 0
  have k1 : W1.cell? ⟨pb, 1, none⟩ = some (.int .i64 0) := hb'.cell 1
  have c0 := HW.out.cnow
  unfold ptr
  clear hst hb' hW hpb hW1 h
  by_cases h1 : a ≤ now
  · go_enter Try.func33, Try.ntmps33
    go_wp2_with (rw [X.out.1, X.out.2])
    refine bodyPost_ret (v := .agg #[.int .i64 (-1), .int .i64 0]) (results_cell_row rfl _ _ pb 70 _ (0, 0) _ rfl (HP.out (-1) 0) Try.underlying70 rfl (by kernel_rfl)) rfl ?_
    rw [fnd_due h1]
    exact ⟨rfl, (HS.out.setCell (.inr (Nat.le_of_eq X.out.2)) 0 _).setCell (.inr (Nat.le_of_eq X.out.2)) 1 _⟩
  · go_enter Try.func33, Try.ntmps33
    go_wp2_with (rw [X.out.1, X.out.2])
    have HP2 := Lib.hid (show ∀ W2, Step [] W1 W2 → ∀ (x y : Int), Blk ((W2.setCell ⟨pb, 0, none⟩ (.int .i64 x)).setCell ⟨pb, 1, none⟩ (.int .i64 y)) pb #[.int .i64 x, .int .i64 y] 70 from fun W2 hs x y => ((HB.out.step hs (by simp)).set 0 _).set 1 _)
    clear f0 f1 k0 k1 c0 HP
    go_loopw [13] (fun j wr => ∃ k : Nat, j = .int .i64 k ∧ k ≤ 4 ∧ (1 ≤ k → ¬ a / 64 = now / 64) ∧ (2 ≤ k → ¬ a / 4096 = now / 4096) ∧ (3 ≤ k → ¬ a / 262144 = now / 262144) ∧ (4 ≤ k → ¬ a / 16777216 = now / 16777216) ∧ Step [] W1 wr) (fun j _ => 4 - (intOf j).toNat)
    case atStart => exact ⟨0, rfl, by omega, by omega, by omega, by omega, by omega, Step.refl _ _⟩
    case round =>
      obtain ⟨k, rfl, hk, i1, i2, i3, i4, hsr⟩ := hrel
      have HSR := Lib.hid hsr
      have c0 := (HW.out.step0 hsr).cnow
      have hbr := HB.out.step hsr (by simp)
      have f0 := hbr.free 0
      have f1 := hbr.free 1
      have k0 : wr.cell? ⟨pb, 0, none⟩ = some (.int .i64 0) := hbr.cell 0
      have k1 : wr.cell? ⟨pb, 1, none⟩ = some (.int .i64 0) := hbr.cell 1
      have HBR := Lib.hid hbr
      clear hsr hbr
      rcases (by omega : k = 0 ∨ k = 1 ∨ k = 2 ∨ k = 3 ∨ k = 4) with rfl | rfl | rfl | rfl | rfl
      · go_wp2_with fail
        go_region
        by_cases he : a / 64 = now / 64
        · have hm6 := i64_mask6 a (by omega) (by omega)
          go_wp2_with fail
          refine bodyPost_ret (v := .agg #[.int .i64 0, .int .i64 (a % 64)]) (results_cell_row rfl _ _ pb 70 _ (0, 0) _ rfl (HP2.out wr HSR.out 0 (a % 64)).drew Try.underlying70 rfl (by kernel_rfl)) rfl ?_
          unfold fnd
          rw [if_neg (by omega : ¬ a ≤ now)]
          rw [if_pos he]
          exact ⟨rfl, (((HS.out.then HSR.out (by simp)).setCell (.inr (Nat.le_of_eq X.out.2)) 0 _).setCell (.inr (Nat.le_of_eq X.out.2)) 1 _).drew⟩
        · have hb0 : (a / 64 == now / 64) = false := by simpa using he
          go_wp2_with fail
          go_roundw
          case rel => exact ⟨1, by go_num, by omega, fun _ => he, by omega, by omega, by omega, HSR.out.drew⟩
          case measure => simp [intOf]
      · go_wp2_with fail
        go_region
        by_cases he : a / 4096 = now / 4096
        · have hm6 := i64_mask6 (a / 64) (by omega) (by omega)
          go_wp2_with fail
          refine bodyPost_ret (v := .agg #[.int .i64 1, .int .i64 ((a / 64) % 64)]) (results_cell_row rfl _ _ pb 70 _ (0, 0) _ rfl (HP2.out wr HSR.out 1 ((a / 64) % 64)).drew Try.underlying70 rfl (by kernel_rfl)) rfl ?_
          unfold fnd
          rw [if_neg (by omega : ¬ a ≤ now)]
          rw [if_neg (i1 (by omega))]
          rw [if_pos he]
          exact ⟨rfl, (((HS.out.then HSR.out (by simp)).setCell (.inr (Nat.le_of_eq X.out.2)) 0 _).setCell (.inr (Nat.le_of_eq X.out.2)) 1 _).drew⟩
        · have hb0 : (a / 4096 == now / 4096) = false := by simpa using he
          go_wp2_with fail
          go_roundw
          case rel => exact ⟨2, by go_num, by omega, fun _ => i1 (by omega), fun _ => he, by omega, by omega, HSR.out.drew⟩
          case measure => simp [intOf]
      · go_wp2_with fail
        go_region
        by_cases he : a / 262144 = now / 262144
        · have hm6 := i64_mask6 (a / 4096) (by omega) (by omega)
          go_wp2_with fail
          refine bodyPost_ret (v := .agg #[.int .i64 2, .int .i64 ((a / 4096) % 64)]) (results_cell_row rfl _ _ pb 70 _ (0, 0) _ rfl (HP2.out wr HSR.out 2 ((a / 4096) % 64)).drew Try.underlying70 rfl (by kernel_rfl)) rfl ?_
          unfold fnd
          rw [if_neg (by omega : ¬ a ≤ now)]
          rw [if_neg (i1 (by omega))]
          rw [if_neg (i2 (by omega))]
          rw [if_pos he]
          exact ⟨rfl, (((HS.out.then HSR.out (by simp)).setCell (.inr (Nat.le_of_eq X.out.2)) 0 _).setCell (.inr (Nat.le_of_eq X.out.2)) 1 _).drew⟩
        · have hb0 : (a / 262144 == now / 262144) = false := by simpa using he
          go_wp2_with fail
          go_roundw
          case rel => exact ⟨3, by go_num, by omega, fun _ => i1 (by omega), fun _ => i2 (by omega), fun _ => he, by omega, HSR.out.drew⟩
          case measure => simp [intOf]
      · go_wp2_with fail
        go_region
        by_cases he : a / 16777216 = now / 16777216
        · have hm6 := i64_mask6 (a / 262144) (by omega) (by omega)
          go_wp2_with fail
          refine bodyPost_ret (v := .agg #[.int .i64 3, .int .i64 ((a / 262144) % 64)]) (results_cell_row rfl _ _ pb 70 _ (0, 0) _ rfl (HP2.out wr HSR.out 3 ((a / 262144) % 64)).drew Try.underlying70 rfl (by kernel_rfl)) rfl ?_
          unfold fnd
          rw [if_neg (by omega : ¬ a ≤ now)]
          rw [if_neg (i1 (by omega))]
          rw [if_neg (i2 (by omega))]
          rw [if_neg (i3 (by omega))]
          rw [if_pos he]
          exact ⟨rfl, (((HS.out.then HSR.out (by simp)).setCell (.inr (Nat.le_of_eq X.out.2)) 0 _).setCell (.inr (Nat.le_of_eq X.out.2)) 1 _).drew⟩
        · have hb0 : (a / 16777216 == now / 16777216) = false := by simpa using he
          go_wp2_with fail
          go_roundw
          case rel => exact ⟨4, by go_num, by omega, fun _ => i1 (by omega), fun _ => i2 (by omega), fun _ => i3 (by omega), fun _ => he, HSR.out.drew⟩
          case measure => simp [intOf]
      · go_wp2_with fail
        refine bodyPost_ret (v := .agg #[.int .i64 4, .int .i64 0]) (results_cell_row rfl _ _ pb 70 _ (0, 0) _ rfl (HP2.out wr HSR.out 4 0) Try.underlying70 rfl (by kernel_rfl)) rfl ?_
        unfold fnd
        rw [if_neg (by omega : ¬ a ≤ now), if_neg (i1 (by omega)), if_neg (i2 (by omega)), if_neg (i3 (by omega)), if_neg (i4 (by omega))]
        exact ⟨rfl, ((HS.out.then HSR.out (by simp)).setCell (.inr (Nat.le_of_eq X.out.2)) 0 _).setCell (.inr (Nat.le_of_eq X.out.2)) 1 _⟩
end Go.Proofs.Ytmfplcmncipojaa
