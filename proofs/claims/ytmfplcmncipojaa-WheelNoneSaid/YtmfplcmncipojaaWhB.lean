/- wheel.put: a timer, where it belongs. -/
import Derived.Test.YtmfplcmncipojaaWhA
import Derived.Test.YtmfplcmncipojaaRel
import Derived.Test.YtmfplcmncipojaaMapLen
namespace Go.Proofs.Ytmfplcmncipojaa
set_option linter.unusedVariables false
open Go.RowKit Go.Maps

theorem anti_tailW {P : Program} {ops : Array Oper} {Q : Exit → Act → World → Prop} {l : List Oper} {G : World → World → Prop} {W0 : World} (a : Act) (F F' : World → Prop) (h : ∀ w, F' w → F w)
    (hQ : ∀ w', G W0 w' → F w' → wpList P ops Q l a w') : ∀ w', G W0 w' → F' w' → wpList P ops Q l a w' := fun w' hg hf => hQ w' hg (h w' hf)
theorem rel0 : RelLaw (Step []) (fun _ _ _ _ => False) := ⟨fun w => Step.refl _ _, fun w w' w'' h1 h2 => h1.then h2 (by simp), fun f args v w w' h _ => h⟩
/-- the blocks of a wheel's maps -/
def mapsF (mb : Nat → Nat) (hb : Nat) : List Nat := hb :: (List.range 258).map mb
theorem mem_mapsF {mb : Nat → Nat} {hb k : Nat} : k ∈ mapsF mb hb ↔ k = hb ∨ ∃ s, s < 258 ∧ mb s = k := by
  unfold mapsF
  simp only [List.mem_cons, List.mem_map, List.mem_range]
/-- the slots with another one -/
def updS (S : Nat → ByteArray → Option Int) (s : Nat) (f : ByteArray → Option Int) : Nat → ByteArray → Option Int := fun t => if t = s then f else S t
section
variable {w w' : World} {wb : Nat} {mb : Nat → Nat} {hb : Nat} {now most : Int} {n m : Nat} {W W' : ByteArray → Option (Int × Int)} {S : Nat → ByteArray → Option Int} {f : ByteArray → Option Int}
/-- one slot's map is turned -/
theorem Wh.turn (h : Wh w wb mb hb now most n W S) {s : Nat} (hs : s < 258) (hst : Step [mb s] w w') (hm : MapF nmK atE w' (mb s) m f) (hnm : n ≤ m) : Wh w' wb mb hb now most m W (updS S s f) where
  blk := h.blk.step hst (by have := h.dw s hs; simpa using fun e => this e.symm)
  mp := fun t ht => by
    unfold updS
    by_cases e : t = s
    · subst e
      rw [if_pos rfl]
      exact hm
    · rw [if_neg e]
      exact ((h.mp t ht).step hst (by have := h.dj t s ht hs e; simpa using this)).mono hnm
  wh := (h.wh.step hst (by have := h.dh s hs; simpa using fun e => this e.symm)).mono hnm
  dj := h.dj
  dh := h.dh
  dw := h.dw
  dx := h.dx
/-- the map of places is turned -/
theorem Wh.turnW (h : Wh w wb mb hb now most n W S) (hst : Step [hb] w w') (hm : MapF nmK plE w' hb m W') (hnm : n ≤ m) : Wh w' wb mb hb now most m W' S where
  blk := h.blk.step hst (by have := h.dx; simpa using fun e => this e.symm)
  mp := fun t ht => ((h.mp t ht).step hst (by have := h.dh t ht; simpa using this)).mono hnm
  wh := hm
  dj := h.dj
  dh := h.dh
  dw := h.dw
  dx := h.dx
end

/-- no more entries than there are names -/
theorem Wh.shrink {w : World} {wb : Nat} {mb : Nat → Nat} {hb : Nat} {now most : Int} {n : Nat} {W : ByteArray → Option (Int × Int)} {S : Nat → ByteArray → Option Int} (h : Wh w wb mb hb now most n W S) (ks : List ByteArray) (hnd : ks.Nodup) (hg : ∀ x ∈ ks, x.size ≤ maxLen)
    (hk : ∀ x : ByteArray, x.size ≤ maxLen → (W x ≠ none ↔ x ∈ ks)) (hS : ∀ s, s < 258 → ∀ x : ByteArray, x.size ≤ maxLen → S s x ≠ none → x ∈ ks) : Wh w wb mb hb now most ks.length W S where
  blk := h.blk
  mp := fun s hs => by
    have h1 := (h.mp s hs).shrink (ks.filter fun x => (S s x).isSome) (hnd.filter _) (fun x hx => by
      rw [List.mem_filter]
      constructor
      · intro h2
        exact ⟨hS s hs x hx h2, by simpa [Option.isSome_iff_ne_none] using h2⟩
      · rintro ⟨_, h2⟩
        simpa [Option.isSome_iff_ne_none] using h2) (fun x hx => hg x (List.mem_filter.1 hx).1)
    exact h1.mono (List.length_filter_le _ _)
  wh := h.wh.shrink ks hnd hk hg
  dj := h.dj
  dh := h.dh
  dw := h.dw
  dx := h.dx
/-- what put leaves -/
def Put (wb : Nat) (mb : Nat → Nat) (hb : Nat) (now most : Int) (n : Nat) (W : ByteArray → Option (Int × Int)) (S : Nat → ByteArray → Option Int) (x : ByteArray) (a : Int) (w : World) (e : Ending) (w' : World) : Prop :=
  e = .returned (.tuple #[]) ∧ Wh w' wb mb hb now most (n + 2) (upd W x (some (fnd now a))) (updS S (slt (fnd now a)) (upd (S (slt (fnd now a))) x (some a))) ∧ Step (mapsF mb hb) w w'

set_option maxRecDepth 20000 in
set_option maxHeartbeats 1000000 in
theorem wput_any (wb : Nat) (mb : Nat → Nat) (hb : Nat) (now most : Int) (n : Nat) (W : ByteArray → Option (Int × Int)) (S : Nat → ByteArray → Option Int) (x : ByteArray) (a : Int) (w : World) (h : Wh w wb mb hb now most n W S) (h0 : 0 ≤ now) (ha : 0 ≤ a) (hm : now ≤ 1099511627776) (ham : a ≤ 1099511627776) (hx : x.size ≤ maxLen) (hn : n + 1 < maxLen) :
    Calls Try.prog 23 #[ptr wb, .string x, .int .i64 a] w (Put wb mb hb now most n W S x a w) := by
  have HF := Lib.hid (wfind_any wb mb hb now most n W S a w h h0 ha hm ham)
  have HH := Lib.hid h
  have HX := Lib.hid (And.intro hx hn)
  obtain ⟨p, hp⟩ : ∃ p, fnd now a = p := ⟨_, rfl⟩
  have hok := fnd_ok now a
  unfold Put
  rw [hp] at hok HF ⊢
  obtain ⟨p1, p2⟩ := p
  have HO := Lib.hid hok
  simp only at HF
  clear h hx hn hp hok h0 ha hm ham
  unfold ptr at *
  go_enter Try.func23, Try.ntmps23
  go_wp2_with fail
  refine HF.out.mono ?_
  rintro e w1 ⟨rfl, hs1⟩
  go_wp2_with fail
  have hst := (Step.refl [] w1).alloc (.cells #[.int .i64 p1, .int .i64 p2] 70)
  have hbk := Blk.new w1 #[.int .i64 p1, .int .i64 p2] 70
  generalize hW2 : w1.alloc (.cells #[.int .i64 p1, .int .i64 p2] 70) = W2 at *
  generalize hpb : w1.heap.size = pb at *
  have HS2 := Lib.hid (hs1.then hst (by simp))
  have HB2 := Lib.hid hbk
  have HH2 := Lib.hid (HH.out.step0 HS2.out)
  have HA := Lib.hid (wat_any wb mb hb now most n W S (p1, p2) W2 HH2.out HO.out)
  have hlt0 := HH.out.blk.lt
  have hpw : w.heap.size ≤ pb := by rw [← hpb]; exact hs1.size
  have HPW := Lib.hid hpw
  clear hst hbk hW2 hpb hs1 hpw hlt0 HF
  unfold ptr at HA
  refine HA.out.mono ?_
  rintro e w3 ⟨rfl, hs3⟩
  have HH3 := Lib.hid (HH2.out.step0 hs3)
  have HS3 := Lib.hid (HS2.out.then hs3 (by simp))
  have HB3 := Lib.hid (HB2.out.step hs3 (by simp))
  have hsl := slt_lt HO.out
  have HSL := Lib.hid hsl
  clear hs3 HA HH2 HS2 HB2 hsl
  generalize hs0 : slt (p1, p2) = s0 at *
  go_wp2_with (at_mapUpdate; refine wpList_store nmK atE rfl _ _ _ 62 2 rfl Try.underlying62 rfl (HH3.out.mp s0 HSL.out) (by have := HX.out.2; unfold maxLen at *; omega) x rfl HX.out.1 a rfl ?_)
  intro w4 hm4 hs4
  have HH4 := Lib.hid (HH3.out.turn HSL.out hs4 hm4 (by omega))
  have hpm : pb ∉ mapsF mb hb := fun hm => by
    have h1 := HPW.out
    rcases mem_mapsF.1 hm with rfl | ⟨s, hs, rfl⟩
    · have := HH.out.wh.lt; omega
    · have := (HH.out.mp s hs).lt; omega
  have HPM := Lib.hid hpm
  have hin : mb s0 ∈ mapsF mb hb := mem_mapsF.2 (.inr ⟨s0, HSL.out, rfl⟩)
  have hs4' : Step (mapsF mb hb) w3 w4 := hs4.mono (by intro k hk; simp at hk; subst hk; exact hin)
  have HS4 := Lib.hid ((HS3.out.mono (by simp)).trans hs4' (fun k hk => .inl hk))
  have HB4 := Lib.hid (HB3.out.step hs4' hpm)
  clear hm4 hs4 hs4' hin hpm HH3 HS3 HB3
  go_wp2_with fail
  have hne : Nonempty (ClsW (Step [] w4.drew)) := ⟨⟨_, Step.refl _ _⟩⟩
  have q0 : ∀ y : ClsW (Step [] w4.drew), y.val.cell? ⟨wb, 260, none⟩ = some (.map (some hb)) := fun y => ((HH4.out.step0 ((Step.refl [] w4).drew.then y.ok (by simp)))).where_
  have q1 : ∀ y : ClsW (Step [] w4.drew), y.val.cell? ⟨pb, 0, none⟩ = some (.int .i64 p1) := fun y => (HB4.out.drew.step y.ok (by simp)).cell 0
  have q2 : ∀ y : ClsW (Step [] w4.drew), y.val.cell? ⟨pb, 1, none⟩ = some (.int .i64 p2) := fun y => (HB4.out.drew.step y.ok (by simp)).cell 1
  refine wp_region_rel_tail rel0 6 (by kernel_rfl) (by kernel_rfl) ?_
  simp only [List.take_succ_cons, List.take_zero, List.drop_succ_cons, List.drop_zero]
  refine wpR_pre rel0 anti_tailW 6 _ _ _ ?_ rfl
  simp only [List.take_succ_cons, List.take_zero, List.drop_succ_cons, List.drop_zero]
  repeat (go_big_quiet_step (fail))
  refine wpQuiet_nil ?_
  unfold wpR
  intro w5 hs5 _
  have s5 := (Step.refl [] w4).drew.then hs5 (by simp)
  have HH5 := Lib.hid (HH4.out.step0 s5)
  have HS5 := Lib.hid (HS4.out.then s5 (by simp))
  clear hne q0 q1 q2 hs5 s5
  refine wpList_store nmK plE rfl _ _ _ 63 70 rfl Try.underlying63 rfl HH5.out.wh (by have := HX.out.2; omega) x rfl HX.out.1 (p1, p2) rfl ?_
  intro w6 hm6 hs6
  have hh6 := HH5.out.turnW hs6 hm6 (by omega)
  have hs6' := HS5.out.trans (hs6.mono (G := mapsF mb hb) (by intro k hk; simp at hk; subst hk; exact mem_mapsF.2 (.inl rfl))) (fun k hk => .inl hk)
  have HF := Lib.hid (And.intro hh6 hs6')
  clear hm6 hs6 hh6 hs6' HH5 HS5 HH4 HS4 HB4
  go_wp2_with fail
  go_end0
  exact ⟨rfl, HF.out.1, HF.out.2⟩
end Go.Proofs.Ytmfplcmncipojaa
