/- wheel.cascade: the timers of a place belong elsewhere. -/
import Derived.Test.YtmfplcmncipojaaWhB
import Derived.Test.YtmfplcmncipojaaMapClr
import Derived.Deep.RegionHeld3
import Derived.Shelf.SlMaps.Clone
namespace Go.Proofs.Ytmfplcmncipojaa
set_option linter.unusedVariables false
set_option linter.unusedSimpArgs false
open Go.RowKit Go.Maps

theorem MapF.congr {P : Program} {k : TypeId} {κ V : Type} {K : KeyT P k κ} {E : ElT V} {w : World} {b n : Nat} {f g : κ → Option V} (h : MapF K E w b n f) (he : ∀ x, K.good x → f x = g x) : MapF K E w b n g := by
  obtain ⟨D, h1, h2⟩ := h
  exact ⟨D, h1, fun x hx => by rw [← he x hx]; exact h2 x hx⟩
/-- timers at their places: the map of places, the slots -/
def WL (T : ByteArray → Option Int) (π : ByteArray → Int × Int) : ByteArray → Option (Int × Int) := fun x => (T x).map fun _ => π x
def SL (T : ByteArray → Option Int) (π : ByteArray → Int × Int) : Nat → ByteArray → Option Int := fun s x => if slt (π x) = s then T x else none
/-- those of a slot, but for some, are put anew -/
def piL (now : Int) (T : ByteArray → Option Int) (π : ByteArray → Int × Int) (s : Nat) (left : ByteArray → Bool) : ByteArray → Int × Int := fun x => if slt (π x) = s ∧ left x = false then fnd now ((T x).getD 0) else π x
/-- the slots while some are nowhere -/
def SB (T : ByteArray → Option Int) (ρ : ByteArray → Int × Int) (left : ByteArray → Bool) : Nat → ByteArray → Option Int := fun s x => if left x then none else if slt (ρ x) = s then T x else none
/-- timers by names: so many -/
structure Tim (T : ByteArray → Option Int) (ks : List ByteArray) : Prop where
  nd : ks.Nodup
  good : ∀ x ∈ ks, x.size ≤ maxLen
  mem : ∀ x : ByteArray, x.size ≤ maxLen → (T x ≠ none ↔ x ∈ ks)
  bd : ∀ x a, T x = some a → 0 ≤ a ∧ a ≤ 1099511627776
  len : ks.length ≤ 1000000

theorem casc_start (now : Int) (T : ByteArray → Option Int) (π : ByteArray → Int × Int) (s : Nat) : WL T (piL now T π s fun x => (SL T π s x).isSome) = WL T π ∧ SB T (piL now T π s fun x => (SL T π s x).isSome) (fun x => (SL T π s x).isSome) = updS (SL T π) s (fun _ => none) := by
  constructor
  · funext x
    unfold WL piL SL
    cases hT : T x with
    | none => rfl
    | some a =>
      by_cases h : slt (π x) = s <;> simp [h, hT]
  · funext t x
    unfold SB piL SL updS
    cases hT : T x with
    | none => by_cases h : slt (π x) = s <;> by_cases h2 : t = s <;> simp [h, h2, hT]
    | some a =>
      by_cases h : slt (π x) = s
      · by_cases h2 : t = s
        · simp [h, h2, hT]
        · have h3 : ¬ s = t := fun e => h2 e.symm
          simp [h, h2, hT, h3]
      · by_cases h2 : t = s
        · subst h2
          simp [h, hT]
        · simp [h, h2, hT]
theorem casc_step (now : Int) (T : ByteArray → Option Int) (π : ByteArray → Int × Int) (s : Nat) (left : ByteArray → Bool) (x : ByteArray) (a : Int) (hx : T x = some a) (hs : slt (π x) = s) (hl : left x = true) :
    upd (WL T (piL now T π s left)) x (some (fnd now a)) = WL T (piL now T π s fun y => left y && !decide (y = x))
    ∧ updS (SB T (piL now T π s left) left) (slt (fnd now a)) (upd (SB T (piL now T π s left) left (slt (fnd now a))) x (some a)) = SB T (piL now T π s fun y => left y && !decide (y = x)) (fun y => left y && !decide (y = x)) := by
  constructor
  · funext y
    unfold upd WL piL
    by_cases h : y = x
    · subst h
      simp [hx, hs]
    · simp [h]
  · funext t y
    unfold updS upd SB piL
    by_cases h : y = x
    · subst h
      by_cases h2 : t = slt (fnd now a)
      · simp [h2, hx, hs]
      · have h3 : ¬ slt (fnd now a) = t := fun e => h2 e.symm
        simp [h2, hx, hs, hl, h3]
    · by_cases h2 : t = slt (fnd now a) <;> simp [h, h2]
theorem casc_end (now : Int) (T : ByteArray → Option Int) (π : ByteArray → Int × Int) (s : Nat) (left : ByteArray → Bool) (x : ByteArray) (hl : left x = false) : WL T (piL now T π s left) x = WL T (piL now T π s fun _ => false) x ∧ ∀ t, SB T (piL now T π s left) left t x = SL T (piL now T π s fun _ => false) t x := by
  constructor
  · unfold WL piL
    simp [hl]
  · intro t
    unfold SB SL piL
    simp [hl]
theorem Tim.shrinkL {w : World} {wb : Nat} {mb : Nat → Nat} {hb : Nat} {now most : Int} {n : Nat} {T : ByteArray → Option Int} {ks : List ByteArray} {ρ : ByteArray → Int × Int} {left : ByteArray → Bool} (ht : Tim T ks) (h : Wh w wb mb hb now most n (WL T ρ) (SB T ρ left)) : Wh w wb mb hb now most ks.length (WL T ρ) (SB T ρ left) :=
  h.shrink ks ht.nd ht.good (fun x hx => by rw [← ht.mem x hx]; unfold WL; simp) (fun s _ x hx h2 => by
    rw [← ht.mem x hx]
    unfold SB at h2
    intro h3
    rw [h3] at h2
    simp at h2)
theorem Wh.congr {w : World} {wb : Nat} {mb : Nat → Nat} {hb : Nat} {now most : Int} {n : Nat} {W W' : ByteArray → Option (Int × Int)} {S S' : Nat → ByteArray → Option Int} (h : Wh w wb mb hb now most n W S) (hW : ∀ x : ByteArray, x.size ≤ maxLen → W x = W' x) (hS : ∀ s, ∀ x : ByteArray, x.size ≤ maxLen → S s x = S' s x) : Wh w wb mb hb now most n W' S' where
  blk := h.blk
  mp := fun s hs => (h.mp s hs).congr (hS s)
  wh := h.wh.congr hW
  dj := h.dj
  dh := h.dh
  dw := h.dw
  dx := h.dx

set_option maxRecDepth 20000 in
theorem sclone_map (mb n : Nat) (f : ByteArray → Option Int) (w : World) (h : MapF nmK atE w mb n f) :
    Calls Try.prog 28 #[.map (some mb)] w fun e w' => e = .returned (.map (some w.heap.size)) ∧ MapF nmK atE w' w.heap.size n f ∧ Step [] w w' := by
  obtain ⟨D, hown, hs⟩ := h
  obtain ⟨es, clock, hb, F, hn, hD⟩ := hown
  have hq := fun w => run_eql_map_nil_sl (P := Try.prog) w 62 _ _ (some mb) Try.underlying62
  simp only [Option.isNone_some] at hq
  have HF := Lib.hid (And.intro F (And.intro hn (And.intro hD hs)))
  clear F hn hD hs
  go_enter Try.func28, Try.ntmps28
  go_wp2
  rw [run_callFunc_extern Try.func40 (by kernel_rfl) (by kernel_rfl) (by kernel_rfl) (e := Extern.MapsClone.clone) (by kernel_rfl), run_maps_clone_sl w 62 hb]
  simp only [Result.andThen]
  rw [Oper.upon_value]
  go_wp2
  rw [run_typeAssert_map_sl _ 62 _ _ _ _ Try.underlying62]
  simp only [Result.andThen]
  rw [Oper.upon_value]
  go_wp2
  go_ret
  obtain ⟨F, hn, hD, hs⟩ := HF.out
  exact ⟨rfl, ⟨D, ⟨es, clock, (MapKept.heap_alloc w _).1, F, hn, hD⟩, hs⟩, (Step.refl [] w).alloc _⟩

set_option maxRecDepth 20000 in
set_option maxHeartbeats 2000000 in
theorem wcascade_any (wb : Nat) (mb : Nat → Nat) (hb : Nat) (now most : Int) (T : ByteArray → Option Int) (ks : List ByteArray) (π : ByteArray → Int × Int) (p : Int × Int) (w : World) (h : Wh w wb mb hb now most ks.length (WL T π) (SL T π)) (ht : Tim T ks) (h0 : 0 ≤ now) (hm : now ≤ 1099511627776) (hp : okP p) :
    Calls Try.prog 34 #[ptr wb, .agg #[.int .i64 p.1, .int .i64 p.2]] w fun e w' => e = .returned (.tuple #[]) ∧ Wh w' wb mb hb now most ks.length (WL T (piL now T π (slt p) fun _ => false)) (SL T (piL now T π (slt p) fun _ => false)) ∧ Step (mapsF mb hb) w w' := by
  have hsl := slt_lt hp
  obtain ⟨p1, p2⟩ := p
  have hst := (Step.refl [] w).alloc (.cells #[.int .i64 p1, .int .i64 p2] 70)
  have hbk := Blk.new w #[.int .i64 p1, .int .i64 p2] 70
  have hh := h.step0 hst
  have hmw : ∀ k, k ∈ mapsF mb hb → k < w.heap.size := fun k hk => by
    rcases mem_mapsF.1 hk with rfl | ⟨s, hs, rfl⟩
    · exact h.wh.lt
    · exact (h.mp s hs).lt
  have HMW := Lib.hid hmw
  have HWB := Lib.hid h.blk.lt
  obtain ⟨W1, hW1⟩ : ∃ W1, w.alloc (.cells #[.int .i64 p1, .int .i64 p2] 70) = W1 := ⟨_, rfl⟩
  obtain ⟨pb, hpb⟩ : ∃ pb, w.heap.size = pb := ⟨_, rfl⟩
  rw [hW1] at hst hbk hh
  rw [hpb] at hbk
  have X := Lib.hid (And.intro hW1 hpb)
  have c0 : W1.cell? ⟨pb, 0, none⟩ = some (.int .i64 p1) := hbk.cell 0
  have c1 : W1.cell? ⟨pb, 1, none⟩ = some (.int .i64 p2) := hbk.cell 1
  have HS := Lib.hid hst
  have HA := Lib.hid (wat_any wb mb hb now most ks.length (WL T π) (SL T π) (p1, p2) W1 hh hp)
  have HH := Lib.hid hh
  have HT := Lib.hid ht
  have HN := Lib.hid (And.intro h0 hm)
  have HSL := Lib.hid hsl
  clear hst hbk hh hW1 hpb h ht h0 hm hsl hp hmw
  simp only at HA HSL ⊢
  generalize slt (p1, p2) = s0 at *
  unfold ptr at *
  go_enter Try.func34, Try.ntmps34
  go_wp2_with (rw [X.out.1, X.out.2])
  refine HA.out.mono ?_
  rintro e w2 ⟨rfl, hs2⟩
  have HS2 := Lib.hid (HS.out.then hs2 (by simp))
  have HH2 := Lib.hid (HH.out.step0 hs2)
  clear hs2 HA HH HS c0 c1
  go_wp2_with fail
  refine (sclone_map (mb s0) ks.length _ w2 (HH2.out.mp s0 HSL.out)).mono ?_
  rintro e w3 ⟨rfl, hm3, hs3⟩
  have HS3 := Lib.hid (HS2.out.then hs3 (by simp))
  have HH3 := Lib.hid (HH2.out.step0 hs3)
  have hnb := HS2.out.size
  generalize hnbe : w2.heap.size = nb at *
  obtain ⟨w4, hrun, hm4, hs4⟩ := (HH3.out.mp s0 HSL.out).clear_run Try.underlying62
  have hnbm : nb ∉ mapsF mb hb := fun hk => by have := HMW.out nb hk; omega
  have hin : mb s0 ∈ mapsF mb hb := mem_mapsF.2 (.inr ⟨s0, HSL.out, rfl⟩)
  have HN4 := Lib.hid (And.intro hnbm hin)
  have HM4 := Lib.hid (hm3.step hs4 (by intro hk; simp at hk; exact hnbm (hk ▸ hin)))
  have HH4 := Lib.hid (HH3.out.turn HSL.out hs4 hm4 (Nat.le_refl _))
  have HS4 := Lib.hid ((HS3.out.mono (G := mapsF mb hb) (by simp)).trans (hs4.mono (G := mapsF mb hb) (by intro k hk; simp at hk; subst hk; exact hin)) (fun k hk => .inl hk))
  clear hm3 hs3 hm4 hs4 hnbm hin HS2 HH2 HS3 HH3 hnbe
  have HNB := Lib.hid hnb
  clear hnb
  go_wp2_with (at_range; refine wpList_rng nmK atE rfl _ _ 2 rfl Try.underlying62 rfl HM4.out ?_; intro w5 cnt5 hR5 hs5)
  have hlr : ∀ k, k ∈ mapsF mb hb → k < w4.heap.size := fun k hk => Nat.lt_of_lt_of_le (HMW.out k hk) HS4.out.size
  have hnr : nb < w4.heap.size := HM4.out.lt
  generalize hrb : w4.heap.size = rb at *
  have HR := Lib.hid (And.intro hlr hnr)
  have HWR := Lib.hid (show w.heap.size ≤ rb from by have := HS4.out.size; omega)
  have HR5 := Lib.hid hR5
  have HS5 := Lib.hid (HS4.out.then hs5 (by simp))
  have HH5 := Lib.hid (HH4.out.step0 hs5)
  obtain ⟨cs1, cs2⟩ := casc_start now T π s0
  rw [← cs1, ← cs2] at HH5
  clear hrun hlr hnr hrb hR5 hs5 HM4 HH4 cs1 cs2
  go_frame
  go_loopw [16] (fun _ wr => ∃ (left : ByteArray → Bool) (cnt : Nat), (∀ x, left x = true → slt (π x) = s0 ∧ (T x).isSome = true) ∧ MapR nmK atE wr nb rb ks.length (SL T π s0) left cnt ∧ Wh wr wb mb hb now most ks.length (WL T (piL now T π s0 left)) (SB T (piL now T π s0 left) left) ∧ Step (rb :: mapsF mb hb) w wr) (fun _ wr => wr.rangeLeft nb rb)
  case atStart =>
    refine ⟨_, cnt5, fun x hx => ?_, HR5.out, HH5.out, HS5.out.mono (fun k hk => List.mem_cons_of_mem _ hk)⟩
    unfold SL at hx
    by_cases h : slt (π x) = s0
    · simp [h] at hx
      exact ⟨h, hx⟩
    · simp [h] at hx
  case round =>
    obtain ⟨left, cnt, hl, hR, hH, hs⟩ := hrel
    have HL := Lib.hid hl
    have HRr := Lib.hid hR
    have HHr := Lib.hid hH
    have HSr := Lib.hid hs
    clear hl hR hH hs HR5 HH5 HS5
    go_wp2_with (at_next; refine wpList_nxt nmK atE rfl _ rfl rfl HRr.out ?_ ?_)
    · intro _ hl0
      have hfin := HHr.out.congr (fun x hx => (casc_end now T π s0 left x (hl0 x hx)).1) (fun s x hx => (casc_end now T π s0 left x (hl0 x hx)).2 s)
      have hst : Step (mapsF mb hb) w wr := ⟨HSr.out.os, HSr.out.tape, HSr.out.output, HSr.out.size, fun k hk hn => HSr.out.block k hk (fun hm => by
        rcases List.mem_cons.1 hm with rfl | hm
        · have := HWR.out; omega
        · exact hn hm)⟩
      have HF := Lib.hid (And.intro hfin hst)
      clear hfin hst HRr HHr HSr hl0
      go_wp2_with fail
      go_end0
      exact ⟨rfl, HF.out.1, HF.out.2⟩
    · intro x a w6 cnt6 hgx hlx hfx hR6 hlt hs6 hen
      obtain ⟨hx1, hx2⟩ := HL.out x hlx
      have hTx : T x = some a := by
        unfold SL at hfx
        simpa [hx1] using hfx
      have hrm : rb ∉ mapsF mb hb := fun hk => by have := HR.out.1 rb hk; omega
      have hwr : wb ∉ [rb] := fun hk => by
        have h1 := HWB.out
        have h2 := HWR.out
        simp at hk
        omega
      have hH6 := HHr.out.step hs6 hwr (fun hk => hrm (mem_mapsF.2 (.inl (by simp at hk; exact hk.symm)))) (fun s hs hk => hrm (mem_mapsF.2 (.inr ⟨s, hs, by simpa using hk⟩)))
      have hS6 := HSr.out.trans (hs6.mono (G := rb :: mapsF mb hb) (by simp)) (fun k hk => .inl hk)
      have HC := Lib.hid (wput_any wb mb hb now most ks.length _ _ x a w6 hH6 HN.out.1 (HT.out.bd x a hTx).1 HN.out.2 (HT.out.bd x a hTx).2 hgx (by have := HT.out.len; unfold maxLen; omega))
      have HR6 := Lib.hid hR6
      have HS6 := Lib.hid hS6
      have HI := Lib.hid (And.intro hlt (And.intro hx1 (And.intro hTx hlx)))
      clear hR6 hH6 hS6 hs6 hwr hrm hlt hx1 hx2 hTx HHr HSr hlx hfx
      unfold ptr at HC
      go_wp2_with fail
      refine HC.out.mono ?_
      rintro e w7 ⟨rfl, hH7, hs7⟩
      obtain ⟨st1, st2⟩ := casc_step now T π s0 left x a HI.out.2.2.1 HI.out.2.1 HI.out.2.2.2
      rw [st1, st2] at hH7
      have hH7 := HT.out.shrinkL hH7
      have hR7 := HR6.out.step hs7 HN4.out.1 (fun hk => by have := HR.out.1 rb hk; omega)
      have HG := Lib.hid (And.intro hH7 (And.intro hR7 (HS6.out.trans (hs7.mono (G := rb :: mapsF mb hb) (fun k hk => List.mem_cons_of_mem _ hk)) (fun k hk => .inl hk))))
      clear hH7 hR7 hs7 st1 st2 HC HR6 HS6
      go_wp2_with fail
      go_roundw
      case rel => exact ⟨_, cnt6, fun y hy => HL.out y (by simp at hy; exact hy.1), HG.out.2.1, HG.out.1, HG.out.2.2⟩
      case measure => rw [HG.out.2.1.cnt_eq, HRr.out.cnt_eq]; exact HI.out.1
end Go.Proofs.Ytmfplcmncipojaa
