/- wheel.leap: everything is put anew. -/
import Derived.Test.YtmfplcmncipojaaWhC
import Derived.Carry
namespace Go.Proofs.Ytmfplcmncipojaa
set_option linter.unusedVariables false
set_option linter.unusedSimpArgs false
open Go.RowKit Go.Maps

theorem Wh.setNow' {w : World} {wb : Nat} {mb : Nat → Nat} {hb : Nat} {now most : Int} {n : Nat} {W : ByteArray → Option (Int × Int)} {S : Nat → ByteArray → Option Int} (h : Wh w wb mb hb now most n W S) (t : Int) : Wh (w.setCell ⟨wb, 0, none⟩ (.int .i64 t)) wb mb hb t most n W S := by
  have hs := (Step.refl [wb] w).setCell (b := wb) (.inl (by simp)) 0 (.int .i64 t)
  exact ⟨h.blk.set 0 (.int .i64 t), fun s hl => (h.mp s hl).step hs (by have := h.dw s hl; simpa using this), h.wh.step hs (by have := h.dx; simpa using this), h.dj, h.dh, h.dw, h.dx⟩
/-- those that aren't left are put anew -/
def piA (now : Int) (T : ByteArray → Option Int) (π : ByteArray → Int × Int) (left : ByteArray → Bool) : ByteArray → Int × Int := fun x => if left x = false then fnd now ((T x).getD 0) else π x
theorem leap_start (now : Int) (T : ByteArray → Option Int) (π : ByteArray → Int × Int) : WL T (piA now T π fun x => (T x).isSome) = WL T π ∧ SB T (piA now T π fun x => (T x).isSome) (fun x => (T x).isSome) = fun _ _ => none := by
  constructor
  · funext x
    unfold WL piA
    cases hT : T x <;> simp [hT]
  · funext t x
    unfold SB piA
    cases hT : T x <;> simp [hT]
theorem leap_step (now : Int) (T : ByteArray → Option Int) (π : ByteArray → Int × Int) (left : ByteArray → Bool) (x : ByteArray) (a : Int) (hx : T x = some a) (hl : left x = true) :
    upd (WL T (piA now T π left)) x (some (fnd now a)) = WL T (piA now T π fun y => left y && !decide (y = x))
    ∧ updS (SB T (piA now T π left) left) (slt (fnd now a)) (upd (SB T (piA now T π left) left (slt (fnd now a))) x (some a)) = SB T (piA now T π fun y => left y && !decide (y = x)) (fun y => left y && !decide (y = x)) := by
  constructor
  · funext y
    unfold upd WL piA
    by_cases h : y = x
    · subst h
      simp [hx]
    · simp [h]
  · funext t y
    unfold updS upd SB piA
    by_cases h : y = x
    · subst h
      by_cases h2 : t = slt (fnd now a)
      · simp [h2, hx]
      · have h3 : ¬ slt (fnd now a) = t := fun e => h2 e.symm
        simp [h2, hx, hl, h3]
    · by_cases h2 : t = slt (fnd now a) <;> simp [h, h2]
theorem Tim.shrinkM {w : World} {b n : Nat} {T g : ByteArray → Option Int} {ks : List ByteArray} (ht : Tim T ks) (h : MapF nmK atE w b n g) (hg : ∀ x : ByteArray, x.size ≤ maxLen → g x ≠ none → T x ≠ none) : MapF nmK atE w b ks.length g := by
  have h1 := h.shrink (ks.filter fun x => (g x).isSome) (ht.nd.filter _) (fun x hx => by
    rw [List.mem_filter]
    constructor
    · intro h2
      exact ⟨(ht.mem x hx).1 (hg x hx h2), by simpa [Option.isSome_iff_ne_none] using h2⟩
    · rintro ⟨_, h2⟩
      simpa [Option.isSome_iff_ne_none] using h2) (fun x hx => ht.good x (List.mem_filter.1 hx).1)
  exact h1.mono (List.length_filter_le _ _)
/-- the slots below are empty -/
def clrS (S : Nat → ByteArray → Option Int) (s : Nat) : Nat → ByteArray → Option Int := fun t => if t < s then fun _ => none else S t
theorem clrS_next (S : Nat → ByteArray → Option Int) (s : Nat) : updS (clrS S s) s (fun _ => none) = clrS S (s + 1) := by
  funext t
  unfold updS clrS
  by_cases h : t = s
  · subst h
    simp
  · by_cases h2 : t < s
    · rw [if_neg h, if_pos h2, if_pos (by omega)]
    · rw [if_neg h, if_neg h2, if_neg (by omega)]

theorem Wh.congr2 {w : World} {wb : Nat} {mb : Nat → Nat} {hb : Nat} {now most : Int} {n : Nat} {W W' : ByteArray → Option (Int × Int)} {S S' : Nat → ByteArray → Option Int} (h : Wh w wb mb hb now most n W S) (hW : ∀ x : ByteArray, x.size ≤ maxLen → W x = W' x) (hS : ∀ s, s < 258 → ∀ x : ByteArray, x.size ≤ maxLen → S s x = S' s x) : Wh w wb mb hb now most n W' S' where
  blk := h.blk
  mp := fun s hs => (h.mp s hs).congr (hS s hs)
  wh := h.wh.congr hW
  dj := h.dj
  dh := h.dh
  dw := h.dw
  dx := h.dx
theorem nmK_val (x : ByteArray) : nmK.val x = .string x := rfl
theorem plE_val (c1 c2 : Int) : plE.val (c1, c2) = .agg #[.int .i64 c1, .int .i64 c2] := rfl
theorem atE_val (a : Int) : atE.val a = .int .i64 a := rfl
theorem zero64 (w : World) : (zeroValue 2).run Try.prog w = .ok (atE.val 0) w := by kernel_rfl
theorem take_step {T : ByteArray → Option Int} {left : ByteArray → Bool} {x : ByteArray} {a : Int} (hx : T x = some a) : upd (fun y => if left y then none else T y) x (some a) = fun y => if (left y && !decide (y = x)) then none else T y := by
  funext y
  unfold upd
  by_cases h : y = x
  · subst h
    simp [hx]
  · simp [h]

set_option maxRecDepth 20000 in
set_option maxHeartbeats 8000000 in
theorem wleap_any (wb : Nat) (mb : Nat → Nat) (hb : Nat) (now tt most : Int) (T : ByteArray → Option Int) (ks : List ByteArray) (π : ByteArray → Int × Int) (w : World) (h : Wh w wb mb hb now most ks.length (WL T π) (SL T π)) (ht : Tim T ks) (hπ : ∀ x, okP (π x)) (h0 : 0 ≤ tt) (hm : tt ≤ 1099511627776) :
    Calls Try.prog 24 #[ptr wb, .int .i64 tt] w fun e w' => e = .returned (.tuple #[]) ∧ Wh w' wb mb hb tt most ks.length (WL T fun x => fnd tt ((T x).getD 0)) (SL T fun x => fnd tt ((T x).getD 0)) ∧ Step (wb :: mapsF mb hb) w w' := by
  have hmm := @run_makeMap Try.prog
  have c0 := h.cnow
  have f0 := h.blk.free 0
  have hlt : ∀ k, k ∈ wb :: mapsF mb hb → k < w.heap.size := fun k hk => by
    rcases List.mem_cons.1 hk with rfl | hk
    · exact h.blk.lt
    · rcases mem_mapsF.1 hk with rfl | ⟨s, hs, rfl⟩
      · exact h.wh.lt
      · exact (h.mp s hs).lt
  have HLT := Lib.hid hlt
  have hh1 := (h.setNow' tt).step0 ((Step.refl [] _).alloc (.map #[] 0))
  have hs1 := ((Step.refl [wb] w).setCell (b := wb) (.inl (by simp)) 0 (.int .i64 tt)).alloc (.map #[] 0)
  have hmp1 := MapF.made nmK atE (w.setCell ⟨wb, 0, none⟩ (.int .i64 tt))
  generalize hW1 : (w.setCell ⟨wb, 0, none⟩ (.int .i64 tt)).alloc (.map #[] 0) = W1 at *
  rw [World.size_setCell] at hmp1
  have X := Lib.hid hW1
  have HH1 := Lib.hid hh1
  have c260 := hh1.where_
  have HS1 := Lib.hid (hs1.mono (G := wb :: mapsF mb hb) (by intro k hk; simp at hk; subst hk; exact List.mem_cons_self))
  have HM1 := Lib.hid hmp1
  have HT := Lib.hid ht
  have HP := Lib.hid hπ
  clear hW1 hh1 hs1 hmp1 h ht hπ hlt
  unfold ptr
  go_enter Try.func24, Try.ntmps24
  go_wp2_with (first | rw [X.out] | (at_range; refine wpList_rng nmK plE rfl _ _ 70 rfl Try.underlying63 rfl HH1.out.wh ?_; intro w2 cnt2 hR2 hs2))
  have hab : w.heap.size ∉ wb :: mapsF mb hb := fun hk => Nat.lt_irrefl _ (HLT.out _ hk)
  have hrl : ∀ k, k ∈ wb :: mapsF mb hb → k < W1.heap.size := fun k hk => Nat.lt_of_lt_of_le (HLT.out k hk) HS1.out.size
  have hal : w.heap.size < W1.heap.size := HM1.out.lt
  generalize hrb : W1.heap.size = rb at *
  generalize habe : w.heap.size = ab at *
  have HB := Lib.hid (And.intro hab (And.intro hrl (And.intro hal habe)))
  have HR2 := Lib.hid hR2
  have HS2 := Lib.hid (HS1.out.then hs2 (by simp))
  have HH2 := Lib.hid (HH1.out.step0 hs2)
  have HM2 := Lib.hid (HM1.out.step hs2 (by simp))
  have hrm : rb ∉ wb :: mapsF mb hb := fun hk => Nat.lt_irrefl _ (hrl _ hk)
  have HRM := Lib.hid hrm
  clear hab hrl hal hrb habe hR2 hs2 hrm HH1 HS1 HM1 c260 c0 f0
  go_frame
  go_loopw [21] (fun _ wr => ∃ (left : ByteArray → Bool) (cnt : Nat), (∀ x, left x = true → (T x).isSome = true) ∧ MapR nmK plE wr hb rb ks.length (WL T π) left cnt ∧ MapF nmK atE wr ab ks.length (fun x => if left x then none else T x) ∧ Wh wr wb mb hb tt most ks.length (WL T π) (SL T π) ∧ Step (rb :: ab :: wb :: mapsF mb hb) w wr) (fun _ wr => wr.rangeLeft hb rb)
  case atStart =>
    refine ⟨_, cnt2, fun x hx => ?_, HR2.out, ?_, HH2.out, HS2.out.mono (fun k hk => List.mem_cons_of_mem _ (List.mem_cons_of_mem _ hk))⟩
    · unfold WL at hx
      simpa using hx
    · refine (HM2.out.mono (Nat.zero_le _)).congr (fun x hx => ?_)
      unfold WL
      cases T x <;> simp
  case round =>
    obtain ⟨left, cnt, hl, hR, hM, hH, hs⟩ := hrel
    have HL := Lib.hid hl
    have HRr := Lib.hid hR
    have HMr := Lib.hid hM
    have HHr := Lib.hid hH
    have HSr := Lib.hid hs
    clear hl hR hM hH hs HR2 HS2 HH2 HM2
    go_wp2_with (at_next; refine wpList_nxt nmK plE rfl _ rfl rfl HRr.out ?_ ?_)
    · intro _ hl0
      have hm2 := HMr.out.congr (g := T) (fun x hx => by rw [hl0 x hx]; rfl)
      have HMT := Lib.hid hm2
      clear hm2 hl0 HRr HMr
      go_wp2_with fail
      go_loopw [33] (fun i w2 => ∃ k : Nat, i = .int .i64 k ∧ k ≤ 4 ∧ MapF nmK atE w2 ab ks.length T ∧ Wh w2 wb mb hb tt most ks.length (WL T π) (clrS (SL T π) (64 * k)) ∧ Step (rb :: ab :: wb :: mapsF mb hb) w w2) (fun i _ => 4 - (intOf i).toNat)
      case atStart => exact ⟨0, rfl, by omega, HMT.out, HHr.out, HSr.out⟩
      case round =>
        obtain ⟨k, rfl, hk, hM, hH, hs⟩ := hrel
        have HM2 := Lib.hid hM
        have HH2 := Lib.hid hH
        have HS2 := Lib.hid hs
        clear hM hH hs HMT HHr HSr
        by_cases hk4 : k < 4
        · have hk4' : (k : Int) < 4 := by omega
          go_wp2_with fail
          go_loopw [36] (fun j w3 => ∃ m : Nat, j = .int .i64 m ∧ m ≤ 64 ∧ MapF nmK atE w3 ab ks.length T ∧ Wh w3 wb mb hb tt most ks.length (WL T π) (clrS (SL T π) (64 * k + m)) ∧ Step (rb :: ab :: wb :: mapsF mb hb) w w3) (fun j _ => 64 - (intOf j).toNat)
          case atStart => exact ⟨0, rfl, by omega, HM2.out, HH2.out, HS2.out⟩
          case round =>
            obtain ⟨m, rfl, hm, hM, hH, hs⟩ := hrel
            by_cases hm4 : m < 64
            · have hm4' : (m : Int) < 64 := by omega
              have d0 := hH.slot (s := 64 * k + m) (by omega)
              rw [show 2 + (64 * k + m) = 2 + k * 64 + m by omega] at d0
              obtain ⟨w4, hrun, hm4m, hs4⟩ := (hH.mp (64 * k + m) (by omega)).clear_run Try.underlying62
              have hH4 := hH.turn (show 64 * k + m < 258 by omega) hs4 hm4m (Nat.le_refl _)
              rw [clrS_next, show 64 * k + m + 1 = 64 * k + (m + 1) by omega] at hH4
              have hin : mb (64 * k + m) ∈ wb :: mapsF mb hb := List.mem_cons_of_mem _ (mem_mapsF.2 (.inr ⟨_, by omega, rfl⟩))
              have hM4 := hM.step hs4 (by simp; exact fun e => HB.out.1 (by rw [e]; exact hin))
              have HG := Lib.hid (And.intro hM4 (And.intro hH4 (hs.trans (hs4.mono (G := rb :: ab :: wb :: mapsF mb hb) (by intro q hq; simp at hq; subst hq; exact List.mem_cons_of_mem _ (List.mem_cons_of_mem _ hin))) (fun q hq => .inl hq))))
              clear hM hH hs hm4m hs4 hH4 hin hM4
              go_wp2_with fail
              go_roundw
              case rel => exact ⟨m + 1, by go_num, by omega, HG.out.1, HG.out.2.1, HG.out.2.2⟩
              case measure => simp [intOf]; omega
            · have hm4' : ¬ (m : Int) < 64 := by omega
              have hme : 64 * k + m = 64 * (k + 1) := by omega
              rw [hme] at hH
              have HG := Lib.hid (And.intro hM (And.intro hH hs))
              clear hM hH hs
              go_wp2_with fail
              go_roundw
              case rel => exact ⟨k + 1, by go_num, by omega, HG.out.1, HG.out.2.1, HG.out.2.2⟩
              case measure => simp [intOf]; omega
        · have hk4' : ¬ (k : Int) < 4 := by omega
          have hke : 64 * k = 256 := by omega
          rw [hke] at HH2
          have d0 := HH2.out.far
          obtain ⟨w4, hrun4, hm4m, hs4⟩ := (HH2.out.mp 256 (by omega)).clear_run Try.underlying62
          have hH4 := HH2.out.turn (show 256 < 258 by omega) hs4 hm4m (Nat.le_refl _)
          rw [clrS_next] at hH4
          have d1 := hH4.due
          obtain ⟨w5, hrun5, hm5m, hs5⟩ := (hH4.mp 257 (by omega)).clear_run Try.underlying62
          have hH5 := hH4.turn (show 257 < 258 by omega) hs5 hm5m (Nat.le_refl _)
          rw [clrS_next] at hH5
          have hin4 : mb 256 ∈ wb :: mapsF mb hb := List.mem_cons_of_mem _ (mem_mapsF.2 (.inr ⟨_, by omega, rfl⟩))
          have hin5 : mb 257 ∈ wb :: mapsF mb hb := List.mem_cons_of_mem _ (mem_mapsF.2 (.inr ⟨_, by omega, rfl⟩))
          have hM5 := (HM2.out.step hs4 (by simp; exact fun e => HB.out.1 (by rw [e]; exact hin4))).step hs5 (by simp; exact fun e => HB.out.1 (by rw [e]; exact hin5))
          have hS5 := (HS2.out.trans (hs4.mono (G := rb :: ab :: wb :: mapsF mb hb) (by intro q hq; simp at hq; subst hq; exact List.mem_cons_of_mem _ (List.mem_cons_of_mem _ hin4))) (fun q hq => .inl hq)).trans (hs5.mono (G := rb :: ab :: wb :: mapsF mb hb) (by intro q hq; simp at hq; subst hq; exact List.mem_cons_of_mem _ (List.mem_cons_of_mem _ hin5))) (fun q hq => .inl hq)
          obtain ⟨ls1, ls2⟩ := leap_start tt T π
          have hH5' := hH5.congr2 (W' := WL T (piA tt T π fun x => (T x).isSome)) (S' := SB T (piA tt T π fun x => (T x).isSome) (fun x => (T x).isSome)) (fun x hx => by rw [ls1]) (fun s hs x hx => by
            rw [ls2]
            unfold clrS
            rw [if_pos (by omega)])
          have HM5 := Lib.hid hM5
          have HH5 := Lib.hid hH5'
          have HS5 := Lib.hid hS5
          clear hm4m hs4 hH4 hm5m hs5 hH5 hin4 hin5 hM5 hS5 ls1 ls2 hH5' HM2 HH2 HS2
          go_wp2_with (at_range; refine wpList_rng nmK atE rfl _ _ 2 rfl Try.underlying31 rfl HM5.out ?_; intro w6 cnt6 hR6 hs6)
          have hrl : ∀ q, q ∈ wb :: mapsF mb hb → q < w5.heap.size := fun q hq => Nat.lt_of_lt_of_le (HLT.out q hq) (by have := HS5.out.size; have := HB.out.2.2.2; omega)
          have hal : ab < w5.heap.size := HM5.out.lt
          generalize hrb2 : w5.heap.size = rc at *
          have HC2 := Lib.hid (And.intro hrl (And.intro hal (show ab ≤ rc by omega)))
          have HR6 := Lib.hid hR6
          have HH6 := Lib.hid (HH5.out.step0 hs6)
          have HS6 := Lib.hid ((HS5.out.then hs6 (by simp)).mono (G := rc :: rb :: ab :: wb :: mapsF mb hb) (fun q hq => List.mem_cons_of_mem _ hq))
          clear hrl hal hrb2 hR6 hs6 HM5 HH5 HS5 hrun4 hrun5 d0 d1
          go_loopw [59] (fun _ wr => ∃ (left : ByteArray → Bool) (cnt : Nat), (∀ x, left x = true → (T x).isSome = true) ∧ MapR nmK atE wr ab rc ks.length T left cnt ∧ Wh wr wb mb hb tt most ks.length (WL T (piA tt T π left)) (SB T (piA tt T π left) left) ∧ Step (rc :: rb :: ab :: wb :: mapsF mb hb) w wr) (fun _ wr => wr.rangeLeft ab rc)
          case atStart => exact ⟨_, cnt6, fun x hx => hx, HR6.out, HH6.out, HS6.out⟩
          case round =>
            obtain ⟨left, cnt, hl, hR, hH, hs⟩ := hrel
            have HL := Lib.hid hl
            have HRr := Lib.hid hR
            have HHr := Lib.hid hH
            have HSr := Lib.hid hs
            clear hl hR hH hs HR6 HH6 HS6
            go_wp2_with (at_next; refine wpList_nxt nmK atE rfl _ rfl rfl HRr.out ?_ ?_)
            · intro _ hl0
              have hfin := HHr.out.congr (W' := WL T fun x => fnd tt ((T x).getD 0)) (S' := SL T fun x => fnd tt ((T x).getD 0)) (fun x hx => by unfold WL piA; rw [hl0 x hx]; rfl) (fun s x hx => by unfold SB SL piA; rw [hl0 x hx]; simp)
              have hst : Step (wb :: mapsF mb hb) w wr := ⟨HSr.out.os, HSr.out.tape, HSr.out.output, HSr.out.size, fun q hq hn => HSr.out.block q hq (fun hm => by
                have h1 := HB.out.2.2.1
                have h2 := HB.out.2.2.2
                have h3 := HC2.out.2.2
                rcases List.mem_cons.1 hm with rfl | hm
                · omega
                · rcases List.mem_cons.1 hm with rfl | hm
                  · omega
                  · rcases List.mem_cons.1 hm with rfl | hm
                    · omega
                    · exact hn hm)⟩
              have HF := Lib.hid (And.intro hfin hst)
              clear hfin hst HRr HHr HSr hl0
              go_wp2_with fail
              go_end0
              exact ⟨rfl, HF.out.1, HF.out.2⟩
            · intro x a w7 cnt7 hgx hlx hfx hR7 hlt hs7 hen
              have hrm : rc ∉ wb :: mapsF mb hb := fun hq => Nat.lt_irrefl _ (HC2.out.1 _ hq)
              have hH7 := HHr.out.step hs7 (by simp; exact fun e => hrm (by rw [← e]; exact List.mem_cons_self)) (by simp; exact fun e => hrm (by rw [← e]; exact List.mem_cons_of_mem _ (mem_mapsF.2 (.inl rfl)))) (fun s hs => by simp; exact fun e => hrm (by rw [← e]; exact List.mem_cons_of_mem _ (mem_mapsF.2 (.inr ⟨s, hs, rfl⟩))))
              have HC := Lib.hid (wput_any wb mb hb tt most ks.length _ _ x a w7 hH7 h0 (HT.out.bd x a hfx).1 hm (HT.out.bd x a hfx).2 hgx (by have := HT.out.len; unfold maxLen; omega))
              have HR7 := Lib.hid hR7
              have HS7 := Lib.hid (HSr.out.trans (hs7.mono (G := rc :: rb :: ab :: wb :: mapsF mb hb) (by simp)) (fun q hq => .inl hq))
              have HI := Lib.hid (And.intro hlt (And.intro hfx hlx))
              clear hR7 hH7 hs7 hlt hfx hlx HHr HSr hrm
              unfold ptr at HC
              simp only [nmK_val, atE_val] at hen ⊢
              go_wp2_with fail
              refine HC.out.mono ?_
              rintro e w8 ⟨rfl, hH8, hs8⟩
              obtain ⟨st1, st2⟩ := leap_step tt T π left x a HI.out.2.1 HI.out.2.2
              rw [st1, st2] at hH8
              have hH8 := HT.out.shrinkL hH8
              have hR8 := HR7.out.step hs8 (fun hq => HB.out.1 (List.mem_cons_of_mem _ hq)) (fun hq => Nat.lt_irrefl _ (HC2.out.1 _ (List.mem_cons_of_mem _ hq)))
              have HG := Lib.hid (And.intro hH8 (And.intro hR8 (HS7.out.trans (hs8.mono (G := rc :: rb :: ab :: wb :: mapsF mb hb) (fun q hq => by simp only [List.mem_cons]; exact .inr (.inr (.inr (.inr hq))))) (fun q hq => .inl hq))))
              clear hH8 hR8 hs8 st1 st2 HC HR7 HS7
              go_wp2_with fail
              go_roundw
              case rel => exact ⟨_, cnt7, fun y hy => HL.out y (by simp at hy; exact hy.1), HG.out.2.1, HG.out.1, HG.out.2.2⟩
              case measure => rw [HG.out.2.1.cnt_eq, HRr.out.cnt_eq]; exact HI.out.1
    · intro x c1 c2 w3 cnt3 hgx hlx hfx hR3 hlt hs3 hen
      obtain ⟨a, hTx⟩ := Option.isSome_iff_exists.1 (HL.out x hlx)
      have hcx : π x = (c1, c2) := by
        unfold WL at hfx
        rw [hTx] at hfx
        simpa using hfx
      have hH3 := HHr.out.step hs3 (by simp; exact fun e => HRM.out (by rw [← e]; exact List.mem_cons_self)) (by simp; exact fun e => HRM.out (by rw [← e]; exact List.mem_cons_of_mem _ (mem_mapsF.2 (.inl rfl)))) (fun s hs => by simp; exact fun e => HRM.out (by rw [← e]; exact List.mem_cons_of_mem _ (mem_mapsF.2 (.inr ⟨s, hs, rfl⟩))))
      have hal4 := (Step.refl [] w3).alloc (.cells #[.int .i64 c1, .int .i64 c2] 70)
      have hH4 := hH3.step0 hal4
      have hbk := Blk.new w3 #[.int .i64 c1, .int .i64 c2] 70
      generalize hW4 : w3.alloc (.cells #[.int .i64 c1, .int .i64 c2] 70) = w4 at *
      have X4 := Lib.hid hW4
      have HH4 := Lib.hid hH4
      have HC := Lib.hid (wat_any wb mb hb tt most ks.length (WL T π) (SL T π) (c1, c2) w4 hH4 (by rw [← hcx]; exact HP.out x))
      have HR4 := Lib.hid (hR3.step hal4 (by simp) (by simp))
      have hab3 : rb ≠ ab := by have := HB.out.2.2.1; omega
      have HM4 := Lib.hid ((HMr.out.step hs3 (by simp; exact fun e => hab3 e.symm)).step hal4 (by simp))
      have HS4 := Lib.hid ((HSr.out.trans (hs3.mono (G := rb :: ab :: wb :: mapsF mb hb) (by simp)) (fun k hk => .inl hk)).then hal4 (by simp))
      have HI := Lib.hid (And.intro hgx (And.intro hlx (And.intro hTx (And.intro hlt hcx))))
      have e0 : w4.cell? ⟨w3.heap.size, 0, none⟩ = some (.int .i64 c1) := hbk.cell 0
      have e1 : w4.cell? ⟨w3.heap.size, 1, none⟩ = some (.int .i64 c2) := hbk.cell 1
      unfold ptr at HC
      clear hH3 hal4 hH4 hbk hW4 hR3 hs3 hgx hlx hTx hlt hfx HMr hab3 hcx
      simp only [nmK_val, plE_val] at hen ⊢
      go_wp2_with (rw [X4.out])
      refine HC.out.mono ?_
      rintro e w5 ⟨rfl, hs5⟩
      have HH5 := Lib.hid (HH4.out.step0 hs5)
      have HR5 := Lib.hid (HR4.out.step hs5 (by simp) (by simp))
      have HM5 := Lib.hid (HM4.out.step hs5 (by simp))
      have HS5 := Lib.hid (HS4.out.then hs5 (by simp))
      have hsl5 : slt (c1, c2) < 258 := slt_lt (by have := HP.out x; rw [HI.out.2.2.2.2] at this; exact this)
      have hval : (SL T π (slt (c1, c2)) x).getD 0 = a := by
        unfold SL
        rw [HI.out.2.2.2.2, if_pos rfl, HI.out.2.2.1]
        rfl
      have HV := Lib.hid (And.intro hsl5 hval)
      clear hs5 hsl5 hval e0 e1 HC HH4 HR4 HM4 HS4
      go_wp2_with (first
        | (at_lookup; refine wpList_look nmK atE rfl _ _ _ 2 rfl Try.underlying62 0 (zero64 _) rfl (HH5.out.mp _ HV.out.1) x rfl HI.out.1 ?_; rw [HV.out.2])
        | (at_mapUpdate; refine wpList_store nmK atE rfl _ _ _ 31 2 rfl Try.underlying31 rfl HM5.out (by have := HT.out.len; unfold maxLen; omega) x rfl HI.out.1 a rfl ?_; intro w6 hm6 hs6; go_frame))
      rw [take_step HI.out.2.2.1] at hm6
      have hm7 := HT.out.shrinkM hm6 (fun y _ hy hTy => by
        rw [hTy] at hy
        simp at hy)
      have habm : ab ∉ wb :: mapsF mb hb := HB.out.1
      have hne : hb ≠ ab := fun e => habm (by rw [← e]; exact List.mem_cons_of_mem _ (mem_mapsF.2 (.inl rfl)))
      have hR7 := HR5.out.step hs6 (by simpa using hne) (by have := HB.out.2.2.1; simp; omega)
      have hH7 := HH5.out.step hs6 (by simp; exact fun e => habm (by rw [← e]; exact List.mem_cons_self)) (by simpa using hne) (fun s hs => by simp; exact fun e => habm (by rw [← e]; exact List.mem_cons_of_mem _ (mem_mapsF.2 (.inr ⟨s, hs, rfl⟩))))
      have HG := Lib.hid (And.intro hm7 (And.intro hR7 (And.intro hH7 (HS5.out.trans (hs6.mono (G := rb :: ab :: wb :: mapsF mb hb) (by simp)) (fun k hk => .inl hk)))))
      clear hm6 hs6 hm7 habm hne hR7 hH7 HR5 HM5 HH5 HS5
      go_roundw
      case rel => exact ⟨_, cnt3, fun y hy => HL.out y (by simp at hy; exact hy.1), HG.out.2.1, HG.out.1, HG.out.2.2.1, HG.out.2.2.2⟩
      case measure => rw [HG.out.2.1.cnt_eq, HRr.out.cnt_eq]; exact HI.out.2.2.2.1
end Go.Proofs.Ytmfplcmncipojaa
