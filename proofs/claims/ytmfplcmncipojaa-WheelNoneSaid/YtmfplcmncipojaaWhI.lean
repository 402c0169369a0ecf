/- wheel.Turn. -/
import Derived.Test.YtmfplcmncipojaaWhH
import Derived.Test.YtmfplcmncipojaaWhF
import Derived.Test.YtmfplcmncipojaaWhDz
import Derived.Deep.AppendLies
namespace Go.Proofs.Ytmfplcmncipojaa
set_option linter.unusedVariables false
set_option linter.unusedSimpArgs false
open Go.RowKit Go.Maps

theorem Try.infoTm : (Try.prog.info? 37).map (fun i => (i.zero, i.size, i.bytes)) = some (some (.agg #[.string ByteArray.empty, .int .i64 0]), 2, 24) := by kernel_rfl
theorem infoTm_parts : ∃ i : TypeInfo, Try.prog.info? 37 = some i ∧ i.zero = some (.agg #[.string ByteArray.empty, .int .i64 0]) ∧ i.size = 2 ∧ i.bytes = 24 := by
  have h := Try.infoTm
  cases e : Try.prog.info? 37 with
  | none => rw [e] at h; cases h
  | some i =>
    rw [e] at h
    simp at h
    exact ⟨i, rfl, h.1, h.2.1, h.2.2⟩
/-- those that are due -/
def dueT (tt : Int) (T : ByteArray → Option Int) : ByteArray → Option Int := fun x => SL T (PI tt T) 257 x
theorem dueT_eq (tt : Int) (T : ByteArray → Option Int) (x : ByteArray) : dueT tt T x = (T x).bind fun a => if a ≤ tt then some a else none := by
  unfold dueT SL PI
  cases hT : T x with
  | none => simp
  | some a =>
    by_cases h : a ≤ tt
    · have h1 : slt (fnd tt a) = 257 := by rw [fnd_due h]; rfl
      simp [h, h1]
    · have h1 : ¬ slt (fnd tt a) = 257 := fun e => h (fnd_due_iff.1 (slt_inj (fnd_ok tt a) (Or.inl ⟨rfl, rfl⟩) e))
      simp [h, h1]
/-- those that are left -/
def restT (tt : Int) (T : ByteArray → Option Int) : ByteArray → Option Int := fun x => if (dueT tt T x).isSome then none else T x
theorem restT_eq (tt : Int) (T : ByteArray → Option Int) (x : ByteArray) : restT tt T x = (T x).bind fun a => if a ≤ tt then none else some a := by
  unfold restT
  rw [dueT_eq]
  cases T x with
  | none => simp
  | some a => by_cases h : a ≤ tt <;> simp [h]
theorem rest_tim {tt : Int} {T : ByteArray → Option Int} {ks : List ByteArray} (h : Tim T ks) : Tim (restT tt T) (ks.filter fun x => (restT tt T x).isSome) where
  nd := h.nd.filter _
  good := fun x hx => h.good x (List.mem_filter.1 hx).1
  mem := fun x hx => by
    rw [List.mem_filter]
    constructor
    · intro h2
      refine ⟨(h.mem x hx).1 (fun h3 => h2 ?_), by simpa [Option.isSome_iff_ne_none] using h2⟩
      rw [restT_eq, h3]
      rfl
    · rintro ⟨_, h2⟩
      simpa [Option.isSome_iff_ne_none] using h2
  bd := fun x a ha => by
    rw [restT_eq] at ha
    obtain ⟨b, hb, hc⟩ := Option.bind_eq_some_iff.1 ha
    split at hc
    · cases hc
    · cases hc
      exact h.bd x _ hb
  len := Nat.le_trans (List.length_filter_le _ _) h.len
theorem rest_state (tt : Int) (T : ByteArray → Option Int) : (∀ x, (if (dueT tt T x).isSome then none else WL T (PI tt T) x) = WL (restT tt T) (PI tt (restT tt T)) x) ∧ ∀ s x, updS (SL T (PI tt T)) 257 (fun _ => none) s x = SL (restT tt T) (PI tt (restT tt T)) s x := by
  constructor
  · intro x
    unfold WL restT PI
    by_cases h : (dueT tt T x).isSome = true
    · simp [h]
    · simp [h]
  · intro s x
    unfold updS
    by_cases hs : s = 257
    · subst hs
      rw [if_pos rfl]
      unfold SL PI
      rw [restT_eq]
      cases hT : T x with
      | none => simp
      | some a =>
        by_cases h : a ≤ tt
        · simp [h]
        · have h1 : ¬ slt (fnd tt a) = 257 := fun e => h (fnd_due_iff.1 (slt_inj (fnd_ok tt a) (Or.inl ⟨rfl, rfl⟩) e))
          simp [h, h1]
    · rw [if_neg hs]
      unfold SL PI
      rw [restT_eq]
      cases hT : T x with
      | none => simp
      | some a =>
        by_cases h : a ≤ tt
        · have h1 : ¬ slt (fnd tt a) = s := by rw [fnd_due h]; exact fun e => hs (by rw [← e]; rfl)
          simp [h, h1]
        · simp [h]
/-- what Turn hands back -/
def Turned (wb : Nat) (mb : Nat → Nat) (hb : Nat) (now tt most : Int) (T : ByteArray → Option Int) (ks : List ByteArray) (w : World) (e : Ending) (w' : World) : Prop :=
  (¬ (now ≤ tt ∧ tt ≤ 1099511627776) ∧ e = .returned (.tuple #[.slice none 0 0, .int .i64 3]) ∧ Wh w' wb mb hb now most ks.length (WL T (PI now T)) (SL T (PI now T)) ∧ Step [] w w')
  ∨ (now ≤ tt ∧ tt ≤ 1099511627776 ∧ ∃ (v : Value) (l : List (ByteArray × Int)), e = .returned (.tuple #[v, .int .i64 0]) ∧ (∀ x a, (x, a) ∈ l ↔ x.size ≤ maxLen ∧ T x = some a ∧ a ≤ tt) ∧ (l.map Prod.fst).Nodup ∧ Srt l
    ∧ w'.ownsRow w.heap.size 37 2 v l.length (l.flatMap encT) ∧ Wh w' wb mb hb tt most (ks.filter fun x => (restT tt T x).isSome).length (WL (restT tt T) (PI tt (restT tt T))) (SL (restT tt T) (PI tt (restT tt T))) ∧ Step (wb :: mapsF mb hb) w w')
theorem mapR_lt {w : World} {b r n cnt : Nat} {f : ByteArray → Option Int} {left : ByteArray → Bool} (h : MapR nmK atE w b r n f left cnt) : r < w.heap.size := by
  obtain ⟨D, l, ⟨_, _, _, _, _, _, _, _, _, h1, _⟩, _⟩ := h
  exact (Array.getElem?_eq_some_iff.1 h1).1
/-- what the range over those that are due keeps -/
structure Due (tt : Int) (T : ByteArray → Option Int) (ks : List ByteArray) (wb : Nat) (mb : Nat → Nat) (hb : Nat) (most : Int) (w0 : World) (rb : Nat) (left : ByteArray → Bool) (l : List (ByteArray × Int)) (v : Value) (w : World) : Prop where
  lf : ∀ x, left x = true → (dueT tt T x).isSome = true
  mem : ∀ x a, (x, a) ∈ l ↔ x.size ≤ maxLen ∧ dueT tt T x = some a ∧ left x = false
  nd : (l.map Prod.fst).Nodup
  own : w.ownsRow w0.heap.size 37 2 v l.length (l.flatMap encT)
  rn : rb ∉ foot v
  wh : Wh w wb mb hb tt most ks.length (fun x => if (dueT tt T x).isSome && !left x then none else WL T (PI tt T) x) (SL T (PI tt T))
  st : Step (wb :: mapsF mb hb) w0 w
theorem Due.start {tt : Int} {T : ByteArray → Option Int} {ks : List ByteArray} (wb : Nat) (mb : Nat → Nat) (hb : Nat) (most : Int) (w0 : World) (rb : Nat) {w : World} (h : Wh w wb mb hb tt most ks.length (WL T (PI tt T)) (SL T (PI tt T))) (hs : Step (wb :: mapsF mb hb) w0 w) :
    Due tt T ks wb mb hb most w0 rb (fun x => (dueT tt T x).isSome) [] (.slice none 0 0) w where
  lf := fun x hx => hx
  mem := fun x a => by
    constructor
    · intro h
      cases h
    · rintro ⟨_, h1, h2⟩
      rw [h1] at h2
      cases h2
  nd := by simp
  own := World.ownsRow_nil _ _ _ _
  rn := by intro hk; cases hk
  wh := h.congr (fun x hx => by cases (dueT tt T x).isSome <;> simp) (fun s x hx => rfl)
  st := hs
theorem Due.len {tt : Int} {T : ByteArray → Option Int} {ks : List ByteArray} {wb : Nat} {mb : Nat → Nat} {hb : Nat} {most : Int} {w0 : World} {rb : Nat} {left : ByteArray → Bool} {l : List (ByteArray × Int)} {v : Value} {w : World} (h : Due tt T ks wb mb hb most w0 rb left l v w) (ht : Tim T ks) : l.length ≤ ks.length := by
  have h1 : ∀ x, x ∈ l.map Prod.fst → x ∈ ks := fun x hx => by
    obtain ⟨⟨y, a⟩, hy, rfl⟩ := List.mem_map.1 hx
    obtain ⟨hg, hd, _⟩ := (h.mem y a).1 hy
    refine (ht.mem y hg).1 (fun h3 => ?_)
    rw [dueT_eq, h3] at hd
    cases hd
  have h2 := (perm_of_nodup (h.nd) (ht.nd.filter fun x => @decide (x ∈ l.map Prod.fst) (Classical.propDecidable _)) (fun x => by
    rw [List.mem_filter]
    constructor
    · intro h3
      exact ⟨h1 x h3, @decide_eq_true _ (Classical.propDecidable _) h3⟩
    · rintro ⟨_, h3⟩
      exact @of_decide_eq_true _ (Classical.propDecidable _) h3)).length_eq
  rw [List.length_map] at h2
  rw [h2]
  exact List.length_filter_le _ _
section
variable {tt : Int} {T : ByteArray → Option Int} {ks : List ByteArray} {wb : Nat} {mb : Nat → Nat} {hb : Nat} {most : Int} {w0 : World} {rb : Nat} {left : ByteArray → Bool} {l : List (ByteArray × Int)} {v : Value} {w w4 : World}
theorem Due.wh4 (h : Due tt T ks wb mb hb most w0 rb left l v w) (hs : Step [rb] w w4) (hr : rb ∉ wb :: mapsF mb hb) (o : Obj) : Wh (w4.alloc o) wb mb hb tt most ks.length (fun x => if (dueT tt T x).isSome && !left x then none else WL T (PI tt T) x) (SL T (PI tt T)) :=
  (h.wh.step hs (by simp; exact fun e => hr (by rw [← e]; exact List.mem_cons_self)) (by simp; exact fun e => hr (by rw [← e]; exact List.mem_cons_of_mem _ (mem_mapsF.2 (.inl rfl)))) (fun s hs => by simp; exact fun e => hr (by rw [← e]; exact List.mem_cons_of_mem _ (mem_mapsF.2 (.inr ⟨s, hs, rfl⟩))))).step0 ((Step.refl [] _).alloc _)
theorem Due.own4 (h : Due tt T ks wb mb hb most w0 rb left l v w) (hs : Step [rb] w w4) (o : Obj) : (w4.alloc o).ownsRow w0.heap.size 37 2 v l.length (l.flatMap encT) :=
  (owns_step h.own hs (fun k hk hm => by simp at hm; subst hm; exact h.rn hk)).alloc _
theorem Due.wh5 {W : ByteArray → Option (Int × Int)} {S : Nat → ByteArray → Option Int} {w5 : World} {B : Nat} {n : Nat} {xs : List Value} (hW : Wh w wb mb hb tt most ks.length W S) (ho : w.ownsRow B 37 2 v n xs) (hlt : ∀ k, k ∈ wb :: mapsF mb hb → k < B) (hg : w.grownBy w5 v.ownBlock) : Wh w5 wb mb hb tt most ks.length W S := by
  have hd : ∀ k, k ∈ wb :: mapsF mb hb → k ∉ foot v := fun k hk hm => by
    have h1 := hlt k hk
    have h2 := owns_base ho k hm
    omega
  exact hW.step (F := foot v) (Step.of_grown hg) (hd _ List.mem_cons_self) (hd _ (List.mem_cons_of_mem _ (mem_mapsF.2 (.inl rfl)))) (fun s hs => hd _ (List.mem_cons_of_mem _ (mem_mapsF.2 (.inr ⟨s, hs, rfl⟩))))
theorem Due.fin {x : ByteArray} {a : Int} {w5 w6 : World} {v5 : Value} {o : Obj} (h : Due tt T ks wb mb hb most w0 rb left l v w) (hx : x.size ≤ maxLen) (hl : left x = true) (hd : dueT tt T x = some a) (hs : Step [rb] w w4) (hr : rb ∉ wb :: mapsF mb hb) (hrl : rb < w4.heap.size) (hr0 : w0.heap.size ≤ rb) (hlt : ∀ k, k ∈ wb :: mapsF mb hb → k < w0.heap.size)
    (ho : w5.ownsRow w0.heap.size 37 2 v5 (l.length + 1) (l.flatMap encT ++ encT (x, a))) (hg : (w4.alloc o).grownBy w5 v.ownBlock) (hf : Fresh (w4.alloc o) (foot v) (foot v5))
    (hm : MapF nmK plE w6 hb ks.length (upd (fun x => if (dueT tt T x).isSome && !left x then none else WL T (PI tt T) x) x none)) (hs6 : Step [hb] w5 w6) :
    Due tt T ks wb mb hb most w0 rb (fun y => left y && !decide (y = x)) (l ++ [(x, a)]) v5 w6 := by
  have hhb : hb ∈ wb :: mapsF mb hb := List.mem_cons_of_mem _ (mem_mapsF.2 (.inl rfl))
  refine ⟨fun y hy => h.lf y (by simp at hy; exact hy.1), fun y b => ?_, ?_, ?_, ?_, ?_, ?_⟩
  · rw [List.mem_append, h.mem]
    constructor
    · rintro (⟨h1, h2, h3⟩ | h1)
      · exact ⟨h1, h2, by rw [h3]; rfl⟩
      · simp at h1
        obtain ⟨rfl, rfl⟩ := h1
        exact ⟨hx, hd, by simp⟩
    · rintro ⟨h1, h2, h3⟩
      by_cases e : y = x
      · subst e
        right
        rw [hd] at h2
        cases h2
        simp
      · left
        exact ⟨h1, h2, by simpa [e] using h3⟩
  · rw [List.map_append, List.nodup_append]
    refine ⟨h.nd, by simp, ?_⟩
    intro y hy z hz
    simp at hz
    subst hz
    rintro rfl
    obtain ⟨⟨y', b⟩, hm2, rfl⟩ := List.mem_map.1 hy
    have := ((h.mem y' b).1 hm2).2.2
    rw [hl] at this
    cases this
  · have h1 := owns_step ho hs6 (fun k hk hm2 => by
      simp at hm2
      subst hm2
      have h3 := owns_base ho k hk
      have h4 := hlt k hhb
      omega)
    simpa [List.flatMap_append] using h1
  · intro hk
    rcases hf rb hk with h1 | h1
    · exact h.rn h1
    · rw [World.size_alloc] at h1
      omega
  · have h5 := Due.wh5 (h.wh4 hs hr o) (h.own4 hs o) hlt hg
    refine (h5.turnW hs6 hm (Nat.le_refl _)).congr (fun y hy => ?_) (fun s y hy => rfl)
    unfold upd
    by_cases e : y = x
    · subst e
      simp [hd]
    · simp [e]
  · have h1 : Step (wb :: mapsF mb hb) w0 w4 := h.st.then hs (fun k hk => .inr (by simp at hk; omega))
    have h2 : Step (wb :: mapsF mb hb) w0 (w4.alloc o) := h1.alloc o
    have h3 : Step (wb :: mapsF mb hb) w0 w5 := h2.then (Step.of_grown hg) (fun k hk => .inr (owns_base (h.own4 hs o) k hk))
    exact h3.then hs6 (fun k hk => .inl (by simp at hk; subst hk; exact hhb))
end
set_option maxRecDepth 20000 in
set_option maxHeartbeats 8000000 in
theorem wturn_far (wb : Nat) (mb : Nat → Nat) (hb : Nat) (now tt most : Int) (T : ByteArray → Option Int) (ks : List ByteArray) (w : World) (h : Wh w wb mb hb now most ks.length (WL T (PI now T)) (SL T (PI now T))) (ht : Tim T ks) (h0 : 0 ≤ now) (hm : now ≤ 1099511627776) (g1 : now ≤ tt) (g2 : tt ≤ 1099511627776) (g3 : 4096 < tt - now) :
    Calls Try.prog 11 #[ptr wb, .int .i64 tt] w (Turned wb mb hb now tt most T ks w) := by
  have c0 := h.cnow
  have HH := Lib.hid h
  have HT := Lib.hid ht
  have hlt : ∀ k, k ∈ wb :: mapsF mb hb → k < w.heap.size := fun k hk => by
    rcases List.mem_cons.1 hk with rfl | hk
    · exact h.blk.lt
    · rcases mem_mapsF.1 hk with rfl | ⟨s, hs, rfl⟩
      · exact h.wh.lt
      · exact (h.mp s hs).lt
  have HLT := Lib.hid hlt
  have HN := Lib.hid (show now ≤ tt ∧ tt ≤ 1099511627776 from ⟨g1, g2⟩)
  clear h ht hlt
  unfold ptr
  have hov : IntKind.i64.wrap (tt - now) = tt - now := by rw [IntKind.wrap_i64]; omega
  go_enter Try.func11, Try.ntmps11
  have HC := Lib.hid (wleap_any wb mb hb now tt most T ks (PI now T) w HH.out HT.out (fun x => fnd_ok _ _) (by omega) (by omega))
  unfold ptr at HC
  go_wp2_with fail
  refine HC.out.mono ?_
  rintro e w1 ⟨rfl, hh1, hs1⟩
  have HX := Lib.hid (show ∃ s : Int, s = tt ∧ 0 ≤ s ∧ s ≤ tt ∧ Wh w1 wb mb hb s most ks.length (WL T (PI s T)) (SL T (PI s T)) ∧ Step (wb :: mapsF mb hb) w w1 from ⟨tt, rfl, by omega, by omega, hh1, hs1⟩)
  clear hh1 hs1 HC c0 HH
  go_wp2_with fail
  go_loopw [38] (fun _ wr => ∃ s : Int, 0 ≤ s ∧ s ≤ tt ∧ Wh wr wb mb hb s most ks.length (WL T (PI s T)) (SL T (PI s T)) ∧ Step (wb :: mapsF mb hb) w wr) (fun _ wr => match wr.cell? ⟨wb, 0, none⟩ with | some (.int _ s) => (tt - s).toNat | _ => 0)
  case atStart =>
    obtain ⟨s, _, h1, h2, h3, h4⟩ := HX.out
    exact ⟨s, h1, h2, h3, h4⟩
  case round =>
    obtain ⟨s, hs0, hst, hH, hS⟩ := hrel
    have HHr := Lib.hid hH
    have HSr := Lib.hid hS
    have c1 := hH.cnow
    clear hH hS HX
    by_cases hlt : s < tt
    · have HC := Lib.hid (wstep_any wb mb hb s tt most T ks wr HHr.out HT.out hs0 hlt g2)
      unfold ptr at HC
      go_wp2_with fail
      refine HC.out.mono ?_
      rintro e w2 ⟨rfl, s2, hlo, hhi, hh2, hs2⟩
      have HG := Lib.hid (And.intro hh2 (HSr.out.trans hs2 (fun q hq => .inl hq)))
      have c2 := hh2.cnow
      clear hh2 hs2 HC
      go_wp2_with fail
      go_roundw
      case rel => exact ⟨s2, by omega, hhi, HG.out.1, HG.out.2⟩
      case measure => simp only [c1, c2]; omega
    · have hse : s = tt := by omega
      subst hse
      have d0 := HHr.out.due
      go_wp2_with (at_range; refine wpList_rng nmK atE rfl _ _ 2 rfl Try.underlying62 rfl (HHr.out.mp 257 (by omega)) ?_; intro w2 cnt2 hR2 hs2)
      have hrl : ∀ q, q ∈ wb :: mapsF mb hb → q < wr.heap.size := fun q hq => Nat.lt_of_lt_of_le (HLT.out q hq) HSr.out.size
      have hbr := HSr.out.size
      generalize hrb : wr.heap.size = rb at *
      have HRB := Lib.hid (And.intro hrl hbr)
      have HRL := Lib.hid (show ∀ (W : World) (left : ByteArray → Bool) (c : Nat), MapR nmK atE W (mb 257) rb ks.length (dueT s T) left c → rb < W.heap.size from fun W left c h => mapR_lt h)
      have hD := Due.start wb mb hb most w rb (HHr.out.step0 hs2) (HSr.out.then hs2 (by simp))
      have HD2 := Lib.hid hD
      have HR2 := Lib.hid hR2
      clear hrl hbr hrb hD hR2 hs2 HHr HSr d0 c1 hlt
      obtain ⟨i0, hi0, hz0, hz1, hz2⟩ := infoTm_parts
      have HI0 := Lib.hid (And.intro hi0 (And.intro hz0 (And.intro hz1 hz2)))
      clear hi0 hz0 hz1 hz2
      try go_frame
      go_loopw [6, 47] (fun v _ w3 => ∃ (left : ByteArray → Bool) (cnt : Nat) (l : List (ByteArray × Int)), MapR nmK atE w3 (mb 257) rb ks.length (dueT s T) left cnt ∧ Due s T ks wb mb hb most w rb left l v w3) (fun _ _ w3 => w3.rangeLeft (mb 257) rb)
      case atStart => exact ⟨_, cnt2, [], HR2.out, HD2.out⟩
      case round =>
        obtain ⟨left, cnt, l, hR, hD⟩ := hrel
        have HRr := Lib.hid hR
        have HDr := Lib.hid hD
        clear hR hD HR2 HD2
        go_wp2_with (at_next; refine wpList_nxt nmK atE rfl _ rfl rfl HRr.out ?_ ?_)
        · intro _ hl0
          have hfin := HDr.out.wh.congr (W' := fun x => if (dueT s T x).isSome then none else WL T (PI s T) x) (S' := SL T (PI s T)) (fun x hx => by rw [hl0 x hx]; simp) (fun _ _ _ => rfl)
          have hmem : ∀ x a, (x, a) ∈ l ↔ x.size ≤ maxLen ∧ T x = some a ∧ a ≤ s := fun x a => by
            rw [HDr.out.mem]
            constructor
            · rintro ⟨h1, h2, _⟩
              rw [dueT_eq] at h2
              obtain ⟨b, hb1, hb2⟩ := Option.bind_eq_some_iff.1 h2
              split at hb2
              · rename_i hle
                cases hb2
                exact ⟨h1, hb1, hle⟩
              · cases hb2
            · rintro ⟨h1, h2, h3⟩
              refine ⟨h1, ?_, hl0 x h1⟩
              rw [dueT_eq, h2]
              simp [h3]
          have d0 := hfin.due
          obtain ⟨w5, hrun, hm5, hs5⟩ := (hfin.mp 257 (by omega)).clear_run Try.underlying62
          obtain ⟨rs1, rs2⟩ := rest_state s T
          have hW5 := (hfin.turn (show 257 < 258 by omega) hs5 hm5 (Nat.le_refl _)).congr (W' := WL (restT s T) (PI s (restT s T))) (S' := SL (restT s T) (PI s (restT s T))) (fun x _ => rs1 x) (fun t x _ => rs2 t x)
          have hrt := rest_tim (tt := s) HT.out
          have hW6 := hW5.shrink _ hrt.nd hrt.good (fun x hx => by rw [← hrt.mem x hx]; unfold WL; simp) (fun t _ x hx h2 => by
            rw [← hrt.mem x hx]
            intro h3
            unfold SL at h2
            rw [h3] at h2
            simp at h2)
          have hin : mb 257 ∈ wb :: mapsF mb hb := List.mem_cons_of_mem _ (mem_mapsF.2 (.inr ⟨_, by omega, rfl⟩))
          have hst5 : Step (wb :: mapsF mb hb) w w5 := HDr.out.st.trans (hs5.mono (G := wb :: mapsF mb hb) (by intro q hq; simp at hq; subst hq; exact hin)) (fun q hq => .inl hq)
          have hown5 := owns_step HDr.out.own hs5 (fun k hk hm2 => by
            simp at hm2
            subst hm2
            have h3 := owns_base HDr.out.own _ hk
            have h4 := HLT.out _ hin
            omega)
          have hl6 : l.length ≤ 1000000 := Nat.le_trans (HDr.out.len HT.out) HT.out.len
          have HF := Lib.hid (And.intro hmem (And.intro HDr.out.nd (And.intro hW6 hst5)))
          have HO := Lib.hid hown5
          clear hfin hmem hm5 hs5 rs1 rs2 hW5 hrt hW6 hin hst5 hown5 HDr HRr hl0
          rcases HO.out.2 with ⟨hv, hl00⟩ | ⟨g, cap, cur, hv, hg0, _⟩
          · subst hv
            have hle : l = [] := List.eq_nil_of_length_eq_zero hl00
            subst hle
            have HS := Lib.hid (show ∀ (W : World), Calls Try.prog 26 #[.slice none 0 0, .func (.func 27) #[] #[]] W (fun e w' => e = .returned (.tuple #[]) ∧ w' = W) from fun W => AnyF.slices_SortFunc_none Try.sort26 none 0 (.func (.func 27) #[] #[]) W)
            go_wp2_with fail
            refine (HS.out _).mono ?_
            rintro e w7 ⟨rfl, rfl⟩
            go_wp2_with fail
            go_ret2
            exact .inr ⟨HN.out.1, HN.out.2, _, [], rfl, HF.out.1, by simp, fun i j hij hj => by simp at hj, HO.out, HF.out.2.2.1, HF.out.2.2.2⟩
          · subst hv
            have HS := Lib.hid (fun (h : w5.ownsRow w.heap.size 37 2 (.slice (some ⟨g, 0, none⟩) l.length cap) l.length (l.flatMap encT)) => wsort_any w.heap.size g cap l w5 h hl6)
            go_wp2_with fail
            refine (HS.out HO.out).mono ?_
            rintro e w7 ⟨rfl, hs7, l', hp, hsr, ho7⟩
            have hgm : ∀ q, q ∈ wb :: mapsF mb hb → q ≠ g := fun q hq e => by
              have := HLT.out q hq
              omega
            have hW7 := HF.out.2.2.1.step hs7 (by simpa using hgm wb List.mem_cons_self) (by simpa using hgm hb (List.mem_cons_of_mem _ (mem_mapsF.2 (.inl rfl)))) (fun t ht => by simpa using hgm (mb t) (List.mem_cons_of_mem _ (mem_mapsF.2 (.inr ⟨t, ht, rfl⟩))))
            have hll : l'.length = l.length := hp.length_eq
            rw [← hll] at ho7
            have HG := Lib.hid (show Turned wb mb hb now s most T ks w (.returned (.tuple #[.slice (some ⟨g, 0, none⟩) l.length cap, .int .i64 0])) w7 from .inr ⟨HN.out.1, HN.out.2, _, l', by rw [← hll], fun x a => (hp.mem_iff).trans (HF.out.1 x a), (hp.map Prod.fst).nodup_iff.2 HF.out.2.1, hsr, ho7, hW7, HF.out.2.2.2.then hs7 (fun k hk => .inr (by simp at hk; omega))⟩)
            clear hs7 hp hsr ho7 hW7 hll hgm
            go_wp2_with fail
            go_ret2
            exact HG.out
        · intro x a w4 cnt4 hgx hlx hfx hR4 hlt4 hs4 hen
          simp only [nmK_val, atE_val] at hen ⊢
          have hrn : rb ∉ wb :: mapsF mb hb := fun hq => Nat.lt_irrefl _ (HRB.out.1 _ hq)
          have hrlt : rb < w4.heap.size := HRL.out _ _ _ hR4
          have hl6 : l.length ≤ 1000000 := Nat.le_trans (HDr.out.len HT.out) HT.out.len
          have hW4 := HDr.out.wh4 hs4 hrn (.cells #[.string x, .int .i64 a] 37)
          have hO4 := HDr.out.own4 hs4 (.cells #[.string x, .int .i64 a] 37)
          have hbase : w.heap.size ≤ (w4.alloc (.cells #[.string x, .int .i64 a] 37)).heap.size := by rw [World.size_alloc]; have := HRB.out.2; omega
          have HO4 := Lib.hid hO4
          have HW4 := Lib.hid hW4
          have HI4 := Lib.hid (And.intro hgx (And.intro hlx (And.intro hfx (And.intro hs4 (And.intro hrn (And.intro hrlt hR4))))))
          clear hW4 hO4 hgx hlx hfx hs4 hrn hrlt hR4
          go_wp2_with (first
            | (at_delete; refine wpList_del nmK plE rfl _ _ 63 70 rfl Try.underlying63 rfl HW5.out.wh x rfl HI4.out.1 ?_; intro w6 hm6 hs6; go_frame)
            | (at_builtin; (refine wpList_append_sep rfl (.tmp 52) (.tmp 56) 33 rfl w.heap.size 37 i0 _ 2 24 Try.underlying33 HI0.out.1 HI0.out.2.1 HI0.out.2.2.1 HI0.out.2.2.2 rfl (by decide) _ l.length (l.flatMap encT) rfl HO4.out (some ⟨w4.heap.size, 0, none⟩) 1 1 [.string x, .int .i64 a] rfl (by intro h; cases h) rfl (fun ad h => by cases h; exact World.news_of_block (Go.heap_alloc_new _ _)) (by intro u hu; simp at hu; rcases hu with rfl | rfl <;> rfl) (by unfold maxLen; omega) (by omega) hbase ?_); intro v5 w5 hown5 hgr5 hfr5; have HW5 := Lib.hid (Due.wh5 HW4.out HO4.out HLT.out hgr5); have c260 := HW5.out.where_))
          obtain ⟨hgx, hlx, hfx, hs4, hrn, hrlt, hR4⟩ := HI4.out
          have hfin := HDr.out.fin hgx hlx hfx hs4 hrn hrlt HRB.out.2 HLT.out hown5 hgr5 hfr5 hm6 hs6
          have hin : mb 257 ∈ wb :: mapsF mb hb := List.mem_cons_of_mem _ (mem_mapsF.2 (.inr ⟨_, by omega, rfl⟩))
          have hnf : mb 257 ∉ foot u6 := fun hk => by
            have h1 := owns_base HDr.out.own _ hk
            have h2 := HLT.out _ hin
            omega
          have hR5 := (hR4.step ((Step.refl [] w4).alloc (.cells #[.string x, .int .i64 a] 37)) (by simp) (by simp)).step (F := foot u6) (Step.of_grown hgr5) hnf HDr.out.rn
          have hR6 := hR5.step hs6 (by have := HW5.out.dh 257 (by omega); simpa using this) (by simp; intro e; exact hrn (by rw [e]; exact List.mem_cons_of_mem _ (mem_mapsF.2 (.inl rfl))))
          exact ⟨⟨_, cnt4, _, hR6, hfin⟩, by rw [hR6.cnt_eq, HRr.out.cnt_eq]; exact hlt4⟩
set_option maxRecDepth 20000 in
set_option maxHeartbeats 8000000 in
theorem wturn_near (wb : Nat) (mb : Nat → Nat) (hb : Nat) (now tt most : Int) (T : ByteArray → Option Int) (ks : List ByteArray) (w : World) (h : Wh w wb mb hb now most ks.length (WL T (PI now T)) (SL T (PI now T))) (ht : Tim T ks) (h0 : 0 ≤ now) (hm : now ≤ 1099511627776) (g1 : now ≤ tt) (g2 : tt ≤ 1099511627776) (g3 : ¬ 4096 < tt - now) :
    Calls Try.prog 11 #[ptr wb, .int .i64 tt] w (Turned wb mb hb now tt most T ks w) := by
  have c0 := h.cnow
  have HH := Lib.hid h
  have HT := Lib.hid ht
  have hlt : ∀ k, k ∈ wb :: mapsF mb hb → k < w.heap.size := fun k hk => by
    rcases List.mem_cons.1 hk with rfl | hk
    · exact h.blk.lt
    · rcases mem_mapsF.1 hk with rfl | ⟨s, hs, rfl⟩
      · exact h.wh.lt
      · exact (h.mp s hs).lt
  have HLT := Lib.hid hlt
  have HN := Lib.hid (show now ≤ tt ∧ tt ≤ 1099511627776 from ⟨g1, g2⟩)
  clear h ht hlt
  unfold ptr
  have hov : IntKind.i64.wrap (tt - now) = tt - now := by rw [IntKind.wrap_i64]; omega
  have HX := Lib.hid (show ∃ s : Int, s = now ∧ 0 ≤ s ∧ s ≤ tt ∧ Wh w wb mb hb s most ks.length (WL T (PI s T)) (SL T (PI s T)) ∧ Step (wb :: mapsF mb hb) w w from ⟨now, rfl, by omega, by omega, HH.out, Step.refl _ _⟩)
  go_enter Try.func11, Try.ntmps11
  go_wp2_with fail
  clear c0 HH
  go_loopw [38] (fun _ wr => ∃ s : Int, 0 ≤ s ∧ s ≤ tt ∧ Wh wr wb mb hb s most ks.length (WL T (PI s T)) (SL T (PI s T)) ∧ Step (wb :: mapsF mb hb) w wr) (fun _ wr => match wr.cell? ⟨wb, 0, none⟩ with | some (.int _ s) => (tt - s).toNat | _ => 0)
  case atStart =>
    obtain ⟨s, _, h1, h2, h3, h4⟩ := HX.out
    exact ⟨s, h1, h2, h3, h4⟩
  case round =>
    obtain ⟨s, hs0, hst, hH, hS⟩ := hrel
    have HHr := Lib.hid hH
    have HSr := Lib.hid hS
    have c1 := hH.cnow
    clear hH hS HX
    by_cases hlt : s < tt
    · have HC := Lib.hid (wstep_any wb mb hb s tt most T ks wr HHr.out HT.out hs0 hlt g2)
      unfold ptr at HC
      go_wp2_with fail
      refine HC.out.mono ?_
      rintro e w2 ⟨rfl, s2, hlo, hhi, hh2, hs2⟩
      have HG := Lib.hid (And.intro hh2 (HSr.out.trans hs2 (fun q hq => .inl hq)))
      have c2 := hh2.cnow
      clear hh2 hs2 HC
      go_wp2_with fail
      go_roundw
      case rel => exact ⟨s2, by omega, hhi, HG.out.1, HG.out.2⟩
      case measure => simp only [c1, c2]; omega
    · have hse : s = tt := by omega
      subst hse
      have d0 := HHr.out.due
      go_wp2_with (at_range; refine wpList_rng nmK atE rfl _ _ 2 rfl Try.underlying62 rfl (HHr.out.mp 257 (by omega)) ?_; intro w2 cnt2 hR2 hs2)
      have hrl : ∀ q, q ∈ wb :: mapsF mb hb → q < wr.heap.size := fun q hq => Nat.lt_of_lt_of_le (HLT.out q hq) HSr.out.size
      have hbr := HSr.out.size
      generalize hrb : wr.heap.size = rb at *
      have HRB := Lib.hid (And.intro hrl hbr)
      have HRL := Lib.hid (show ∀ (W : World) (left : ByteArray → Bool) (c : Nat), MapR nmK atE W (mb 257) rb ks.length (dueT s T) left c → rb < W.heap.size from fun W left c h => mapR_lt h)
      have hD := Due.start wb mb hb most w rb (HHr.out.step0 hs2) (HSr.out.then hs2 (by simp))
      have HD2 := Lib.hid hD
      have HR2 := Lib.hid hR2
      clear hrl hbr hrb hD hR2 hs2 HHr HSr d0 c1 hlt
      obtain ⟨i0, hi0, hz0, hz1, hz2⟩ := infoTm_parts
      have HI0 := Lib.hid (And.intro hi0 (And.intro hz0 (And.intro hz1 hz2)))
      clear hi0 hz0 hz1 hz2
      try go_frame
      go_loopw [6, 47] (fun v _ w3 => ∃ (left : ByteArray → Bool) (cnt : Nat) (l : List (ByteArray × Int)), MapR nmK atE w3 (mb 257) rb ks.length (dueT s T) left cnt ∧ Due s T ks wb mb hb most w rb left l v w3) (fun _ _ w3 => w3.rangeLeft (mb 257) rb)
      case atStart => exact ⟨_, cnt2, [], HR2.out, HD2.out⟩
      case round =>
        obtain ⟨left, cnt, l, hR, hD⟩ := hrel
        have HRr := Lib.hid hR
        have HDr := Lib.hid hD
        clear hR hD HR2 HD2
        go_wp2_with (at_next; refine wpList_nxt nmK atE rfl _ rfl rfl HRr.out ?_ ?_)
        · intro _ hl0
          have hfin := HDr.out.wh.congr (W' := fun x => if (dueT s T x).isSome then none else WL T (PI s T) x) (S' := SL T (PI s T)) (fun x hx => by rw [hl0 x hx]; simp) (fun _ _ _ => rfl)
          have hmem : ∀ x a, (x, a) ∈ l ↔ x.size ≤ maxLen ∧ T x = some a ∧ a ≤ s := fun x a => by
            rw [HDr.out.mem]
            constructor
            · rintro ⟨h1, h2, _⟩
              rw [dueT_eq] at h2
              obtain ⟨b, hb1, hb2⟩ := Option.bind_eq_some_iff.1 h2
              split at hb2
              · rename_i hle
                cases hb2
                exact ⟨h1, hb1, hle⟩
              · cases hb2
            · rintro ⟨h1, h2, h3⟩
              refine ⟨h1, ?_, hl0 x h1⟩
              rw [dueT_eq, h2]
              simp [h3]
          have d0 := hfin.due
          obtain ⟨w5, hrun, hm5, hs5⟩ := (hfin.mp 257 (by omega)).clear_run Try.underlying62
          obtain ⟨rs1, rs2⟩ := rest_state s T
          have hW5 := (hfin.turn (show 257 < 258 by omega) hs5 hm5 (Nat.le_refl _)).congr (W' := WL (restT s T) (PI s (restT s T))) (S' := SL (restT s T) (PI s (restT s T))) (fun x _ => rs1 x) (fun t x _ => rs2 t x)
          have hrt := rest_tim (tt := s) HT.out
          have hW6 := hW5.shrink _ hrt.nd hrt.good (fun x hx => by rw [← hrt.mem x hx]; unfold WL; simp) (fun t _ x hx h2 => by
            rw [← hrt.mem x hx]
            intro h3
            unfold SL at h2
            rw [h3] at h2
            simp at h2)
          have hin : mb 257 ∈ wb :: mapsF mb hb := List.mem_cons_of_mem _ (mem_mapsF.2 (.inr ⟨_, by omega, rfl⟩))
          have hst5 : Step (wb :: mapsF mb hb) w w5 := HDr.out.st.trans (hs5.mono (G := wb :: mapsF mb hb) (by intro q hq; simp at hq; subst hq; exact hin)) (fun q hq => .inl hq)
          have hown5 := owns_step HDr.out.own hs5 (fun k hk hm2 => by
            simp at hm2
            subst hm2
            have h3 := owns_base HDr.out.own _ hk
            have h4 := HLT.out _ hin
            omega)
          have hl6 : l.length ≤ 1000000 := Nat.le_trans (HDr.out.len HT.out) HT.out.len
          have HF := Lib.hid (And.intro hmem (And.intro HDr.out.nd (And.intro hW6 hst5)))
          have HO := Lib.hid hown5
          clear hfin hmem hm5 hs5 rs1 rs2 hW5 hrt hW6 hin hst5 hown5 HDr HRr hl0
          rcases HO.out.2 with ⟨hv, hl00⟩ | ⟨g, cap, cur, hv, hg0, _⟩
          · subst hv
            have hle : l = [] := List.eq_nil_of_length_eq_zero hl00
            subst hle
            have HS := Lib.hid (show ∀ (W : World), Calls Try.prog 26 #[.slice none 0 0, .func (.func 27) #[] #[]] W (fun e w' => e = .returned (.tuple #[]) ∧ w' = W) from fun W => AnyF.slices_SortFunc_none Try.sort26 none 0 (.func (.func 27) #[] #[]) W)
            go_wp2_with fail
            refine (HS.out _).mono ?_
            rintro e w7 ⟨rfl, rfl⟩
            go_wp2_with fail
            go_ret2
            exact .inr ⟨HN.out.1, HN.out.2, _, [], rfl, HF.out.1, by simp, fun i j hij hj => by simp at hj, HO.out, HF.out.2.2.1, HF.out.2.2.2⟩
          · subst hv
            have HS := Lib.hid (fun (h : w5.ownsRow w.heap.size 37 2 (.slice (some ⟨g, 0, none⟩) l.length cap) l.length (l.flatMap encT)) => wsort_any w.heap.size g cap l w5 h hl6)
            go_wp2_with fail
            refine (HS.out HO.out).mono ?_
            rintro e w7 ⟨rfl, hs7, l', hp, hsr, ho7⟩
            have hgm : ∀ q, q ∈ wb :: mapsF mb hb → q ≠ g := fun q hq e => by
              have := HLT.out q hq
              omega
            have hW7 := HF.out.2.2.1.step hs7 (by simpa using hgm wb List.mem_cons_self) (by simpa using hgm hb (List.mem_cons_of_mem _ (mem_mapsF.2 (.inl rfl)))) (fun t ht => by simpa using hgm (mb t) (List.mem_cons_of_mem _ (mem_mapsF.2 (.inr ⟨t, ht, rfl⟩))))
            have hll : l'.length = l.length := hp.length_eq
            rw [← hll] at ho7
            have HG := Lib.hid (show Turned wb mb hb now s most T ks w (.returned (.tuple #[.slice (some ⟨g, 0, none⟩) l.length cap, .int .i64 0])) w7 from .inr ⟨HN.out.1, HN.out.2, _, l', by rw [← hll], fun x a => (hp.mem_iff).trans (HF.out.1 x a), (hp.map Prod.fst).nodup_iff.2 HF.out.2.1, hsr, ho7, hW7, HF.out.2.2.2.then hs7 (fun k hk => .inr (by simp at hk; omega))⟩)
            clear hs7 hp hsr ho7 hW7 hll hgm
            go_wp2_with fail
            go_ret2
            exact HG.out
        · intro x a w4 cnt4 hgx hlx hfx hR4 hlt4 hs4 hen
          simp only [nmK_val, atE_val] at hen ⊢
          have hrn : rb ∉ wb :: mapsF mb hb := fun hq => Nat.lt_irrefl _ (HRB.out.1 _ hq)
          have hrlt : rb < w4.heap.size := HRL.out _ _ _ hR4
          have hl6 : l.length ≤ 1000000 := Nat.le_trans (HDr.out.len HT.out) HT.out.len
          have hW4 := HDr.out.wh4 hs4 hrn (.cells #[.string x, .int .i64 a] 37)
          have hO4 := HDr.out.own4 hs4 (.cells #[.string x, .int .i64 a] 37)
          have hbase : w.heap.size ≤ (w4.alloc (.cells #[.string x, .int .i64 a] 37)).heap.size := by rw [World.size_alloc]; have := HRB.out.2; omega
          have HO4 := Lib.hid hO4
          have HW4 := Lib.hid hW4
          have HI4 := Lib.hid (And.intro hgx (And.intro hlx (And.intro hfx (And.intro hs4 (And.intro hrn (And.intro hrlt hR4))))))
          clear hW4 hO4 hgx hlx hfx hs4 hrn hrlt hR4
          go_wp2_with (first
            | (at_delete; refine wpList_del nmK plE rfl _ _ 63 70 rfl Try.underlying63 rfl HW5.out.wh x rfl HI4.out.1 ?_; intro w6 hm6 hs6; go_frame)
            | (at_builtin; (refine wpList_append_sep rfl (.tmp 52) (.tmp 56) 33 rfl w.heap.size 37 i0 _ 2 24 Try.underlying33 HI0.out.1 HI0.out.2.1 HI0.out.2.2.1 HI0.out.2.2.2 rfl (by decide) _ l.length (l.flatMap encT) rfl HO4.out (some ⟨w4.heap.size, 0, none⟩) 1 1 [.string x, .int .i64 a] rfl (by intro h; cases h) rfl (fun ad h => by cases h; exact World.news_of_block (Go.heap_alloc_new _ _)) (by intro u hu; simp at hu; rcases hu with rfl | rfl <;> rfl) (by unfold maxLen; omega) (by omega) hbase ?_); intro v5 w5 hown5 hgr5 hfr5; have HW5 := Lib.hid (Due.wh5 HW4.out HO4.out HLT.out hgr5); have c260 := HW5.out.where_))
          obtain ⟨hgx, hlx, hfx, hs4, hrn, hrlt, hR4⟩ := HI4.out
          have hfin := HDr.out.fin hgx hlx hfx hs4 hrn hrlt HRB.out.2 HLT.out hown5 hgr5 hfr5 hm6 hs6
          have hin : mb 257 ∈ wb :: mapsF mb hb := List.mem_cons_of_mem _ (mem_mapsF.2 (.inr ⟨_, by omega, rfl⟩))
          have hnf : mb 257 ∉ foot u6 := fun hk => by
            have h1 := owns_base HDr.out.own _ hk
            have h2 := HLT.out _ hin
            omega
          have hR5 := (hR4.step ((Step.refl [] w4).alloc (.cells #[.string x, .int .i64 a] 37)) (by simp) (by simp)).step (F := foot u6) (Step.of_grown hgr5) hnf HDr.out.rn
          have hR6 := hR5.step hs6 (by have := HW5.out.dh 257 (by omega); simpa using this) (by simp; intro e; exact hrn (by rw [e]; exact List.mem_cons_of_mem _ (mem_mapsF.2 (.inl rfl))))
          exact ⟨⟨_, cnt4, _, hR6, hfin⟩, by rw [hR6.cnt_eq, HRr.out.cnt_eq]; exact hlt4⟩
theorem wturn_any (wb : Nat) (mb : Nat → Nat) (hb : Nat) (now tt most : Int) (T : ByteArray → Option Int) (ks : List ByteArray) (w : World) (h : Wh w wb mb hb now most ks.length (WL T (PI now T)) (SL T (PI now T))) (ht : Tim T ks) (h0 : 0 ≤ now) (hm : now ≤ 1099511627776) :
    Calls Try.prog 11 #[ptr wb, .int .i64 tt] w (Turned wb mb hb now tt most T ks w) := by
  by_cases g1 : tt < now
  · have c0 := h.cnow
    have HH := Lib.hid h
    clear h
    unfold ptr
    go_enter Try.func11, Try.ntmps11
    go_wp2_with fail
    go_ret2
    exact .inl ⟨by omega, rfl, HH.out, Step.refl _ _⟩
  · by_cases g2 : 1099511627776 < tt
    · have c0 := h.cnow
      have HH := Lib.hid h
      clear h
      unfold ptr
      go_enter Try.func11, Try.ntmps11
      go_wp2_with fail
      go_ret2
      exact .inl ⟨by omega, rfl, HH.out, Step.refl _ _⟩
    · by_cases g3 : 4096 < tt - now
      · exact wturn_far wb mb hb now tt most T ks w h ht h0 hm (by omega) (by omega) g3
      · exact wturn_near wb mb hb now tt most T ks w h ht h0 hm (by omega) (by omega) g3
end Go.Proofs.Ytmfplcmncipojaa
