/- progress.Track: Follow, New; the chapter's example. -/
import Derived.Test.YtffhldfbdchdkaaTrackB
namespace Go.Proofs.Ytffhldfbdchdkaa
set_option linter.unusedVariables false
open Go.RowKit Go.Maps

/-- behind the first loop: those that are followed, or still to come -/
def kept (f : Int → Option Mk) (l : List Int) (left : Int → Bool) : Int → Option Mk := fun n => if n ∈ l ∨ left n = true then f n else none
/-- in the second loop: the first k have their mark -/
def some2 (f : Int → Option Mk) (l : List Int) (last : Int) (k : Nat) : Int → Option Mk := fun n => if n ∈ l.take k then some ((f n).getD (0, last + 1)) else if n ∈ l then f n else none
def follF (f : Int → Option Mk) (l : List Int) (last : Int) : Int → Option Mk := fun n => if n ∈ l then some ((f n).getD (0, last + 1)) else none

theorem MapF.congr {P : Program} {k : TypeId} {κ V : Type} {K : KeyT P k κ} {E : ElT V} {w : World} {b n : Nat} {f g : κ → Option V} (h : MapF K E w b n f) (he : ∀ x, K.good x → f x = g x) : MapF K E w b n g := by
  obtain ⟨D, h1, h2⟩ := h
  exact ⟨D, h1, fun x hx => by rw [← he x hx]; exact h2 x hx⟩

theorem kept_del (f : Int → Option Mk) (l : List Int) (left : Int → Bool) (x : Int) (hx : x ∉ l) :
    upd (kept f l left) x none = kept f l (fun y => left y && !decide (y = x)) := by
  funext y
  unfold upd kept
  by_cases h : y = x
  · subst h
    simp [hx]
  · simp [h]
theorem kept_stays (f : Int → Option Mk) (l : List Int) (left : Int → Bool) (x : Int) (hx : x ∈ l) :
    kept f l left = kept f l (fun y => left y && !decide (y = x)) := by
  funext y
  unfold kept
  by_cases h : y = x
  · subst h
    simp [hx]
  · simp [h]
theorem strike2 (left : Int → Bool) (x : Int) : (fun z => (left z && !decide (z = x)) && !decide (z = x)) = fun z => left z && !decide (z = x) := by
  funext z
  cases left z <;> cases decide (z = x) <;> rfl

theorem mem_take_succ (l : List Int) (k : Nat) (hk : k < l.length) (n : Int) : n ∈ l.take (k + 1) ↔ n ∈ l.take k ∨ n = l.getD k 0 := by
  rw [List.take_succ_eq_append_getElem hk, List.mem_append]
  simp [List.getD, hk]

theorem some2_step (f : Int → Option Mk) (l : List Int) (last : Int) (k : Nat) (hk : k < l.length) :
    some2 f l last (k + 1) = if (some2 f l last k (l.getD k 0)).isSome then some2 f l last k else upd (some2 f l last k) (l.getD k 0) (some (0, last + 1)) := by
  have hin := getD_mem hk
  by_cases h1 : l.getD k 0 ∈ l.take k
  · have hs : (some2 f l last k (l.getD k 0)).isSome = true := by unfold some2; rw [if_pos h1]; rfl
    rw [if_pos hs]
    funext n
    unfold some2
    by_cases hn : n ∈ l.take k
    · rw [if_pos hn, if_pos ((mem_take_succ l k hk n).2 (.inl hn))]
    · have hn2 : n ∉ l.take (k + 1) := fun h => ((mem_take_succ l k hk n).1 h).elim hn (fun h => hn (h ▸ h1))
      rw [if_neg hn, if_neg hn2]
  · cases hf : f (l.getD k 0) with
    | some v =>
      have hs : (some2 f l last k (l.getD k 0)).isSome = true := by unfold some2; rw [if_neg h1, if_pos hin, hf]; rfl
      rw [if_pos hs]
      funext n
      unfold some2
      by_cases hn : n ∈ l.take k
      · rw [if_pos hn, if_pos ((mem_take_succ l k hk n).2 (.inl hn))]
      · by_cases hn3 : n = l.getD k 0
        · rw [if_neg hn, if_pos ((mem_take_succ l k hk n).2 (.inr hn3)), hn3, if_pos hin, hf]
          rfl
        · have hn2 : n ∉ l.take (k + 1) := fun h => ((mem_take_succ l k hk n).1 h).elim hn hn3
          rw [if_neg hn, if_neg hn2]
    | none =>
      have hs : ¬ (some2 f l last k (l.getD k 0)).isSome = true := by unfold some2; rw [if_neg h1, if_pos hin, hf]; simp
      rw [if_neg hs]
      funext n
      unfold some2 upd
      by_cases hn3 : n = l.getD k 0
      · rw [if_pos ((mem_take_succ l k hk n).2 (.inr hn3)), if_pos hn3, hn3, hf]
        rfl
      · rw [if_neg hn3]
        show _ = (if n ∈ l.take k then some ((f n).getD (0, last + 1)) else if n ∈ l then f n else none)
        by_cases hn : n ∈ l.take k
        · rw [if_pos hn, if_pos ((mem_take_succ l k hk n).2 (.inl hn))]
        · have hn2 : n ∉ l.take (k + 1) := fun h => ((mem_take_succ l k hk n).1 h).elim hn hn3
          rw [if_neg hn, if_neg hn2]

theorem some2_end (f : Int → Option Mk) (l : List Int) (last : Int) : some2 f l last l.length = follF f l last := by
  funext n
  unfold some2 follF
  rw [List.take_length]
  by_cases h : n ∈ l
  · rw [if_pos h, if_pos h]
  · rw [if_neg h, if_neg h, if_neg h]

set_option maxHeartbeats 2000000 in
theorem follow_any (tb mb n : Nat) (f : Int → Option Mk) (a : Option Addr) (cap : Nat) (l : List Int) (last : Int) (w : World) (hT : Trk w tb mb n f) (hl : Ints w a l) (hwf : ∀ x ∈ l, IsI x) (hlen : l.length < 1000000) (hlast : Low last) (hn : n < 1000000)
    (hne : ∀ b off, a = some ⟨b, off, none⟩ → 0 < l.length → b ≠ mb ∧ b ≠ tb) :
    Calls Try.prog 10 #[.pointer (some ⟨tb, 0, none⟩), .slice a l.length cap, .int .u64 last] w fun e w' => e = .returned (.tuple #[]) ∧ Trk w' tb mb (n + l.length) (follF f l last) ∧ Step [mb] w w' := by
  have hc0 := hT.blk.cell 0
  simp at hc0
  have HT := Lib.hid hT
  have HL := Lib.hid hl
  have HW := Lib.hid hwf
  have HX := Lib.hid hlast
  have HE := Lib.hid hne
  have hmb := hT.map.lt
  have htb := hT.blk.lt
  clear hT hl hwf hlast hne
  go_enter Try.func10, Try.ntmps10
  go_wp2_with (at_range; refine wpList_rng keyI elM rfl _ _ 47 rfl Try.underlying43 rfl HT.out.map ?_; intro w1 cnt1 hR1 hs1)
  go_frame
  go_loopw [6] (fun _ wr => ∃ (left : Int → Bool) (cnt : Nat), MapR keyI elM wr mb w.heap.size n (kept f l left) left cnt ∧ Step [mb] w wr) (fun _ wr => wr.rangeLeft mb w.heap.size)
  case atStart =>
    refine ⟨fun x => (f x).isSome, cnt1, ?_, hs1.mono (fun k hk => by cases hk)⟩
    obtain ⟨D, l', h1, h2, h3⟩ := hR1
    refine ⟨D, l', h1, ?_, h3⟩
    have : kept f l (fun x => (f x).isSome) = f := by
      funext y
      unfold kept
      cases hfy : f y <;> simp [hfy]
    rw [this]
    exact h2
  case round =>
    obtain ⟨left, cnt, hR, hs⟩ := hrel
    have HR := Lib.hid hR
    have HS := Lib.hid hs
    clear hR hs hR1 hs1
    go_wp2_with (at_next; refine wpList_nxt keyI elM rfl _ rfl rfl HR.out ?_ ?_)
    · intro _ hl0
      have hm := HR.out.map.congr (g := some2 f l last 0) (fun x hx => by unfold kept some2; simp [hl0 x hx])
      have hb := HT.out.blk.step HS.out (by simpa using fun e => HT.out.ne e.symm)
      have HM := Lib.hid (⟨hb, hm, HT.out.ne⟩ : Trk wr tb mb n (some2 f l last 0))
      clear hm hb HR hl0
      go_wp2
      go_loopw [8, 31] (fun _ i w2 => ∃ k : Nat, k ≤ l.length ∧ i = .int .i64 k ∧ Trk w2 tb mb (n + k) (some2 f l last k) ∧ Step [mb] w w2) (fun _ i _ => l.length - (intOf i).toNat)
      case atStart => exact ⟨0, Nat.zero_le _, rfl, HM.out, HS.out⟩
      case round =>
        obtain ⟨k, hk, rfl, hT2, hs2⟩ := hrel
        have HT2 := Lib.hid hT2
        have HS2 := Lib.hid hs2
        clear hT2 hs2 HM HS
        by_cases hkl : k < l.length
        · obtain ⟨b, off, rfl, hlt, hc⟩ := (HL.out.step HS2.out (fun b off h h0 => by simpa using (HE.out b off h h0).1)) k hkl
          have hm : (k : Int) < (l.length : Int) := by omega
          have hy := HW.out _ (getD_mem hkl)
          have hst := Lib.hid (some2_step f l last k hkl)
          generalize l.getD k 0 = y at *
          have hq := Lib.hid (has_any tb mb (n + k) _ y _ HT2.out hy)
          cases hsm : (some2 f l last k y).isSome with
          | true =>
            rw [hsm] at hq hst
            go_wp2_with fail
            refine hq.out.mono ?_
            rintro e w3 ⟨rfl, hs3⟩
            have HS3 := Lib.hid hs3
            clear hs3 hq
            go_wp2_with fail
            go_roundw
            case rel =>
              have := hst.out
              simp only [if_true] at this
              exact ⟨k + 1, by omega, by go_num, by rw [this]; exact (HT2.out.step HS3.out (by simp) (by simp)).mono (by omega), HS2.out.then HS3.out (fun _ h => by cases h)⟩
            case measure => simp [intOf]; omega
          | false =>
            rw [hsm] at hq hst
            go_wp2_with fail
            refine hq.out.mono ?_
            rintro e w3 ⟨rfl, hs3⟩
            have hT3 := HT2.out.step hs3 (by simp) (by simp)
            have hc3 := hT3.blk.cell 0
            simp at hc3
            have HS3 := Lib.hid (HS2.out.then hs3 (fun _ h => by cases h))
            have HT3 := Lib.hid hT3
            clear hs3 hq hT3 HS2 HT2
            go_wp2_with fail
            refine wp_region_still_tail 8 (by kernel_rfl) (by kernel_rfl) ?_
            simp only [List.take_succ_cons, List.take_zero, List.drop_succ_cons, List.drop_zero]
            repeat still_step
            still_call (above_any last _ HX.out)
            repeat still_step
            refine wpStill_nil ?_
            change wpList _ _ _ _ _ w3.drew
            have hD := (Step.refl ([] : List Nat) w3).drew
            refine wpList_store keyI elM rfl _ _ _ 43 47 rfl Try.underlying43 rfl (HT3.out.step hD (by simp) (by simp)).map (by unfold maxLen; omega) y rfl hy.good (0, last + 1) rfl ?_
            intro w4 hm4 hs4
            have HT4 := Lib.hid ((HT3.out.step hD (by simp) (by simp)).stored hm4 hs4)
            have HS4 := Lib.hid (HS3.out.then ((hD.mono (G := [mb]) (fun k hk => by cases hk)).then hs4 (fun k hk => .inl hk)) (fun k hk => .inl hk))
            clear hm4 hs4 hD HT3 HS3
            go_wp2
            go_roundw
            case rel =>
              have := hst.out
              simp only [Bool.false_eq_true, if_false] at this
              exact ⟨k + 1, by omega, by go_num, by rw [this]; exact HT4.out, HS4.out⟩
            case measure => simp [intOf]; omega
        · have hke : k = l.length := by omega
          subst hke
          go_wp2
          go_end0
          exact ⟨rfl, by rw [← some2_end]; exact HT2.out, HS2.out⟩
    · intro x c1 c2 w2 cnt2 hgx hlx hfx hR2 hlt hs2 hen
      have HR2 := Lib.hid hR2
      have HS2 := Lib.hid (HS.out.then hs2 (fun k hk => by simp at hk; exact .inr (by omega)))
      clear hR2 hs2 HS
      have HC := Lib.hid (contains_any a cap l x w2 (HL.out.step HS2.out (fun b off h h0 => by simpa using (HE.out b off h h0).1)) hlen)
      by_cases hxl : x ∈ l
      · have hd : decide (x ∈ l) = true := by simpa using hxl
        rw [hd] at HC
        go_wp2_with fail
        refine HC.out.mono ?_
        rintro e w3 ⟨rfl, rfl⟩
        go_wp2_with fail
        go_roundw
        case rel => exact ⟨_, cnt2, by rw [← kept_stays f l left x hxl]; exact HR2.out, HS2.out⟩
        case measure => rw [HR2.out.cnt_eq, HR.out.cnt_eq]; exact hlt
      · have hd : decide (x ∈ l) = false := by simpa using hxl
        rw [hd] at HC
        have hb2 := HT.out.blk.step HS2.out (by simpa using fun e => HT.out.ne e.symm)
        have hc2 := hb2.cell 0
        simp at hc2
        clear hb2
        go_wp2_with (first | (go_at_call 15; refine HC.out.mono ?_; rintro e w3 ⟨rfl, rfl⟩) | (at_delete; refine wpList_delR keyI elM rfl _ _ _ 47 rfl Try.underlying43 rfl HR2.out x rfl hgx ?_; intro w4 cnt4 hR4 hle4 hs4; go_frame))
        rw [strike2] at hR4
        go_roundw
        case rel => exact ⟨_, cnt4, by rw [← kept_del f l left x hxl]; exact hR4, HS2.out.then hs4 (fun k hk => .inl hk)⟩
        case measure => rw [hR4.cnt_eq, HR.out.cnt_eq]; omega
end Go.Proofs.Ytffhldfbdchdkaa
