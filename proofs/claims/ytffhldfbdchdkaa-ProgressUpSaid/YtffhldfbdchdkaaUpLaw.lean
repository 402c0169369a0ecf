/- ProgressUp: the law's own walk. -/
import Derived.Test.YtffhldfbdchdkaaTrackD
namespace Go.Proofs.Ytffhldfbdchdkaa
set_option linter.unusedVariables false
open Go.RowKit Go.Maps

/-- a slice of numbers of one kind that is only read -/
def Nums (q : IntKind) (w : World) (a : Option Addr) (l : List Int) : Prop :=
  ∀ i, i < l.length → ∃ b off, a = some ⟨b, off, none⟩ ∧ b < w.heap.size ∧ w.cell? ⟨b, off + i, none⟩ = some (.int q (l.getD i 0))
theorem Nums.step {q : IntKind} {w w' : World} {a : Option Addr} {l : List Int} (h : Nums q w a l) (hs : Step [] w w') : Nums q w' a l := fun i hi => by
  obtain ⟨b, off, ha, hlt, hc⟩ := h i hi
  exact ⟨b, off, ha, Nat.lt_of_lt_of_le hlt hs.size, by rw [hs.cell hlt (by simp)]; exact hc⟩
theorem IsRow.nums {q : IntKind} {w : World} {a : Option Addr} {len cap : Nat} {z : List Int} (h : IsRow q w a len cap z) :
    ∃ l : List Int, l.length = len ∧ Nums q w a l ∧ (∀ x ∈ l, (Lit.int q x).wf = true) ∧ (a = none → len = 0 ∧ cap = 0) ∧ len ≤ maxLen := by
  rcases h with ⟨rfl, rfl, rfl, rfl⟩ | ⟨x, rfl, hl, hm, hz, hcell, hw⟩
  · exact ⟨[], rfl, fun i hi => by simp at hi, fun x hx => by simp at hx, fun _ => ⟨rfl, rfl⟩, Nat.zero_le _⟩
  · refine ⟨z.take len, by simp; omega, fun i hi => ?_, fun y hy => hw y (List.mem_of_mem_take hy), fun h => (nomatch h), by omega⟩
    have hi2 : i < len := by simp at hi; omega
    have hc := hcell i (by omega)
    obtain ⟨b, off, spot⟩ := x
    have hspot : spot = none := by simpa [Addr.add] using World.cell?_spot (hcell 0 (by omega))
    subst hspot
    rw [getD_take _ _ _ _ hi2]
    have hc' : w.cell? ⟨b, off + i, none⟩ = some (.int q (z.getD i 0)) := by rw [← add_plain]; exact hc
    exact ⟨b, off, rfl, World.block_lt_of_cell? w _ hc', hc'⟩

/-- how the track stands behind so many of them -/
structure UpS (f : Int → Option Mk) (last m : Int) : Prop where
  is : (f 3).isSome = true
  no : (f 4).isSome = false
  mat : mat f 3 = m
  nxt : nxt f 3 = max last m + 1

theorem UpS.up {f : Int → Option Mk} {last m x : Int} (h : UpS f last m) (hx : m < x) : yesUp f 3 x = true ∧ UpS (yesF f 3 x) last x := by
  have h1 : yesUp f 3 x = true := by simp [yesUp, h.is, h.mat, hx]
  refine ⟨h1, ?_⟩
  unfold yesF
  rw [h1, h.nxt]
  refine ⟨by simp [upd], by simpa [upd] using h.no, by simp [Go.Proofs.Ytffhldfbdchdkaa.mat, upd], ?_⟩
  simp [Go.Proofs.Ytffhldfbdchdkaa.nxt, upd]
  omega
theorem UpS.no_up {f : Int → Option Mk} {last m x : Int} (h : UpS f last m) (hx : ¬ m < x) : yesUp f 3 x = false ∧ UpS (yesF f 3 x) last m := by
  have h1 : yesUp f 3 x = false := by simp [yesUp, h.is, h.mat, hx]
  refine ⟨h1, ?_⟩
  unfold yesF
  rw [h1]
  exact h
theorem UpS.start (last : Int) (h : 0 ≤ last) : UpS (follF (fun _ => none) [3] last) last 0 :=
  ⟨by simp [follF], by simp [follF], by simp [Go.Proofs.Ytffhldfbdchdkaa.mat, follF], by simp [Go.Proofs.Ytffhldfbdchdkaa.nxt, follF]; omega⟩

set_option maxRecDepth 100000 in
set_option maxHeartbeats 4000000 in
theorem progressUp_in (last : Int) (a : Option Addr) (cap : Nat) (l : List Int) (w : World) (h0 : 0 ≤ last) (h1 : last ≤ 4611686018427387904) (hl : Nums .u64 w a l) (hwf : ∀ x ∈ l, 0 ≤ x) (hlen : l.length ≤ 60) :
    Calls Try.prog 5 #[.int .u64 last, .slice a l.length cap] w fun e w' => e = .returned (.bool true) ∧ Below w.heap.size w w' := by
  have HL := Lib.hid hl
  have HW := Lib.hid hwf
  clear hl hwf
  go_enter Try.func5, Try.ntmps5
  go_wp2_with fail
  refine (lives_any w).mono ?_
  rintro e w1 ⟨rfl, hs⟩
  have HS := Lib.hid hs
  clear hs
  go_wp2_with fail
  have hc := new_any (some ⟨w1.heap.size, 0, none⟩) 1 [3] last _ (one_int w1 3 3) (by decide) (by decide) ⟨h0, by omega⟩
  refine Calls.mono hc ?_
  clear hc
  rintro e w2 ⟨tb, mb, rfl, hT, hs, hb1, hb2⟩
  have hT2 := Lib.hid ((HS.out.alloc (.cells #[.int .i64 3] 3)).then hs (fun k hk => by cases hk))
  have hb3 : w.heap.size ≤ tb := by have := HS.out.size; simp at hb1; omega
  have hb4 : w.heap.size ≤ mb := by have := HS.out.size; simp at hb2; omega
  have HT := Lib.hid hT
  have HU := Lib.hid (UpS.start last h0)
  clear hT hs hb1 hb2 HS
  generalize follF (fun _ => none) [3] last = f0 at *
  go_wp2_with fail
  go_loopw [6, 8, 26] (fun m _ i wr => ∃ (k : Nat) (x : Int) (f : Int → Option Mk), k ≤ l.length ∧ m = .int .u64 x ∧ 0 ≤ x ∧ x ≤ 4611686018427387904 ∧ i = .int .i64 k ∧ Trk wr tb mb (1 + k) f ∧ UpS f last x ∧ Step [] w wr) (fun _ _ i _ => l.length - (intOf i).toNat)
  case atStart => exact ⟨0, 0, f0, Nat.zero_le _, rfl, by omega, by omega, rfl, HT.out, HU.out, hT2.out⟩
  case round =>
    obtain ⟨k, m, f, hk, rfl, hm0, hm1, rfl, hTr, hUp, hs⟩ := hrel
    have HTr := Lib.hid hTr
    have HUp := Lib.hid hUp
    have HS := Lib.hid hs
    clear hTr hUp hs HT HU hT2
    by_cases hkl : k < l.length
    · obtain ⟨b, off, rfl, hlt, hcl⟩ := HL.out.step HS.out k hkl
      have hkm : (k : Int) < (l.length : Int) := by omega
      have hx0 := HW.out _ (getD_mem hkl)
      generalize l.getD k 0 = x at *
      by_cases hx1 : x ≤ 4611686018427387904
      · have HY := Lib.hid (yes_any tb mb (1 + k) f 3 x wr HTr.out (by decide) ⟨hx0, by omega⟩ (by omega))
        by_cases hmx : m < x
        · obtain ⟨e1, hU⟩ := HUp.out.up hmx
          rw [e1] at HY
          have HU := Lib.hid hU
          clear hU e1 HUp HTr
          have hmx' : decide (m < x) = true := by simpa using hmx
          go_wp2_with fail
          refine HY.out.mono ?_
          rintro e w3 ⟨rfl, hT3, hs3⟩
          have HT3 := Lib.hid hT3
          have HS3 := Lib.hid (HS.out.then hs3 (fun k hk => by simp at hk; exact .inr (by omega)))
          clear hT3 hs3 HY HS
          have HM := Lib.hid (match_any tb mb _ _ 3 w3 HT3.out (by decide))
          have HN := Lib.hid (next_any tb mb _ _ 3 w3 HT3.out (by decide))
          rw [HU.out.mat] at HM
          rw [HU.out.nxt] at HN
          by_cases hlx : last < x
          · rw [show max last x + 1 = x + 1 by omega] at HN
            go_wp2_with (first | (go_at_call 12; refine HM.out.mono ?_; rintro e w7 ⟨rfl, rfl⟩) | (go_at_call 13; refine HN.out.mono ?_; rintro e w7 ⟨rfl, rfl⟩))
            go_roundw
            case rel => exact ⟨k + 1, x, _, by omega, rfl, by omega, by omega, by go_num, by rw [← Nat.add_assoc]; exact HT3.out, HU.out, HS3.out⟩
            case measure => simp [intOf]; omega
          · rw [show max last x + 1 = last + 1 by omega] at HN
            go_wp2_with (first | (go_at_call 12; refine HM.out.mono ?_; rintro e w7 ⟨rfl, rfl⟩) | (go_at_call 13; refine HN.out.mono ?_; rintro e w7 ⟨rfl, rfl⟩))
            go_roundw
            case rel => exact ⟨k + 1, x, _, by omega, rfl, by omega, by omega, by go_num, by rw [← Nat.add_assoc]; exact HT3.out, HU.out, HS3.out⟩
            case measure => simp [intOf]; omega
        · obtain ⟨e1, hU⟩ := HUp.out.no_up hmx
          rw [e1] at HY
          have HU := Lib.hid hU
          clear hU e1 HUp HTr
          have hmx' : decide (m < x) = false := by simpa using hmx
          go_wp2_with fail
          refine HY.out.mono ?_
          rintro e w3 ⟨rfl, hT3, hs3⟩
          have HT3 := Lib.hid hT3
          have HS3 := Lib.hid (HS.out.then hs3 (fun k hk => by simp at hk; exact .inr (by omega)))
          clear hT3 hs3 HY HS
          have HM := Lib.hid (match_any tb mb _ _ 3 w3 HT3.out (by decide))
          have HN := Lib.hid (next_any tb mb _ _ 3 w3 HT3.out (by decide))
          rw [HU.out.mat] at HM
          rw [HU.out.nxt] at HN
          by_cases hlx : last < m
          · rw [show max last m + 1 = m + 1 by omega] at HN
            go_wp2_with (first | (go_at_call 12; refine HM.out.mono ?_; rintro e w7 ⟨rfl, rfl⟩) | (go_at_call 13; refine HN.out.mono ?_; rintro e w7 ⟨rfl, rfl⟩))
            go_roundw
            case rel => exact ⟨k + 1, m, _, by omega, rfl, by omega, by omega, by go_num, by rw [← Nat.add_assoc]; exact HT3.out, HU.out, HS3.out⟩
            case measure => simp [intOf]; omega
          · rw [show max last m + 1 = last + 1 by omega] at HN
            go_wp2_with (first | (go_at_call 12; refine HM.out.mono ?_; rintro e w7 ⟨rfl, rfl⟩) | (go_at_call 13; refine HN.out.mono ?_; rintro e w7 ⟨rfl, rfl⟩))
            go_roundw
            case rel => exact ⟨k + 1, m, _, by omega, rfl, by omega, by omega, by go_num, by rw [← Nat.add_assoc]; exact HT3.out, HU.out, HS3.out⟩
            case measure => simp [intOf]; omega
      · go_wp2_with fail
        go_ret
        exact ⟨rfl, HS.out.below'⟩
    · have hke : k = l.length := by omega
      subst hke
      have H3 := Lib.hid (has_any tb mb _ _ 3 wr HTr.out (by decide))
      rw [HUp.out.is] at H3
      go_wp2_with fail
      refine H3.out.mono ?_
      rintro e w3 ⟨rfl, hs3⟩
      have HT3 := Lib.hid (HTr.out.step hs3 (by simp) (by simp))
      have HS3 := Lib.hid (HS.out.then hs3 (fun k hk => by cases hk))
      clear hs3 H3 HS HTr
      have H4 := Lib.hid (has_any tb mb _ _ 4 w3 HT3.out (by decide))
      rw [HUp.out.no] at H4
      go_wp2_with fail
      refine H4.out.mono ?_
      rintro e w4 ⟨rfl, hs4⟩
      have HS4 := Lib.hid (HS3.out.then hs4 (fun k hk => by cases hk))
      clear hs4 H4 HS3
      go_wp2_with fail
      go_ret
      exact ⟨rfl, HS4.out.below'⟩

set_option maxHeartbeats 1000000 in
theorem progressUp_any (last : Int) (a : Option Addr) (cap : Nat) (l : List Int) (w : World) (h0 : 0 ≤ last) (hl : Nums .u64 w a l) (hwf : ∀ x ∈ l, 0 ≤ x) :
    Calls Try.prog 5 #[.int .u64 last, .slice a l.length cap] w fun e w' => e = .returned (.bool true) ∧ Below w.heap.size w w' := by
  by_cases hlen : l.length ≤ 60
  · by_cases h1 : last ≤ 4611686018427387904
    · exact progressUp_in last a cap l w h0 h1 hl hwf hlen
    · clear hl hwf
      go_enter Try.func5, Try.ntmps5
      go_wp2_with fail
      refine (lives_any w).mono ?_
      rintro e w1 ⟨rfl, hs⟩
      have HS := Lib.hid hs
      clear hs
      go_wp2_with fail
      refine (lives_any w1).mono ?_
      rintro e w2 ⟨rfl, hs⟩
      have HT := Lib.hid (HS.out.then hs (fun k hk => by cases hk))
      clear hs HS
      go_wp2_with fail
      go_ret
      exact ⟨rfl, HT.out.below'⟩
  · clear hl hwf
    go_enter Try.func5, Try.ntmps5
    go_wp2_with fail
    refine (lives_any w).mono ?_
    rintro e w1 ⟨rfl, hs⟩
    have HS := Lib.hid hs
    clear hs
    go_wp2_with fail
    refine (lives_any w1).mono ?_
    rintro e w2 ⟨rfl, hs⟩
    have HT := Lib.hid (HS.out.then hs (fun k hk => by cases hk))
    clear hs HS
    go_wp2_with fail
    go_ret
    exact ⟨rfl, HT.out.below'⟩
end Go.Proofs.Ytffhldfbdchdkaa
