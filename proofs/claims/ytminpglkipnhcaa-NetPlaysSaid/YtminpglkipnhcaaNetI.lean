/- net: Lose, Last, Send, Twice. -/
import Derived.Test.YtminpglkipnhcaaNetH
namespace Go.Proofs.Ytminpglkipnhcaa
set_option linter.unusedVariables false
open Go.RowKit
attribute [local go_sem ↓] exec_load_m exec_store_m
attribute [local go_sem] Try.load_m row_drew Try.store_m

section
variable (base nb mb : Nat) (lv : Value) (L : List Ms) (n : Nat) (f : PK → Option Bool)
set_option maxHeartbeats 400000 in
theorem lose_no (i : Int) (w : World) (h : Nt w base nb mb lv L n f) (hi : hasI i L.length = false) :
    Calls Try.prog 16 #[.pointer (some ⟨nb, 0, none⟩), .int .i64 i] w fun e w' => e = .returned (.bool false) ∧ w = w' := by
  have HH := Lib.hid (has_any base nb mb lv L n f i w h)
  rw [hi] at HH
  clear h hi
  go_enter Try.func16, Try.ntmps16
  go_wp2_with fail
  refine HH.out.mono ?_
  rintro e w' ⟨rfl, rfl⟩
  go_wp2_with fail
  go_ret
  exact ⟨rfl, rfl⟩
theorem lose_nil (i : Int) (w : World) : Calls Try.prog 16 #[.pointer none, .int .i64 i] w fun e w' => e = .returned (.bool false) ∧ w = w' := by
  go_enter Try.func16, Try.ntmps16
  go_wp2_with fail
  refine (has_nil _ _).mono ?_
  rintro e w' ⟨rfl, rfl⟩
  go_wp2_with fail
  go_ret
  exact ⟨rfl, rfl⟩
set_option maxHeartbeats 400000 in
theorem lose_yes (i : Nat) (w : World) (h : Nt w base nb mb lv L n f) (hi : i < L.length) :
    Calls Try.prog 16 #[.pointer (some ⟨nb, 0, none⟩), .int .i64 (i : Int)] w fun e w' => e = .returned (.bool true) ∧ PutPost base nb mb lv (L.eraseIdx i) n f w w' := by
  have HH := Lib.hid (has_any base nb mb lv L n f (i : Int) w h)
  have hhas : hasI (i : Int) L.length = true := by simp [hasI, hi]
  rw [hhas] at HH
  have HC := Lib.hid (cut_any base nb mb lv L n f i w h hi)
  clear h hi hhas
  go_enter Try.func16, Try.ntmps16
  go_wp2_with fail
  refine HH.out.mono ?_
  rintro e w' ⟨rfl, rfl⟩
  go_wp2_with fail
  refine HC.out.mono ?_
  rintro e w' ⟨rfl, hP⟩
  have HP := Lib.hid hP
  clear hP
  go_wp2_with fail
  go_ret
  exact ⟨rfl, HP.out⟩
set_option maxHeartbeats 400000 in
theorem last_no (i : Int) (w : World) (h : Nt w base nb mb lv L n f) (hi : hasI i L.length = false) :
    Calls Try.prog 17 #[.pointer (some ⟨nb, 0, none⟩), .int .i64 i] w fun e w' => e = .returned (.bool false) ∧ w = w' := by
  have HH := Lib.hid (has_any base nb mb lv L n f i w h)
  rw [hi] at HH
  clear h hi
  go_enter Try.func17, Try.ntmps17
  go_wp2_with fail
  refine HH.out.mono ?_
  rintro e w' ⟨rfl, rfl⟩
  go_wp2_with fail
  go_ret
  exact ⟨rfl, rfl⟩
theorem last_nil (i : Int) (w : World) : Calls Try.prog 17 #[.pointer none, .int .i64 i] w fun e w' => e = .returned (.bool false) ∧ w = w' := by
  go_enter Try.func17, Try.ntmps17
  go_wp2_with fail
  refine (has_nil _ _).mono ?_
  rintro e w' ⟨rfl, rfl⟩
  go_wp2_with fail
  go_ret
  exact ⟨rfl, rfl⟩
theorem PutPost.then {lv : Value} {L L' : List Ms} {w w' w'' : World} {base nb mb : Nat} {n : Nat} {f : PK → Option Bool} {lv' : Value} (h1 : Nt w' base nb mb lv' L n f) (h2 : Step (nb :: foot lv) w w') (h3 : Fresh w (foot lv) (foot lv')) (h : PutPost base nb mb lv' L' n f w' w'') : PutPost base nb mb lv L' n f w w'' := by
  obtain ⟨lv'', k1, k2, k3⟩ := h
  refine ⟨lv'', k1, h2.then k2 (fun k hk => ?_), fun k hk => ?_⟩
  · rcases List.mem_cons.1 hk with h4 | h4
    · exact .inl (by simp [h4])
    · exact (h3 k h4).imp (List.mem_cons_of_mem _) id
  · rcases k3 k hk with h4 | h4
    · exact h3 k h4
    · exact .inr (Nat.le_trans h2.size h4)
set_option maxHeartbeats 400000 in
theorem last_yes (i : Nat) (w : World) (h : Nt w base nb mb lv L n f) (hi : i < L.length) (h65 : L.length ≤ 65) :
    Calls Try.prog 17 #[.pointer (some ⟨nb, 0, none⟩), .int .i64 (i : Int)] w fun e w' => e = .returned (.bool true) ∧ PutPost base nb mb lv (putL (L.eraseIdx i) (L.getD i ms0)) n f w w' := by
  have HH := Lib.hid (has_any base nb mb lv L n f (i : Int) w h)
  have hhas : hasI (i : Int) L.length = true := by simp [hasI, hi]
  rw [hhas] at HH
  have HC := Lib.hid (cut_any base nb mb lv L n f i w h hi)
  have HL : (L.eraseIdx i).length ≤ 64 := by rw [List.length_eraseIdx]; simp [hi]; omega
  obtain ⟨PL, hPL⟩ : ∃ PL, putL (L.eraseIdx i) (L.getD i ms0) = PL := ⟨_, rfl⟩
  have HPL := Lib.hid hPL
  rw [hPL]
  clear h hi hhas hPL
  go_enter Try.func17, Try.ntmps17
  go_wp2_with fail
  refine HH.out.mono ?_
  rintro e w' ⟨rfl, rfl⟩
  go_wp2_with fail
  refine HC.out.mono ?_
  rintro e w1 ⟨rfl, lv1, hN1, hs1, hf1⟩
  have HP := Lib.hid (put_any base nb mb lv1 (L.eraseIdx i) n f (L.getD i ms0) w1 hN1 HL)
  have H1 := Lib.hid (And.intro hN1 (And.intro hs1 hf1))
  clear hN1 hs1 hf1
  go_wp2_with fail
  refine HP.out.mono ?_
  rintro e w2 ⟨rfl, hP⟩
  have H2 := Lib.hid (PutPost.then H1.out.1 H1.out.2.1 H1.out.2.2 hP)
  clear hP
  go_wp2_with fail
  go_ret
  exact ⟨rfl, by rw [← HPL.out]; exact H2.out⟩
/-- a message that came, in new memory, and is the last one -/
def SendPost (M : PM) (w w' : World) : Prop := ∃ lv' x' D', Nt w' base nb mb lv' (putL L x') n f ∧ Step (nb :: foot lv) w w' ∧ Fresh w (foot lv) (foot lv') ∧ MsOk w' D' x' M ∧ (∀ k, k ∈ D' → w.heap.size ≤ k ∧ k < w'.heap.size) ∧ Dj D' (footN nb mb lv') ∧ UnF w' D'
theorem send_post {M : PM} {x' : Ms} {D' : List Nat} {w w1 w' : World} (hN : Nt w base nb mb lv L n f) (hok : MsOk w1 D' x' M) (hD : ∀ k, k ∈ D' → w.heap.size ≤ k ∧ k < w1.heap.size) (hs : Step [] w w1) (hu : UnF w1 D') (hP : PutPost base nb mb lv (putL L x') n f w1 w') : SendPost base nb mb lv L n f M w w' := by
  obtain ⟨lv', h1, h2, h3⟩ := hP
  have hl := hN.live
  have hs1 := hs.size
  refine ⟨lv', x', D', h1, (hs.mono (by simp)).then h2 (fun k hk => .inl hk), fun k hk => (h3 k hk).imp id (fun h => Nat.le_trans hs.size h), hok.step h2 (fun k hk hm => ?_), fun k hk => ⟨(hD k hk).1, Nat.lt_of_lt_of_le (hD k hk).2 h2.size⟩, fun k hk hm => ?_, hu.step h2 (fun k hk hm => ?_)⟩
  · have := (hl k (by
      rcases List.mem_cons.1 hm with h | h
      · simp [footN, h]
      · simp [footN, h])).2
    have := (hD k hk).1
    omega
  · simp only [footN, List.mem_cons] at hm
    have h4 := hD k hk
    rcases hm with h | h | h
    · have := (hl nb (by simp [footN])).2; omega
    · have := (hl mb (by simp [footN])).2; omega
    · rcases h3 k h with h5 | h5
      · have := (hl k (by simp [footN, h5])).2; omega
      · omega
  · have := (hl k (by
      rcases List.mem_cons.1 hm with h | h
      · simp [footN, h]
      · simp [footN, h])).2
    have := (hD k hk).1
    omega
set_option maxRecDepth 20000 in
set_option maxHeartbeats 400000 in
theorem send_no (x : Ms) (w : World) (h : Nt w base nb mb lv L n f) (ha : (Lit.int .i64 x.fr).wf = true) (hb : (Lit.int .i64 x.too).wf = true) (hwl : wld f (pk x.fr x.too ha hb) = true) :
    Calls Try.prog 8 #[.pointer (some ⟨nb, 0, none⟩), .agg (msC x).toArray] w fun e w' => e = .returned (.bool false) ∧ Step [] w w' := by
  have hb1 := Blk.new w (msC x).toArray 31
  have hst := (Step.refl [] w).alloc (.cells (msC x).toArray 31)
  have HW := Lib.hid (fun (w1 : World) (hs : Step [] w w1) => walled_any base nb mb lv L n f x.fr x.too ha hb w1 (h.step0 hs))
  rw [hwl] at HW
  obtain ⟨c0, c1, c2, -⟩ := msg_cells hb1
  have HS := Lib.hid hst
  clear h hb1 hst hwl
  go_enter Try.func8, Try.ntmps8
  go_wp2_with fail
  refine (HW.out _ HS.out).mono ?_
  rintro e w1 ⟨rfl, hs1⟩
  have HS1 := Lib.hid (HS.out.then hs1 (by simp))
  clear hs1 c0 c1 c2
  go_wp2_with fail
  go_ret
  exact ⟨rfl, HS1.out⟩
theorem send_nil (x : Ms) (w : World) : Calls Try.prog 8 #[.pointer none, .agg (msC x).toArray] w fun e w' => e = .returned (.bool false) ∧ Step [] w w' := by
  go_enter Try.func8, Try.ntmps8
  go_wp2_with fail
  go_ret
  exact ⟨rfl, (Step.refl [] w).alloc _⟩
set_option maxRecDepth 20000 in
set_option maxHeartbeats 400000 in
theorem send_yes (x : Ms) (M : PM) (D : List Nat) (w : World) (h : Nt w base nb mb lv L n f) (hx : MsOk w D x M) (hf : Few M) (h64 : L.length ≤ 64) (ha : (Lit.int .i64 x.fr).wf = true) (hb : (Lit.int .i64 x.too).wf = true) (hwl : wld f (pk x.fr x.too ha hb) = false) :
    Calls Try.prog 8 #[.pointer (some ⟨nb, 0, none⟩), .agg (msC x).toArray] w fun e w' => e = .returned (.bool true) ∧ SendPost base nb mb lv L n f M w w' := by
  have hb1 := Blk.new w (msC x).toArray 31
  have hst := (Step.refl [] w).alloc (.cells (msC x).toArray 31)
  have HN0 := Lib.hid h
  have HW := Lib.hid (fun (w1 : World) (hs : Step [] w w1) => walled_any base nb mb lv L n f x.fr x.too ha hb w1 (h.step0 hs))
  rw [hwl] at HW
  have HX := Lib.hid hx
  obtain ⟨c0, c1, c2, -⟩ := msg_cells hb1
  have HM := Lib.hid hb1
  have HS := Lib.hid hst
  clear h hx hb1 hst hwl
  go_enter Try.func8, Try.ntmps8
  go_wp2_with fail
  refine (HW.out _ HS.out).mono ?_
  rintro e w1 ⟨rfl, hs1⟩
  have r1 := msg_row (HM.out.step hs1 (by simp))
  have HS1 := Lib.hid (HS.out.then hs1 (by simp))
  have HC := Lib.hid (clone_any x M D w1 (HX.out.step HS1.out (by intro k _; simp)) hf)
  clear hs1 c0 c1 c2
  go_wp2_with fail
  refine HC.out.mono ?_
  rintro e w2 ⟨x', D', rfl, hok, hD, hs2, hu2⟩
  have HS2 := Lib.hid (HS1.out.then hs2 (by simp))
  have HP := Lib.hid (put_any base nb mb lv L n f x' w2 (HN0.out.step0 HS2.out) h64)
  have HO := Lib.hid (And.intro hok (And.intro (fun k hk => (⟨Nat.le_trans HS1.out.size (hD k hk).1, (hD k hk).2⟩ : w.heap.size ≤ k ∧ k < w2.heap.size)) hu2))
  clear hok hD hs2 hu2 r1
  go_wp2_with fail
  refine HP.out.mono ?_
  rintro e w3 ⟨rfl, hP⟩
  have HF := Lib.hid (send_post base nb mb lv L n f HN0.out HO.out.1 HO.out.2.1 HS2.out HO.out.2.2 hP)
  clear hP
  go_wp2_with fail
  go_ret
  exact ⟨rfl, HF.out⟩
end
end Go.Proofs.Ytminpglkipnhcaa
