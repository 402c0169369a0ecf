/- NetOrder: the walk. -/
import Derived.Test.YtminpglkipnhcaaNetI
namespace Go.Proofs.Ytminpglkipnhcaa
set_option linter.unusedVariables false
open Go.RowKit
attribute [local go_sem ↓] exec_load_m exec_store_m
attribute [local go_sem] Try.load_m row_drew Try.store_m

/-- a net of the call's own, without walls; each message's sender and receiver are numbers -/
structure NetN (w0 : World) (nb mb : Nat) (L : List Ms) (w : World) (lv : Value) : Prop where
  net : Nt w w0.heap.size nb mb lv L 0 (fun _ => none)
  st : Step [] w0 w
theorem NetN.send {w0 w w' : World} {nb mb : Nat} {L : List Ms} {lv : Value} {M : PM} (h : NetN w0 nb mb L w lv) (hP : SendPost w0.heap.size nb mb lv L 0 (fun _ => none) M w w') : ∃ lv' x', NetN w0 nb mb (putL L x') w' lv' ∧ x'.kd = M.kd ∧ x'.fr = M.fr ∧ x'.too = M.too ∧ x'.tm = M.tm := by
  obtain ⟨lv', x', D', h1, h2, h3, h4, h5, h6⟩ := hP
  refine ⟨lv', x', ⟨h1, h.st.then h2 (fun k hk => .inr ?_)⟩, h4.kd, h4.fr, h4.too, h4.tm⟩
  exact (h.net.live k (by
    rcases List.mem_cons.1 hk with h | h
    · simp [footN, h]
    · simp [footN, h])).1
theorem NetN.put {w0 w w' : World} {nb mb : Nat} {L L' : List Ms} {lv : Value} (h : NetN w0 nb mb L w lv) (hP : PutPost w0.heap.size nb mb lv L' 0 (fun _ => none) w w') : ∃ lv', NetN w0 nb mb L' w' lv' := by
  obtain ⟨lv', h1, h2, h3⟩ := hP
  refine ⟨lv', ⟨h1, h.st.then h2 (fun k hk => .inr ?_)⟩⟩
  exact (h.net.live k (by
    rcases List.mem_cons.1 hk with h | h
    · simp [footN, h]
    · simp [footN, h])).1
theorem NetN.step {w0 w w' : World} {nb mb : Nat} {L : List Ms} {lv : Value} (h : NetN w0 nb mb L w lv) (hs : Step [] w w') : NetN w0 nb mb L w' lv := ⟨h.net.step0 hs, h.st.then hs (by simp)⟩
/-- a variable that a message is stored into -/
theorem box_m (w : World) (x : Ms) : (w.alloc (.cells (msC ms0).toArray 31)).there w.heap.size 0 11 ∧ Blk ((w.alloc (.cells (msC ms0).toArray 31)).setCells w.heap.size 0 (msC x)) w.heap.size (msC x).toArray 31 ∧ Step [] w ((w.alloc (.cells (msC ms0).toArray 31)).setCells w.heap.size 0 (msC x)) :=
  ⟨msg_there (Blk.new w _ _), msg_set (Blk.new w _ _), ((Step.refl [] w).alloc _).setCells (.inr (Nat.le_refl _)) _ _⟩
theorem wld_none (p : PK) : wld (fun _ => none) p = false := rfl

theorem take_free {w0 w : World} {nb mb : Nat} {L : List Ms} {lv : Value} (h : NetN w0 nb mb L w lv) (i : Nat) (hi : i < L.length) (h1 : (L.getD i ms0).fr = 1) (h2 : (L.getD i ms0).too = 2) :
    Calls Try.prog 10 #[.pointer (some ⟨nb, 0, none⟩), .int .i64 (i : Int)] w fun e w' => e = .returned (.tuple #[.agg (msC (L.getD i ms0)).toArray, .bool true]) ∧ ∃ lv', NetN w0 nb mb (L.eraseIdx i) w' lv' := by
  refine (take_yes w0.heap.size nb mb lv L 0 (fun _ => none) i w h.net hi (by rw [h1]; rfl) (by rw [h2]; rfl)).mono ?_
  intro e w5 hT
  unfold TakeBoth at hT
  rw [wld_none, if_neg (by simp)] at hT
  exact ⟨hT.1, h.put hT.2⟩
theorem take_empty {w0 w : World} {nb mb : Nat} {lv : Value} (h : NetN w0 nb mb [] w lv) (i : Int) :
    Calls Try.prog 10 #[.pointer (some ⟨nb, 0, none⟩), .int .i64 i] w fun e w' => e = .returned (.tuple #[.agg (msC ms0).toArray, .bool false]) ∧ NetN w0 nb mb [] w' lv := by
  refine (take_no w0.heap.size nb mb lv [] 0 (fun _ => none) i w h.net (by simp [hasI])).mono ?_
  rintro e w5 ⟨h1, h2⟩
  exact ⟨h1, h.step h2⟩
set_option maxRecDepth 20000 in
set_option maxHeartbeats 1000000 in
theorem lives_any (w : World) : Calls Try.prog 6 #[] w fun e w' => e = .returned (.bool true) ∧ Step [] w w' := by
  have hzv := zeroM
  unfold msV at hzv
  have hC0 : ¬ (msC ms0).toArray = #[] := by decide
  go_enter Try.func6, Try.ntmps6
  go_wp2_with fail
  refine (new_any w).mono ?_
  rintro e w1 ⟨nb, mb, rfl, hN, hs⟩
  have H1 := Lib.hid (show NetN w nb mb [] w1 _ from ⟨hN, hs⟩)
  clear hN hs
  go_wp2_with fail
  refine (send_yes w.heap.size nb mb _ [] 0 (fun _ => none) (bare 0 1 2 7 0 0 0 false) _ [] w1 H1.out.net (bare_ok _ _ _ _ _ _ _ _ _ _) (few_bare _ _ _ _ _ _ _ _) (by simp) (by decide) (by decide) (wld_none _)).mono ?_
  rintro e w2 ⟨rfl, hP⟩
  obtain ⟨lv2, x1, h2, -, q1, q2, q3⟩ := H1.out.send hP
  rw [show putL [] x1 = [x1] from rfl] at h2
  have H2 := Lib.hid h2
  have Q1 := Lib.hid (And.intro q1 (And.intro q2 q3))
  clear hP h2 q1 q2 q3
  go_wp2_with fail
  refine (send_yes w.heap.size nb mb _ [x1] 0 (fun _ => none) (bare 0 1 2 8 0 0 0 false) _ [] w2 H2.out.net (bare_ok _ _ _ _ _ _ _ _ _ _) (few_bare _ _ _ _ _ _ _ _) (by simp) (by decide) (by decide) (wld_none _)).mono ?_
  rintro e w3 ⟨rfl, hP⟩
  obtain ⟨lv3, x2, h3, -, p1, p2, p3⟩ := H2.out.send hP
  rw [show putL [x1] x2 = [x1, x2] from rfl] at h3
  have H3 := Lib.hid h3
  have Q2 := Lib.hid (And.intro p1 (And.intro p2 p3))
  clear hP h3 p1 p2 p3
  go_wp2_with fail
  refine (last_yes w.heap.size nb mb _ [x1, x2] 0 (fun _ => none) 0 w3 H3.out.net (by simp) (by simp)).mono ?_
  rintro e w4 ⟨rfl, hP⟩
  obtain ⟨lv4, h4⟩ := H3.out.put hP
  rw [show putL (List.eraseIdx [x1, x2] 0) (List.getD [x1, x2] 0 ms0) = [x2, x1] from rfl] at h4
  have H4 := Lib.hid h4
  clear hP h4
  go_wp2_with fail
  have ha : (Lit.int .i64 (List.getD [x2, x1] 0 ms0).fr).wf = true := by show (Lit.int .i64 x2.fr).wf = true; rw [Q2.out.1]; rfl
  have hb : (Lit.int .i64 (List.getD [x2, x1] 0 ms0).too).wf = true := by show (Lit.int .i64 x2.too).wf = true; rw [Q2.out.2.1]; rfl
  refine (take_yes w.heap.size nb mb _ [x2, x1] 0 (fun _ => none) 0 w4 H4.out.net (by simp) ha hb).mono ?_
  rintro e w5 hT
  unfold TakeBoth at hT
  rw [wld_none, if_neg (by simp)] at hT
  obtain ⟨rfl, hP⟩ := hT
  obtain ⟨lv5, h5⟩ := H4.out.put hP
  have H5 := Lib.hid h5
  clear hP h5 ha hb
  rw [show List.getD [x2, x1] 0 ms0 = x2 from rfl]
  obtain ⟨bt, bb, bs⟩ := box_m w5 x2
  have c3 := (msg_cells bb).2.2.2.1
  rw [Q2.out.2.2] at c3
  have H6 := Lib.hid (H5.out.step bs)
  clear bb bs
  go_wp2_with fail
  refine (len_any w.heap.size nb mb _ _ 0 (fun _ => none) _ H6.out.net).mono ?_
  rintro e w6 ⟨rfl, hs6⟩
  have H7 := Lib.hid (H6.out.st.then hs6 (by simp))
  clear hs6
  go_wp2_with fail
  go_ret
  exact ⟨rfl, H7.out⟩
end Go.Proofs.Ytminpglkipnhcaa
