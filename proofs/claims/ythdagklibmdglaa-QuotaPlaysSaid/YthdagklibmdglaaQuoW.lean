/- QuotaPlays: the walk's beginning. -/
import Derived.Test.YthdagklibmdglaaQuoS
namespace Go.Proofs.Ythdagklibmdglaa
set_option linter.unusedVariables false
set_option linter.unusedSimpArgs false
open Go.RowKit Go.Maps
theorem qplays_w0 (w : World) (each : Int) : ∃ W0 eb rb, (w.alloc (.cells #[.int .i64 each] 3)).alloc (.cells #[.bool false] 4) = W0 ∧ w.heap.size = eb ∧ w.heap.size + 1 = rb ∧ Blk W0 eb #[.int .i64 each] 3 ∧ Blk W0 rb #[.bool false] 4 ∧ Step [] w W0 := by
  refine ⟨_, _, _, rfl, rfl, rfl, (Blk.new w _ _).alloc _, ?_, ((Step.refl [] w).alloc _).alloc _⟩
  have := Blk.new (w.alloc (.cells #[.int .i64 each] 3)) #[.bool false] 4
  rwa [World.size_alloc] at this
theorem qplays_res {tmps : Array Value} {w : World} {rb : Nat} {v : Value} (h4 : tmps[4]?.getD undef = .pointer (some ⟨rb, 0, none⟩)) (hc : w.cell? ⟨rb, 0, none⟩ = some v) :
    (results Try.f4 tmps).run Try.prog w = .ok v w := by
  simp [results, Try.f4, go_sem, hc, h4]
set_option maxRecDepth 100000 in
set_option maxHeartbeats 1000000 in
theorem qplays_much (each : Int) (a : Option Addr) (cap len : Nat) (w : World) (h : ¬ len ≤ 80) :
    Calls Try.prog 4 #[.int .i64 each, .slice a len cap] w fun e w' => e = .returned (.bool true) ∧ Step [] w w' := by
  have q1 : ((80 : Int) < (len : Int)) = True := by simp; omega
  obtain ⟨W0, eb, rb, hW0, heb, hrb, hbe, hbr, hs0⟩ := qplays_w0 w each
  have HW := Lib.hid (And.intro hW0 (And.intro heb hrb))
  have HB := Lib.hid (And.intro hbe (And.intro hbr hs0))
  clear h hW0 heb hrb hbe hbr hs0
  go_enter Try.func4, Try.ntmps4
  go_wp2_with (rw [HW.out.1, HW.out.2.2])
  refine (lives_any _).mono ?_
  rintro e w1 ⟨rfl, hs⟩
  have HS := Lib.hid hs
  clear hs
  go_wp2_with fail
  refine (lives_any w1).mono ?_
  rintro e w2 ⟨rfl, hs⟩
  have hb2 := (HB.out.2.1.step HS.out (by simp)).step hs (by simp)
  have HT := Lib.hid (And.intro hb2 ((HB.out.2.2.then HS.out (by simp)).then hs (by simp)))
  have c0 := hb2.cell 0
  have f0 := hb2.free 0
  simp only [List.getElem?_toArray, List.getElem?_cons_zero] at c0
  have hrl : w.heap.size ≤ rb := by have := HW.out.2.2; omega
  clear hs HS hb2
  go_wp2_with fail
  have hb3 := (HT.out.1.set 0 (.bool true)).cell 0
  refine bodyPost_ret (v := .bool true) (qplays_res rfl hb3) rfl ⟨rfl, HT.out.2.then ((Step.refl [rb] w2).setCell (.inl (by simp)) 0 _) (fun k hk => .inr (by simp at hk; omega))⟩
set_option maxRecDepth 100000 in
set_option maxHeartbeats 1000000 in
theorem qplays_bad (each : Int) (a : Option Addr) (cap len : Nat) (w : World) (h : len ≤ 80) (he : ¬ (0 ≤ each ∧ each ≤ 128)) :
    Calls Try.prog 4 #[.int .i64 each, .slice a len cap] w fun e w' => e = .returned (.bool true) ∧ Step [] w w' := by
  have q1 : ((80 : Int) < (len : Int)) = False := by simp; omega
  obtain ⟨W0, eb, rb, hW0, heb, hrb, hbe, hbr, hs0⟩ := qplays_w0 w each
  have HW := Lib.hid (And.intro hW0 (And.intro heb hrb))
  have HB := Lib.hid (And.intro hbe (And.intro hbr hs0))
  have HE := Lib.hid he
  clear h hW0 heb hrb hbe hbr hs0 he
  go_enter Try.func4, Try.ntmps4
  go_wp2_with (rw [HW.out.1, HW.out.2.2, HW.out.2.1])
  refine (lives_any _).mono ?_
  rintro e w1 ⟨rfl, hs⟩
  have HS := Lib.hid hs
  have c0 := (HB.out.1.step hs (by simp)).cell 0
  have hb2 := (HB.out.2.1.step hs (by simp))
  have c1 := hb2.cell 0
  have f1 := hb2.free 0
  simp only [List.getElem?_toArray, List.getElem?_cons_zero] at c0 c1
  have HT := Lib.hid (And.intro hb2 (HB.out.2.2.then HS.out (by simp)))
  clear hs hb2
  go_wp2_with fail
  refine (new_no each w1 HE.out).mono ?_
  rintro e w2 ⟨rfl, rfl⟩
  have hrl : w.heap.size ≤ rb := by have := HW.out.2.2; omega
  have hb3 := (HT.out.1.set 0 (.bool true)).cell 0
  by_cases h0 : each < 0
  · go_wp2_with fail
    refine bodyPost_ret (v := .bool true) (qplays_res rfl hb3) rfl ⟨rfl, HT.out.2.then ((Step.refl [rb] w1).setCell (.inl (by simp)) 0 _) (fun k hk => .inr (by simp at hk; omega))⟩
  · have h1 : 128 < each := by have := HE.out; omega
    go_wp2_with fail
    refine bodyPost_ret (v := .bool true) (qplays_res rfl hb3) rfl ⟨rfl, HT.out.2.then ((Step.refl [rb] w1).setCell (.inl (by simp)) 0 _) (fun k hk => .inr (by simp at hk; omega))⟩
/-- what a copy does -/
theorem ltake_some {tb hb mb n : Nat} {each : Int} {f g : ByteArray → Option Int} (s : ByteArray) (w : World) (hT : Lg w tb hb mb n each f g) (hs : s.size ≤ maxLen) (hn : n < 1000000) (h0 : 0 ≤ hasV f s) (he : hasV f s < 1000000) :
    Calls Try.prog 10 #[.pointer (some ⟨tb, 0, none⟩), .string s] w fun e w' => ∃ x f', e = .returned (.int .i64 x) ∧ Lg w' tb hb mb (n + 1) each f' g ∧ Step [hb] w w' := by
  by_cases h : hasV f s < mayV each g s
  · exact (ltake_any s w hT hs hn h0 he h).mono fun e w' ⟨h1, h2, h3⟩ => ⟨_, _, h1, h2, h3⟩
  · exact (ltake_no s w hT hs h).mono fun e w' ⟨h1, h2⟩ => ⟨_, f, h1, by rw [← h2]; exact hT.mono (by omega), by rw [← h2]; exact Step.refl _ _⟩
theorem lset_some {tb hb mb n : Nat} {each : Int} {f g : ByteArray → Option Int} {L : List ByteArray} (s : ByteArray) (x : Int) (w : World) (hT : Lg w tb hb mb n each f g) (hL : Told g L) (hs : s.size ≤ maxLen) (h0 : 0 ≤ x) (h1 : x ≤ 128) (hn : n < 1000000) :
    Calls Try.prog 13 #[.pointer (some ⟨tb, 0, none⟩), .string s, .int .i64 x] w fun e w' => ∃ y g', e = .returned (.int .i64 y) ∧ Lg w' tb hb mb (n + 1) each f g' ∧ Step [mb] w w' := by
  by_cases h : g s = none → L.length < 16
  · exact (lset_any s x L w hT hL hs h0 h1 h hn).mono fun e w' ⟨h1, h2, h3⟩ => ⟨_, _, h1, h2, h3⟩
  · refine (lset_full s x L w hT hL hs h0 h1 (by
      cases e : g s with
      | none => rfl
      | some z => exact absurd (fun h2 => by rw [e] at h2; cases h2) h) (by
      rcases Nat.lt_or_ge L.length 16 with h2 | h2
      · exact absurd (fun _ => h2) h
      · exact h2)).mono fun e w' ⟨h1, h2⟩ => ⟨_, g, h1, by rw [← h2]; exact hT.mono (by omega), by rw [← h2]; exact Step.refl _ _⟩
/-- the world as the loop is come to -/
def qW3 (w2 : World) : World :=
  ((((w2.alloc (.cells #[.slice none 0 0] 33)).alloc (.map #[] 0)).alloc (.map #[] 0)).alloc (.cells #[.map (some (w2.heap.size + 1))] 34)).alloc (.cells #[.map (some (w2.heap.size + 2))] 34)
theorem qW3_is (w2 : World) : ∃ Z W, w2.heap.size = Z ∧ qW3 w2 = W ∧ Step [] w2 W ∧ Blk W Z #[.slice none 0 0] 33 ∧ MapF sK elN W (Z + 1) 0 (fun _ => none) ∧ MapF sK elN W (Z + 2) 0 (fun _ => none) ∧ Blk W (Z + 3) #[.map (some (Z + 1))] 34 ∧ Blk W (Z + 4) #[.map (some (Z + 2))] 34 ∧ W.heap.size = Z + 5 := by
  unfold qW3
  obtain ⟨Z, hZ⟩ : ∃ Z, w2.heap.size = Z := ⟨_, rfl⟩
  have b1 := Blk.new w2 #[.slice none 0 0] 33
  have s1 := (Step.refl [] w2).alloc (.cells #[.slice none 0 0] 33)
  obtain ⟨C1, h1⟩ : ∃ C, w2.alloc (.cells #[.slice none 0 0] 33) = C := ⟨_, rfl⟩
  have z1 : C1.heap.size = Z + 1 := by rw [← h1, World.size_alloc, hZ]
  have m2 := MapF.made sK elN C1
  have s2 := (Step.refl [] C1).alloc (.map #[] 0)
  obtain ⟨C2, h2⟩ : ∃ C, C1.alloc (.map #[] 0) = C := ⟨_, rfl⟩
  have z2 : C2.heap.size = Z + 2 := by rw [← h2, World.size_alloc, z1]
  have m3 := MapF.made sK elN C2
  have s3 := (Step.refl [] C2).alloc (.map #[] 0)
  obtain ⟨C3, h3⟩ : ∃ C, C2.alloc (.map #[] 0) = C := ⟨_, rfl⟩
  have z3 : C3.heap.size = Z + 3 := by rw [← h3, World.size_alloc, z2]
  have b4 := Blk.new C3 #[.map (some (Z + 1))] 34
  have s4 := (Step.refl [] C3).alloc (.cells #[.map (some (Z + 1))] 34)
  obtain ⟨C4, h4⟩ : ∃ C, C3.alloc (.cells #[.map (some (Z + 1))] 34) = C := ⟨_, rfl⟩
  have z4 : C4.heap.size = Z + 4 := by rw [← h4, World.size_alloc, z3]
  have b5 := Blk.new C4 #[.map (some (Z + 2))] 34
  have s5 := (Step.refl [] C4).alloc (.cells #[.map (some (Z + 2))] 34)
  obtain ⟨C5, h5⟩ : ∃ C, C4.alloc (.cells #[.map (some (Z + 2))] 34) = C := ⟨_, rfl⟩
  have z5 : C5.heap.size = Z + 5 := by rw [← h5, World.size_alloc, z4]
  rw [hZ, h1, h2, h3, h4, h5]
  rw [h1, hZ] at b1
  rw [h1] at s1
  rw [h2, z1] at m2
  rw [h2] at s2
  rw [h3, z2] at m3
  rw [h3] at s3
  rw [h4, z3] at b4
  rw [h4] at s4
  rw [h5, z4] at b5
  rw [h5] at s5
  refine ⟨Z, C5, rfl, rfl, (((s1.then s2 (by simp)).then s3 (by simp)).then s4 (by simp)).then s5 (by simp), ?_, ?_, ?_, b4.step s5 (by simp), b5, z5⟩
  · exact (((b1.step s2 (by simp)).step s3 (by simp)).step s4 (by simp)).step s5 (by simp)
  · exact ((m2.step s3 (by simp)).step s4 (by simp)).step s5 (by simp)
  · exact (m3.step s4 (by simp)).step s5 (by simp)
theorem qplays_start {w W0 w1 w2 : World} {each : Int} {tb hb mb eb rb : Nat} (hs0 : Step [] w W0) (he : Blk W0 eb #[.int .i64 each] 3) (hr : Blk W0 rb #[.bool false] 4) (hwe : w.heap.size = eb) (hwr : w.heap.size + 1 = rb) (hs1 : Step [] W0 w1) (hs2 : Step [] w1 w2)
    (hL : Lg w2 tb hb mb 0 each (fun _ => none) (fun _ => none)) (o1 : w1.heap.size ≤ tb) (o2 : w1.heap.size ≤ hb) (o3 : w1.heap.size ≤ mb) :
    ∃ B : Bx, B.tb = tb ∧ B.kb = w2.heap.size ∧ B.hx = w2.heap.size + 1 ∧ B.my = w2.heap.size + 2 ∧ B.xb = w2.heap.size + 3 ∧ B.yb = w2.heap.size + 4 ∧ B.eb = eb ∧ B.rb = rb ∧ B.kb ∉ [B.xb, B.yb, B.eb, B.rb] ∧ B.rb ∉ [B.kb, B.xb, B.yb, B.eb] ∧
      w.heap.size ≤ B.rb ∧ QK w B each 0 (fun _ => none) (fun _ => none) (fun _ => none) (fun _ => none) [] (.slice none 0 0) [] (qW3 w2) := by
  obtain ⟨Z, W, hZ, hW, sW, bk, m1, m2, b3, b4, zW⟩ := qW3_is w2
  rw [hZ, hW]
  have l1 := hr.lt
  have z1 := hs1.size
  have z2 := hs2.size
  have z0 := hs0.size
  have hst : Step [] w W := ((hs0.then hs1 (by simp)).then hs2 (by simp)).then sW (by simp)
  have hl := hL.live
  refine ⟨⟨tb, hb, mb, Z + 1, Z + 2, Z, Z + 3, Z + 4, eb, rb⟩, rfl, rfl, rfl, rfl, rfl, rfl, rfl, rfl, ?_, ?_, by simp; omega, ?_⟩
  · simp
    omega
  · simp
    omega
  · refine ⟨[tb, hb, mb] ++ ((Z + 1) :: (Z + 2) :: foot (.slice none 0 0)), ⟨_, _, rfl, ⟨rfl, hL.step0 sW⟩, ⟨rfl, m1, m2, World.ownsRow_nil _ _ _ _, by simp, by simp [foot, Value.ownBlock], by simp [foot, Value.ownBlock]⟩, ?_⟩, ?_, hst, ?_, ?_, ?_⟩
    · intro k hk hm
      have := hl k hk
      simp [foot, Value.ownBlock] at hm
      omega
    · intro k hk
      rcases List.mem_append.1 hk with hk | hk
      · have := hl k hk
        simp at hk
        omega
      · simp [foot, Value.ownBlock] at hk
        omega
    · intro k hk hm
      simp [boxO] at hk
      rcases List.mem_append.1 hm with hm | hm
      · have := hl k hm
        simp at hm
        omega
      · simp [foot, Value.ownBlock] at hm
        omega
    · intro k hk
      simp [boxO] at hk
      omega
    · intro x hx
      simp only [boxO, List.append_nil, List.mem_cons, List.not_mem_nil, or_false] at hx
      rcases hx with rfl | rfl | rfl | rfl | rfl
      · exact bk
      · exact b3
      · exact b4
      · exact ((he.step hs1 (by simp)).step hs2 (by simp)).step sW (by simp)
      · exact ((hr.step hs1 (by simp)).step hs2 (by simp)).step sW (by simp)
end Go.Proofs.Ythdagklibmdglaa
