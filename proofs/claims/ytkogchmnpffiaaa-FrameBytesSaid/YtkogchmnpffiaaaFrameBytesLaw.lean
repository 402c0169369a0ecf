/- FrameBytes: the walk of the law. -/
import Derived.Test.YtkogchmnpffiaaaFrameT
namespace Go.Proofs.Ytkogchmnpffiaaa
set_option linter.unusedVariables false
open Go.RowKit

theorem RecIn.step {w w' : World} {a : Option Addr} {cap : Nat} {d : List UInt8} (h : RecIn w a cap d) (hs : Step [] w w') : RecIn w' a cap d := ⟨h.bytes.step hs (by simp), h.nil, h.max⟩

/-- a record, or what is behind it, that is too long: the law's example alone -/
theorem fbytes_small (s : Int) (k : Int) (a b : Option Addr) (ca cb n m : Nat) (w : World) (h : 2000 < n ∨ 100 < m) :
    Calls Try.prog 4 #[.int .u32 s, .agg #[.int .u8 k, .slice a n ca], .slice b m cb] w fun e w' => e = .returned (.bool true) ∧ Step [] w w' := by
  obtain ⟨p1, p2, hp⟩ : ∃ p1 p2 : Bool, decide ((2000 : Int) < (n : Int)) = p1 ∧ decide ((100 : Int) < (m : Int)) = p2 := ⟨_, _, rfl, rfl⟩
  obtain ⟨h1, h2⟩ := hp
  have hor : p1 = true ∨ p2 = true := by
    rw [← h1, ← h2]
    simp
    omega
  have HO := Lib.hid hor
  have HS0 := Lib.hid ((Step.refl [] w).alloc (.cells #[.int .u8 k, .slice a n ca] 25))
  have HA := Lib.hid (Blk.new w #[.int .u8 k, .slice a n ca] 25)
  clear hor h
  go_enter Try.func4, Try.ntmps4
  go_wp2_with fail
  refine (lives_any _).mono ?_
  rintro e w1 ⟨rfl, hs⟩
  have HS := Lib.hid (HS0.out.then hs (by simp))
  have hA := (HA.out.step hs (by simp)).cell 1
  simp only [List.getElem?_toArray, List.getElem?_cons_zero, List.getElem?_cons_succ] at hA
  obtain ⟨b0, hb0⟩ : ∃ b, w.heap.size = b := ⟨_, rfl⟩
  rw [hb0] at hA ⊢
  clear hs HS0 HA
  cases p1 with
  | true =>
    go_wp2_with fail
    refine (lives_any w1).mono ?_
    rintro e w2 ⟨rfl, hs⟩
    have HT := Lib.hid (HS.out.then hs (by simp))
    clear hs
    go_wp2_with fail
    go_ret
    exact ⟨rfl, HT.out⟩
  | false =>
    cases p2 with
    | true =>
      go_wp2_with fail
      refine (lives_any w1).mono ?_
      rintro e w2 ⟨rfl, hs⟩
      have HT := Lib.hid (HS.out.then hs (by simp))
      clear hs
      go_wp2_with fail
      go_ret
      exact ⟨rfl, HT.out⟩
    | false => rcases HO.out with h | h <;> cases h

set_option maxHeartbeats 1000000 in
theorem fbytes_long (s : Int) (k : Int) (a b : Option Addr) (ca cb n m : Nat) (w : World) (hs : ∃ x : Nat, s = (x : Int)) (hn : 1024 < n) (hn2 : n ≤ 2000) (hm : m ≤ 100) :
    Calls Try.prog 4 #[.int .u32 s, .agg #[.int .u8 k, .slice a n ca], .slice b m cb] w fun e w' => e = .returned (.bool true) ∧ Step [] w w' := by
  obtain ⟨x, rfl⟩ := hs
  have p1 : decide ((2000 : Int) < (n : Int)) = false := by simp; omega
  have p2 : decide ((100 : Int) < (m : Int)) = false := by simp; omega
  have p3 : decide ((1024 : Int) < (n : Int)) = true := by simp; omega
  have HS0 := Lib.hid ((Step.refl [] w).alloc (.cells #[.int .u8 k, .slice a n ca] 25))
  have HA := Lib.hid (Blk.new w #[.int .u8 k, .slice a n ca] 25)
  go_enter Try.func4, Try.ntmps4
  go_wp2_with fail
  refine (lives_any _).mono ?_
  rintro e w1 ⟨rfl, hst⟩
  have HS := Lib.hid (HS0.out.then hst (by simp))
  have hA := HA.out.step hst (by simp)
  have x0 := hA.cell 0
  have x1 := hA.cell 1
  simp only [List.getElem?_toArray, List.getElem?_cons_zero, List.getElem?_cons_succ] at x0 x1
  obtain ⟨b0, hb0⟩ : ∃ b, w.heap.size = b := ⟨_, rfl⟩
  rw [hb0] at hA x0 x1 ⊢
  have HA1 := Lib.hid hA
  clear hst HS0 HA hA
  go_wp2_with fail
  refine (bytes_long x k a n ca w1 hn).mono ?_
  rintro e w2 ⟨rfl, hst⟩
  have HS2 := Lib.hid (HS.out.then hst (by simp))
  have hA := HA1.out.step hst (by simp)
  have y0 := hA.cell 0
  have y1 := hA.cell 1
  simp only [List.getElem?_toArray, List.getElem?_cons_zero, List.getElem?_cons_succ] at y0 y1
  clear hst hA HA1 x0 x1
  go_wp2_with fail
  go_ret
  exact ⟨rfl, HS2.out⟩

set_option maxRecDepth 20000 in
set_option maxHeartbeats 4000000 in
theorem fbytes_main (s : Nat) (k : UInt8) (a b : Option Addr) (ca cb : Nat) (d r : List UInt8) (w : World) (hs : s < 4294967296) (h1 : RecIn w a ca d) (h2 : RecIn w b cb r) (l1 : d.length ≤ 1024) (l2 : r.length ≤ 100) :
    Calls Try.prog 4 #[.int .u32 (s : Int), .agg #[.int .u8 (k.toNat : Int), .slice a d.length ca], .slice b r.length cb] w fun e w' => e = .returned (.bool true) ∧ Step [] w w' := by
  obtain ⟨i0, hi, hz0, hz1, hz2⟩ := info_parts Try.infoB
  have p1 : decide ((2000 : Int) < (d.length : Int)) = false := by simp; omega
  have p2 : decide ((100 : Int) < (r.length : Int)) = false := by simp; omega
  have p3 : decide ((1024 : Int) < (d.length : Int)) = false := by simp; omega
  have HS0 := Lib.hid ((Step.refl [] w).alloc (.cells #[.int .u8 (k.toNat : Int), .slice a d.length ca] 25))
  have HA := Lib.hid (Blk.new w #[.int .u8 (k.toNat : Int), .slice a d.length ca] 25)
  have HI1 := Lib.hid h1
  have HI2 := Lib.hid h2
  clear h1 h2
  go_enter Try.func4, Try.ntmps4
  go_wp2_with fail
  refine (lives_any _).mono ?_
  rintro e w1 ⟨rfl, hst⟩
  have HS1 := Lib.hid (HS0.out.then hst (by simp))
  have hA := HA.out.step hst (by simp)
  obtain ⟨b0, hb0⟩ : ∃ b, w.heap.size = b := ⟨_, rfl⟩
  rw [hb0] at hA ⊢
  have x0 := hA.cell 0
  have x1 := hA.cell 1
  simp only [List.getElem?_toArray, List.getElem?_cons_zero, List.getElem?_cons_succ] at x0 x1
  have HA1 := Lib.hid hA
  have HA1lt := Lib.hid hA.lt
  have HB0 := Lib.hid hb0
  clear hst HS0 HA hA hb0
  have HC1 := Lib.hid (bytes_any s k a ca d w1 hs HI1.out.nil (HI1.out.step HS1.out).bytes (by omega))
  obtain ⟨X, hX⟩ : ∃ X, frameB s k d = X := ⟨_, rfl⟩
  obtain ⟨S, hS⟩ : ∃ S, moreN s (headB k d) = S := ⟨_, rfl⟩
  have hXl := frameB_len s k d
  have hHl := headB_len k d
  have hn1 := numB_len d.length
  have hnx := nextR_good s k d r (by omega)
  rw [hX, hS] at HC1 hnx
  rw [hX] at hXl
  have HX := Lib.hid hX
  have HSe := Lib.hid hS
  have HNx := Lib.hid hnx
  have hXb : X.length ≤ 1100 := by omega
  have hXh : (headB k d).length + 4 = X.length := by omega
  have HXh := Lib.hid hXh
  clear hX hS hnx hXl hHl hXh hn1
  go_wp2_with fail
  refine HC1.out.mono ?_
  rintro e w2 ⟨v1, rfl, hown, hst⟩
  obtain ⟨g1, c1, rfl, -, -, -, -, -, -⟩ := owns_bytes hown
  have HF1 := Lib.hid (owns_base hown)
  have HO2 := Lib.hid (owns_low (base' := w.heap.size) hown (by have := HS1.out.size; omega))
  have HS2 := Lib.hid (HS1.out.then hst (by simp))
  have hA := HA1.out.step hst (by simp)
  have y0 := hA.cell 0
  have y1 := hA.cell 1
  simp only [List.getElem?_toArray, List.getElem?_cons_zero, List.getElem?_cons_succ] at y0 y1
  have HA2 := Lib.hid hA
  clear hown hst hA HC1 HA1 x0 x1
  have HC2 := Lib.hid (lawBytes_any s k a ca d w2 hs (HI1.out.step HS2.out) (by omega))
  rw [HX.out, HSe.out] at HC2
  go_wp2_with fail
  refine HC2.out.mono ?_
  rintro e w3 ⟨v2, rfl, hown2, hst⟩
  obtain ⟨g2, c2, rfl, -, -, -, hb2, hn2, -⟩ := owns_bytes hown2
  have hO3 := owns_step HO2.out hst (by simp)
  obtain ⟨g1', c1', hv1, -, -, -, hb1, hn1, -⟩ := owns_bytes hO3
  cases hv1
  have cv1 := hb1.str (P := Try.prog) (fun h => (hn1 h).1) c1 23 9 5 Try.underlying23 Try.underlying5 Try.underlying9
  have cv2 := hb2.str (P := Try.prog) (fun h => (hn2 h).1) c2 23 9 5 Try.underlying23 Try.underlying5 Try.underlying9
  have HO3 := Lib.hid hO3
  have HS3 := Lib.hid (HS2.out.then hst (by simp))
  have hA := HA2.out.step hst (by simp)
  have z0 := hA.cell 0
  have z1 := hA.cell 1
  simp only [List.getElem?_toArray, List.getElem?_cons_zero, List.getElem?_cons_succ] at z0 z1
  have HA3 := Lib.hid hA
  clear hown2 hb2 hn2 hO3 hb1 hn1 hst hA HC2 HO2 HA2 y0 y1
  have HC3 := Lib.hid (size_any k a ca d w3 (HI1.out.step HS3.out) (by omega))
  have hsz : (((headB k d).length : Nat) + 4 : Int) = (X.length : Int) := by have := HXh.out; omega
  rw [hsz] at HC3
  clear hsz
  go_wp2_with fail
  refine HC3.out.mono ?_
  rintro e w4 ⟨rfl, hst⟩
  have hO4 := owns_step HO3.out hst (by simp)
  have HO4 := Lib.hid hO4
  have HS4 := Lib.hid (HS3.out.then hst (by simp))
  have HA4 := Lib.hid (HA3.out.step hst (by simp))
  have HI4 := Lib.hid (HI2.out.step HS4.out)
  have hsz4 := HS4.out.size
  clear hst hO4 HC3 HO3 HS3 HA3 z0 z1 cv1 cv2
  go_wp2_with (at_builtin; refine wpList_append_sep rfl (.tmp 81) (.tmp 82) 23 rfl w.heap.size 5 i0 (.int .u8 0) 1 1 Try.underlying23 hi hz0 hz1 hz2 rfl (by decide) _ X.length (X.map byteVal) rfl HO4.out b r.length cb (r.map byteVal) rfl HI4.out.nil (by simp) HI4.out.bytes.news (byteVals_cell _) (by unfold maxLen; omega) (by omega) hsz4 ?_)
  intro v5 w5 hown5 hg5 hf5
  have hs5 : Step (foot (.slice g1 X.length c1)) w4 w5 := (Step.refl _ _).grown hg5 (fun q hq => .inl (mem_foot.2 hq))
  have hft : ∀ q, q ∈ foot (.slice g1 X.length c1) → w1.heap.size ≤ q := HF1.out
  have hS5 := HS4.out.then hs5 (fun q hq => .inr (owns_base HO4.out q hq))
  have hA5 := HA4.out.step hs5 (fun hm => by have := hft b0 hm; have := HA1lt.out; omega)
  have HS5 := Lib.hid hS5
  have HA5 := Lib.hid hA5
  rw [← List.map_append] at hown5
  obtain ⟨g5, c5, rfl, hl5, hsl5, -, -⟩ := owns_slb hown5
  have HC5 := Lib.hid (next_any s g5 c5 (X ++ r) w5 hs hsl5 (by rw [List.length_append]; omega))
  rw [HNx.out] at HC5
  obtain ⟨N, hN⟩ : ∃ N, (X ++ r).length = N := ⟨_, rfl⟩
  rw [hN] at HC5 ⊢
  clear hown5 hg5 hf5 hs5 hS5 hA5 hl5 hsl5 hft hN HO4 HS4 HA4 HI4
  go_wp2_with fail
  refine HC5.out.mono ?_
  rintro e w6 ⟨⟨v6, rfl, hown6⟩, hst⟩
  obtain ⟨g6, c6, rfl, -, -, -, hb6, hn6, -⟩ := owns_bytes hown6
  have hS6 := (HS5.out.then hst (by simp)).alloc (.cells #[.int .u8 (k.toNat : Int), .slice g6 d.length c6] 25)
  have hA6 := (HA5.out.step hst (by simp)).alloc (.cells #[.int .u8 (k.toNat : Int), .slice g6 d.length c6] 25)
  have q0 := hA6.cell 0
  have q1 := hA6.cell 1
  simp only [List.getElem?_toArray, List.getElem?_cons_zero, List.getElem?_cons_succ] at q0 q1
  have HSm := Lib.hid (same_eq (k.toNat : Int) g6 a c6 ca d _ (hb6.step ((Step.refl [] w6).alloc (.cells #[.int .u8 (k.toNat : Int), .slice g6 d.length c6] 25)) (by simp)) (HI1.out.step hS6).bytes (fun h => (hn6 h).1) (fun h => (HI1.out.nil h).1))
  have HS6 := Lib.hid hS6
  clear hown6 hst hb6 hn6 hS6 hA6 HC5 HS5 HA5
  go_wp2_with fail
  refine HSm.out.mono ?_
  rintro e w7 ⟨rfl, hst⟩
  have HS7 := Lib.hid (HS6.out.then hst (by simp))
  clear hst HSm HS6 q0 q1
  go_wp2_with fail
  go_ret
  exact ⟨rfl, HS7.out⟩

theorem frameBytes_any (s : Nat) (k : UInt8) (a b : Option Addr) (ca cb : Nat) (d r : List UInt8) (w : World) (hs : s < 4294967296) (h1 : RecIn w a ca d) (h2 : RecIn w b cb r) :
    Calls Try.prog 4 #[.int .u32 (s : Int), .agg #[.int .u8 (k.toNat : Int), .slice a d.length ca], .slice b r.length cb] w fun e w' => e = .returned (.bool true) ∧ Below w.heap.size w w' := by
  refine Calls.mono (R := fun e w' => e = .returned (.bool true) ∧ Step [] w w') ?_ (fun e w' h => ⟨h.1, h.2.below'⟩)
  by_cases h : 2000 < d.length ∨ 100 < r.length
  · exact fbytes_small s _ a b ca cb _ _ w h
  · by_cases h3 : 1024 < d.length
    · exact fbytes_long s _ a b ca cb _ _ w ⟨s, rfl⟩ h3 (by omega) (by omega)
    · exact fbytes_main s k a b ca cb d r w hs h1 h2 (by omega) (by omega)
end Go.Proofs.Ytkogchmnpffiaaa
