/- FrameChains: the walk of the law. -/
import Derived.Test.YtkogchmnpffiaaaFrameS
namespace Go.Proofs.Ytkogchmnpffiaaa
set_option linter.unusedVariables false
open Go.RowKit

theorem RecIn.step {w w' : World} {a : Option Addr} {cap : Nat} {d : List UInt8} (h : RecIn w a cap d) (hs : Step [] w w') : RecIn w' a cap d := ⟨h.bytes.step hs (by simp), h.nil, h.max⟩

set_option maxRecDepth 20000 in
set_option maxHeartbeats 4000000 in
theorem chains_main (s : Nat) (k1 k2 : UInt8) (a b : Option Addr) (ca cb : Nat) (d1 d2 : List UInt8) (w : World) (hs : s < 4294967296) (h1 : RecIn w a ca d1) (h2 : RecIn w b cb d2) (l1 : d1.length ≤ 300) (l2 : d2.length ≤ 300) :
    Calls Try.prog 3 #[.int .u32 (s : Int), .agg #[.int .u8 (k1.toNat : Int), .slice a d1.length ca], .agg #[.int .u8 (k2.toNat : Int), .slice b d2.length cb]] w fun e w' => e = .returned (.bool true) ∧ Step [] w w' := by
  obtain ⟨i0, hi, hz0, hz1, hz2⟩ := info_parts Try.infoB
  have p1 : decide ((300 : Int) < (d1.length : Int)) = false := by simp; omega
  have p2 : decide ((300 : Int) < (d2.length : Int)) = false := by simp; omega
  have HS0 := Lib.hid (((Step.refl [] w).alloc (.cells #[.int .u8 (k1.toNat : Int), .slice a d1.length ca] 25)).alloc (.cells #[.int .u8 (k2.toNat : Int), .slice b d2.length cb] 25))
  have hbA := ((Blk.new w #[.int .u8 (k1.toNat : Int), .slice a d1.length ca] 25).alloc (.cells #[.int .u8 (k2.toNat : Int), .slice b d2.length cb] 25))
  have hbB := (Blk.new (w.alloc (.cells #[.int .u8 (k1.toNat : Int), .slice a d1.length ca] 25)) #[.int .u8 (k2.toNat : Int), .slice b d2.length cb] 25)
  rw [World.size_alloc] at hbB
  have HA := Lib.hid hbA
  have HB := Lib.hid hbB
  have HI1 := Lib.hid h1
  have HI2 := Lib.hid h2
  clear h1 h2 hbA hbB
  go_enter Try.func3, Try.ntmps3
  go_wp2_with fail
  refine (lives_any _).mono ?_
  rintro e w1 ⟨rfl, hst⟩
  have HS1 := Lib.hid (HS0.out.then hst (by simp))
  have hA := HA.out.step hst (by simp)
  have hB := HB.out.step hst (by simp)
  obtain ⟨b0, hb0⟩ : ∃ b, w.heap.size = b := ⟨_, rfl⟩
  rw [hb0] at hA hB ⊢
  have x0 := hA.cell 0
  have x1 := hA.cell 1
  have y0 := hB.cell 0
  have y1 := hB.cell 1
  simp only [List.getElem?_toArray, List.getElem?_cons_zero, List.getElem?_cons_succ] at x0 x1 y0 y1
  have HA1 := Lib.hid hA
  have HB1 := Lib.hid hB
  clear hst HS0 HA HB hA hB
  have HC1 := Lib.hid (bytes_any s k1 a ca d1 w1 hs HI1.out.nil (HI1.out.step HS1.out).bytes (by omega))
  obtain ⟨X, hX⟩ : ∃ X, frameB s k1 d1 = X := ⟨_, rfl⟩
  obtain ⟨S, hS⟩ : ∃ S, moreN s (headB k1 d1) = S := ⟨_, rfl⟩
  have hSl := moreN_lt s (headB k1 d1)
  have hXl := frameB_len s k1 d1
  have hn1 := numB_len d1.length
  have hgood := good_two s k1 k2 d1 d2 (by omega) (by omega)
  rw [hX, hS] at HC1 hgood
  rw [hS] at hSl
  rw [hX] at hXl
  have HX := Lib.hid hX
  have HSe := Lib.hid hS
  clear hX hS
  go_wp2_with fail
  refine HC1.out.mono ?_
  rintro e w2 ⟨v1, rfl, hown, hst⟩
  obtain ⟨g1, c1, rfl, -, hm1, hc1, hb1, hnn1, hk1⟩ := owns_bytes hown
  have HO2 := Lib.hid (owns_low (base' := w.heap.size) hown (by have := HS1.out.size; omega))
  have HS2 := Lib.hid (HS1.out.then hst (by simp))
  have hA := HA1.out.step hst (by simp)
  have hB := HB1.out.step hst (by simp)
  have z0 := hB.cell 0
  have z1 := hB.cell 1
  simp only [List.getElem?_toArray, List.getElem?_cons_zero, List.getElem?_cons_succ] at z0 z1
  have HB2 := Lib.hid hB
  clear hown hst hA hB hb1 hnn1 hk1 HA1 HB1 HC1 hm1 hc1 x0 x1 y0 y1
  have HC2 := Lib.hid (bytes_any S k2 b cb d2 w2 (by omega) HI2.out.nil (HI2.out.step HS2.out).bytes (by omega))
  have hnx := next_one S k2 d2 (by omega)
  have hno := next_other S k2 d2 (by omega) hSl
  obtain ⟨Y, hY⟩ : ∃ Y, frameB S k2 d2 = Y := ⟨_, rfl⟩
  obtain ⟨T, hT⟩ : ∃ T, moreN S (headB k2 d2) = T := ⟨_, rfl⟩
  have hTl := moreN_lt S (headB k2 d2)
  have hYl := frameB_len S k2 d2
  have hn2 := numB_len d2.length
  rw [hY, hT] at HC2 hgood hnx
  rw [hY] at hno hYl
  rw [hT] at hTl
  have HY := Lib.hid hY
  have HT := Lib.hid hT
  have HGood := Lib.hid hgood
  have HNx := Lib.hid hnx
  have HNo := Lib.hid hno
  clear hY hT hgood hnx hno
  have hXb : X.length ≤ 400 := by omega
  have hYb : Y.length ≤ 400 := by omega
  clear hXl hYl hn1 hn2
  go_wp2_with fail
  refine HC2.out.mono ?_
  rintro e w3 ⟨v2, rfl, hown, hst⟩
  obtain ⟨g2, c2, rfl, -, hsl2, -, -⟩ := owns_slb hown
  have HO3 := Lib.hid (owns_step HO2.out hst (by simp))
  have HS3 := Lib.hid (HS2.out.then hst (by simp))
  have HB3 := Lib.hid (HB2.out.step hst (by simp))
  have HSl2 := Lib.hid hsl2
  have HC3 := Lib.hid (next_any S g2 c2 Y w3 (by omega) hsl2 (by omega))
  rw [HNx.out] at HC3
  clear hown hst hsl2 HC2 HO2 HS2 HB2 z0 z1
  go_wp2_with fail
  refine HC3.out.mono ?_
  rintro e w4 ⟨⟨v3, rfl, hown3⟩, hst⟩
  obtain ⟨g3, c3, rfl, -, -, -, hb3, hn3, -⟩ := owns_bytes hown3
  have HS4 := Lib.hid ((HS3.out.then hst (by simp)).alloc (.cells #[.int .u8 (k2.toNat : Int), .slice g3 d2.length c3] 25))
  have HB4 := Lib.hid ((HB3.out.step hst (by simp)).alloc (.cells #[.int .u8 (k2.toNat : Int), .slice g3 d2.length c3] 25))
  have HO4 := Lib.hid (owns_step HO3.out (hst.alloc (.cells #[.int .u8 (k2.toNat : Int), .slice g3 d2.length c3] 25)) (by simp))
  have HSl4 := Lib.hid (HSl2.out.step (hst.alloc (.cells #[.int .u8 (k2.toNat : Int), .slice g3 d2.length c3] 25)) (by simp))
  have HR4 := Lib.hid (Blk.new w4 #[.int .u8 (k2.toNat : Int), .slice g3 d2.length c3] 25)
  have HD4 := Lib.hid (hb3.step ((Step.refl [] w4).alloc (.cells #[.int .u8 (k2.toNat : Int), .slice g3 d2.length c3] 25)) (by simp))
  have HN4 := Lib.hid hn3
  clear hst hown3 hb3 hn3 HS3 HB3 HO3 HSl2 HC3
  obtain ⟨rb, hrb⟩ : ∃ b, w4.heap.size = b := ⟨_, rfl⟩
  rw [hrb] at HR4
  have hx := u32_xor_nat S 1 (by omega) (by decide)
  have hx' : bits .xor .u32 (S : Int) 1 = ((S ^^^ 1 : Nat) : Int) := hx
  have hS1l : S ^^^ 1 < 2 ^ 32 := Nat.xor_lt_two_pow hSl (by decide)
  obtain ⟨S1, hS1⟩ : ∃ t, S ^^^ 1 = t := ⟨_, rfl⟩
  rw [hS1] at hx' hS1l HNo
  have HC5 := Lib.hid (next_any S1 g2 c2 Y _ (by omega) HSl4.out (by omega))
  rw [HNo.out] at HC5
  have HS1e := Lib.hid hS1
  clear hx hS1
  go_wp2_with fail
  refine HC5.out.mono ?_
  rintro e w5 ⟨rfl, hst⟩
  have HS5 := Lib.hid ((HS4.out.then hst (by simp)).alloc (.cells #[.int .u8 0, .slice none 0 0] 25))
  have HB5 := Lib.hid ((HB4.out.step hst (by simp)).alloc (.cells #[.int .u8 0, .slice none 0 0] 25))
  have HO5 := Lib.hid (owns_step HO4.out (hst.alloc (.cells #[.int .u8 0, .slice none 0 0] 25)) (by simp))
  have HSl5 := Lib.hid (HSl4.out.step (hst.alloc (.cells #[.int .u8 0, .slice none 0 0] 25)) (by simp))
  have HR5 := Lib.hid ((HR4.out.step hst (by simp)).alloc (.cells #[.int .u8 0, .slice none 0 0] 25))
  have HD5 := Lib.hid (HD4.out.step (hst.alloc (.cells #[.int .u8 0, .slice none 0 0] 25)) (by simp))
  have hsz5 := (HS4.out.then hst (by simp)).size
  clear hst HS4 HB4 HO4 HSl4 HR4 HD4 HC5 hrb
  obtain ⟨a1, hv1, hB1⟩ : ∃ u : Unit, (∀ W, Step [] (w5.alloc (.cells #[.int .u8 0, .slice none 0 0] 25)) W → Bytes W g1 X) ∧ (g1 = none → X.length = 0 ∧ c1 = 0) := by
    obtain ⟨g, c, hv, -, -, -, hb, hn, -⟩ := owns_bytes HO5.out
    cases hv
    exact ⟨(), fun W hW => hb.step hW (by simp), hn⟩
  have HV1 := Lib.hid hv1
  have HNN1 := Lib.hid hB1
  clear hv1 hB1
  have hmade : ((w5.alloc (.cells #[.int .u8 0, .slice none 0 0] 25)).alloc (.cells #[] 5)).ownsRow w.heap.size 5 1 (.slice (some ⟨w5.heap.size + 1, 0, none⟩) 0 0) 0 [] := by
    have h := World.ownsRow_lit (base := w.heap.size) (e := 5) (size := 1) (w5.alloc (.cells #[.int .u8 0, .slice none 0 0] 25)) #[] 0 (by rw [World.size_alloc]; omega) (by decide) rfl
    rw [World.size_alloc] at h
    exact h
  have HMd := Lib.hid hmade
  have HB0 := Lib.hid hb0
  clear hmade hb0
  go_wp2_with (at_builtin; refine wpList_append_sep rfl (.tmp 71) (.tmp 72) 23 rfl w.heap.size 5 i0 (.int .u8 0) 1 1 Try.underlying23 hi hz0 hz1 hz2 rfl (by decide) _ 0 [] rfl HMd.out g1 X.length c1 (X.map byteVal) rfl HNN1.out (by simp) (HV1.out _ ((Step.refl [] _).alloc _)).news (byteVals_cell _) (by unfold maxLen; omega) (by omega) (by rw [World.size_alloc, World.size_alloc]; omega) ?_)
  intro v6 w6 hown6 hg6 hf6
  have hs56 : Step [] (w5.alloc (.cells #[.int .u8 0, .slice none 0 0] 25)) w6 := ((Step.refl [] _).alloc _).grown hg6 (fun r hr => by cases hr; exact .inr (by show _ ≤ w5.heap.size + 1; rw [World.size_alloc]; exact Nat.le_refl _))
  have hft6 : ∀ k, k ∈ foot v6 → w5.heap.size + 1 ≤ k := fun k hk => by
    rcases hf6 k hk with h | h
    · simp [foot, Value.ownBlock] at h; omega
    · rw [World.size_alloc, World.size_alloc] at h; omega
  have HS56 := Lib.hid hs56
  have HF6 := Lib.hid hft6
  have hsl6 := HSl5.out.step hs56 (by simp)
  have HSl6 := Lib.hid hsl6
  have HO6 := Lib.hid hown6
  have hsz6 := (HS5.out.then hs56 (by simp)).size
  clear hown6 hg6 hf6 hs56 hsl6 HO5 HV1 HNN1 HMd hft6
  go_wp2_with (at_builtin; refine wpList_append_sep rfl (.tmp 73) (.tmp 74) 23 rfl w.heap.size 5 i0 (.int .u8 0) 1 1 Try.underlying23 hi hz0 hz1 hz2 rfl (by decide) _ X.length (X.map byteVal) rfl HO6.out g2 Y.length c2 (Y.map byteVal) rfl HSl6.out.nil (by simp) HSl6.out.bytes.news (byteVals_cell _) (by unfold maxLen; omega) (by omega) hsz6 ?_)
  intro v7 w7 hown7 hg7 hf7
  have hs57 : Step [] (w5.alloc (.cells #[.int .u8 0, .slice none 0 0] 25)) w7 := HS56.out.grown hg7 (fun r hr => .inr (by rw [World.size_alloc]; exact HF6.out r (mem_foot.2 hr)))
  have HS7 := Lib.hid (HS5.out.then hs57 (by simp))
  have HB7 := Lib.hid (HB5.out.step hs57 (by simp))
  have HR7 := Lib.hid (HR5.out.step hs57 (by simp))
  have HD7 := Lib.hid (HD5.out.step hs57 (by simp))
  rw [← List.map_append] at hown7
  obtain ⟨g7, c7, rfl, hl7, hsl7, -, -⟩ := owns_slb hown7
  have HG := Lib.hid (good_any s g7 c7 (X ++ Y) w7 hs hsl7 (by rw [List.length_append]; omega))
  rw [HGood.out] at HG
  clear hown7 hg7 hf7 hs57 hsl7 hl7 HS5 HB5 HR5 HD5 HSl5 HS56 HF6 HSl6 HO6
  obtain ⟨N, hN⟩ : ∃ N, (X ++ Y).length = N := ⟨_, rfl⟩
  have hN2 : X.length + Y.length = N := by rw [← hN, List.length_append]
  rw [hN] at HG
  rw [hN2] at HG
  rw [hN]
  have hNb : N ≤ 800 := by omega
  have HN2 := Lib.hid hN2
  clear hN hN2
  go_wp2_with fail
  refine HG.out.mono ?_
  rintro e w8 ⟨rfl, hst⟩
  have HS8 := Lib.hid (HS7.out.then hst (by simp))
  have hB8 := HB7.out.step hst (by simp)
  have hR8 := HR7.out.step hst (by simp)
  have x0 := hB8.cell 0
  have x1 := hB8.cell 1
  have y0 := hR8.cell 0
  have y1 := hR8.cell 1
  simp only [List.getElem?_toArray, List.getElem?_cons_zero, List.getElem?_cons_succ] at x0 x1 y0 y1
  have HSm := Lib.hid (same_eq (k2.toNat : Int) g3 b c3 cb d2 w8 (HD7.out.step hst (by simp)) (HI2.out.step HS8.out).bytes (fun h => (HN4.out h).1) (fun h => (HI2.out.nil h).1))
  clear hst hB8 hR8 HG HS7 HB7 HR7 HD7
  have e1 : IntKind.i64.wrap ((X.length : Int) + (Y.length : Int)) = (N : Int) := by have := HN2.out; rw [IntKind.wrap_i64]; omega
  go_wp2_with fail
  refine HSm.out.mono ?_
  rintro e w9 ⟨rfl, hst⟩
  have HS9 := Lib.hid (HS8.out.then hst (by simp))
  clear hst HSm HS8
  go_wp2_with fail
  go_ret
  exact ⟨rfl, HS9.out⟩

theorem frameChains_any (s : Nat) (k1 k2 : UInt8) (a b : Option Addr) (ca cb : Nat) (d1 d2 : List UInt8) (w : World) (hs : s < 4294967296) (h1 : RecIn w a ca d1) (h2 : RecIn w b cb d2) :
    Calls Try.prog 3 #[.int .u32 (s : Int), .agg #[.int .u8 (k1.toNat : Int), .slice a d1.length ca], .agg #[.int .u8 (k2.toNat : Int), .slice b d2.length cb]] w fun e w' => e = .returned (.bool true) ∧ Below w.heap.size w w' := by
  refine Calls.mono (R := fun e w' => e = .returned (.bool true) ∧ Step [] w w') ?_ (fun e w' h => ⟨h.1, h.2.below'⟩)
  by_cases h : 300 < d1.length ∨ 300 < d2.length
  · exact chains_small s _ _ a b ca cb _ _ w h
  · exact chains_main s k1 k2 a b ca cb d1 d2 w hs h1 h2 (by omega) (by omega)
end Go.Proofs.Ytkogchmnpffiaaa
