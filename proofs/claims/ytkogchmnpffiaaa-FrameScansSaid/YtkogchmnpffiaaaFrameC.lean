/- frame: the walk of Next. -/
import Derived.Test.YtkogchmnpffiaaaFrameB
import Derived.Laws.ResultCell
import Derived.Laws.Rows
import Derived.Deep.RegionLaw
import Derived.Deep.DrawnRows
namespace Go.Proofs.Ytkogchmnpffiaaa
set_option linter.unusedVariables false
open Go.RowKit
attribute [local go_sem ↓] Go.wp_at_zero Go.wp_at_succ

theorem SlB.cutMid {P : Program} {w : World} {a : Option Addr} {l : List UInt8} {cap : Nat} (h : SlB w a l cap) (t e : TypeId) (ht : P.underlying t = some (.slice e)) (hz : ∀ w, (Go.sizeOf e).run P w = .ok 1 w) (lo hi : Nat) (h1 : lo ≤ hi) (h2 : hi ≤ l.length) :
    ∃ a', (∀ W : World, (Instr.slice t (.slice a l.length cap) (some (.int .i64 (lo : Int))) (some (.int .i64 (hi : Int))) none).run P W = .ok (.slice a' (hi - lo) (cap - lo)) W) ∧ SlB w a' ((l.drop lo).take (hi - lo)) (cap - lo) ∧ blkOf a' = blkOf a := by
  have ht' : P.underlying t = some (.slice (P.elem t)) := by simp [Program.elem, ht]
  have he : P.elem t = e := by simp [Program.elem, ht]
  have hl := h.len
  obtain ⟨a', hrun, hsl, hbk⟩ := h.cutLow t e ht hz lo (by omega)
  refine ⟨a', fun W => ?_, ⟨hsl.bytes.take _, fun ha => ?_, ?_, hsl.max, hsl.plain⟩, hbk⟩
  · have hr := hrun W
    rw [run_slice_l W t _ _ _ ht' .i64 _ (by omega) (by omega), he, hz] at hr
    rw [run_slice_lh W t _ _ _ ht' .i64 .i64 _ _ (by omega) (by omega) (by omega), he, hz]
    simp only [Result.andThen, sliced, Int.toNat_natCast, Result.ok.injEq, Value.slice.injEq, and_true] at hr ⊢
    exact hr.1
  · have := hsl.nil ha
    rw [List.length_take]
    exact ⟨by omega, this.2⟩
  · have := hsl.len
    rw [List.length_take]
    omega

theorem results_cell_three {fn : Func} {p u v x : Tmp} {ty : TypeId} (h : fn.results = #[.cell p ty, .tmp u, .tmp v, .tmp x]) (tmps : Array Value) (P : Program) (w : World) :
    (results fn tmps).run P w =
      ((asAddr (tmps.getD p undef)).run P w).andThen fun a w₁ => ((loadVar ty a).run P w₁).andThen fun r w₂ => .ok (.tuple #[r, tmps.getD u undef, tmps.getD v undef, tmps.getD x undef]) w₂ := by
  simp only [results, h]
  simp [Sem.run_bind, Result.andThen]

theorem readF_rest : ∀ (l : List UInt8) (i acc : Nat), (readF i acc l).2.1.length ≤ l.length := by
  intro l
  induction l with
  | nil => intro i acc; simp [readF]
  | cons b r ih =>
    intro i acc
    unfold readF
    split
    · simp
    · split
      · simp
      · have := ih (i + 1) (acc + b.toNat % 128 * 2 ^ (7 * i))
        simp
        omega
theorem countR_rest (most : Nat) (l : List UInt8) : (countR most (numR l 0)).2.1.length ≤ l.length := by
  have h := readF_rest l 0 0
  unfold countR numR
  rw [if_pos rfl]
  split
  · simp only
    split
    · simp
    · exact h
  · exact h
theorem countR_most (most : Nat) (p : Nat × List UInt8 × Int) : (countR most p).1 ≤ most := by
  unfold countR
  split
  · exact Nat.zero_le _
  · omega

theorem countR_back {most : Nat} {l : List UInt8} {x : Nat} {m : List UInt8} (h : countR most (numR l 0) = (x, m, 0)) : l = numB x ++ m := by
  have h2 : numR l 0 = (x, m, 0) := by
    unfold countR at h
    split at h
    · obtain ⟨y, n, e⟩ := numR l 0
      simp only [Prod.mk.injEq] at h
      split at h
      · exact absurd h.2.2 (by decide)
      · next hne => exact absurd h.2.2 hne
    · exact h
  exact (numR_back h2).1

/-- what Next leaves -/
def Nexted (r : Nx) (w : World) (en : Ending) (w' : World) : Prop :=
  match r with
  | .bad e => en = .returned (.tuple #[.agg #[.int .u8 0, .slice none 0 0], .int .i64 0, .int .u32 0, .int .i64 e]) ∧ Step [] w w'
  | .ok k d n t => (∃ v, en = .returned (.tuple #[.agg #[.int .u8 (k.toNat : Int), v], .int .i64 (n : Int), .int .u32 (t : Int), .int .i64 0]) ∧ w'.ownsRow w.heap.size 5 1 v d.length (d.map byteVal)) ∧ Step [] w w'

theorem next_end {fn : Func} (hf : fn.results = #[.cell 4 25, .tmp 5, .tmp 6, .tmp 7]) (tmps : Array Value) (w : World) (rb : Nat) (r0 r1 n1 n2 n3 : Value) (hb : Blk w rb #[r0, r1] 25) (hp : tmps.getD 4 undef = .pointer (some ⟨rb, 0, none⟩))
    (h5 : tmps.getD 5 undef = n1) (h6 : tmps.getD 6 undef = n2) (h7 : tmps.getD 7 undef = n3) :
    (results fn tmps).run Try.prog w = .ok (.tuple #[.agg #[r0, r1], n1, n2, n3]) w := by
  rw [results_cell_three hf]
  have hl := run_loadVar_row (P := Try.prog) w rb 25 25 #[r0, r1] (0, 0) _ hb Try.underlying25 rfl (by kernel_rfl)
  simp [asAddr, hl, hp, h5, h6, h7]

set_option maxHeartbeats 2000000 in
theorem next_any (s : Nat) (a : Option Addr) (cap : Nat) (l : List UInt8) (w : World) (hs : s < 4294967296) (hS : SlB w a l cap) (hlen : l.length ≤ 1000000) :
    Calls Try.prog 8 #[.int .u32 (s : Int), .slice a l.length cap] w (Nexted (nextR s l) w) := by
  obtain ⟨r, hr⟩ : ∃ r, nextR s l = r := ⟨_, rfl⟩
  have HT := Lib.hid (show _ = r from hr)
  unfold nextR at HT
  rw [hr]
  clear hr
  have hB0 := (Blk.new w #[.int .u8 0, .slice none 0 0] 25)
  have HB0 := Lib.hid hB0
  clear hB0
  have HSl := Lib.hid (hS.step ((Step.refl [] w).alloc (.cells #[.int .u8 0, .slice none 0 0] 25)) (by simp))
  have HS0 := Lib.hid ((Step.refl [] w).alloc (.cells #[.int .u8 0, .slice none 0 0] 25))
  have HSw := Lib.hid hS
  clear hS
  by_cases q1 : 0 < l.length ∧ l.getD 0 0 ≠ 197
  · have hv := Lib.hid ((if_pos q1).symm.trans HT.out)
    clear HT
    obtain ⟨b, off, rfl, hlt, hc⟩ := HSw.out.bytes 0 q1.1
    rw [Nat.add_zero] at hc
    have hn := World.new_ne w _ hc
    have hy : (l.getD 0 0).toNat ≠ 197 := fun h => q1.2 (UInt8.toNat_inj.1 h)
    have q1' := q1.1
    have Q1 := Lib.hid q1
    clear q1
    have g0 : (0 : Int) < (l.length : Int) := by omega
    generalize (l.getD 0 0).toNat = y at *
    have hx : ((y : Int) == 197) = false := by simp; omega
    generalize l.length = L at *
    go_enter Try.func8, Try.ntmps8
    go_wp2_with fail
    refine bodyPost_ret (next_end (by rfl) _ _ w.heap.size _ _ _ _ _ HB0.out (by rfl) (by rfl) (by rfl) (by rfl)) (by rfl) ?_
    rw [← hv.out]
    exact ⟨rfl, HS0.out⟩
  have HT1 := Lib.hid ((if_neg q1).symm.trans HT.out)
  clear HT
  have h197 : 0 < l.length → l.getD 0 0 = 197 := fun h => Decidable.not_not.1 (fun h2 => q1 ⟨h, h2⟩)
  have H197 := Lib.hid h197
  clear h197 q1
  by_cases q2 : l.length < 2
  · have hv := Lib.hid ((if_pos q2).symm.trans HT1.out)
    clear HT1
    by_cases q3 : l.length = 0
    · rw [q3]
      clear q2 q3
      go_enter Try.func8, Try.ntmps8
      go_wp2_with fail
      refine bodyPost_ret (next_end (by rfl) _ _ w.heap.size _ _ _ _ _ HB0.out (by rfl) (by rfl) (by rfl) (by rfl)) (by rfl) ?_
      rw [← hv.out]
      exact ⟨rfl, HS0.out⟩
    · have q4 : l.length = 1 := by omega
      obtain ⟨b, off, rfl, hlt, hc⟩ := HSw.out.bytes 0 (by omega)
      rw [H197.out (by omega), Nat.add_zero] at hc
      have hn := World.new_ne w _ hc
      rw [q4]
      clear q2 q3 q4
      go_enter Try.func8, Try.ntmps8
      go_wp2_with fail
      refine bodyPost_ret (next_end (by rfl) _ _ w.heap.size _ _ _ _ _ HB0.out (by rfl) (by rfl) (by rfl) (by rfl)) (by rfl) ?_
      rw [← hv.out]
      exact ⟨rfl, HS0.out⟩
  have HT2 := Lib.hid ((if_neg q2).symm.trans HT1.out)
  clear HT1
  obtain ⟨b, off, rfl, hlt, hc0⟩ := HSw.out.bytes 0 (by omega)
  rw [H197.out (by omega), Nat.add_zero] at hc0
  have hn0 := World.new_ne w _ hc0
  obtain ⟨a2, hcut2, hsl2, hbk2⟩ := HSl.out.cutLow (P := Try.prog) 23 5 Try.underlying23 Try.sizeB 2 (by omega)
  have hcut : ∀ W : World, (Instr.slice 23 (.slice (some ⟨b, off, none⟩) l.length cap) (some (.int .i64 2)) none none).run Try.prog W = .ok (.slice a2 (l.drop 2).length (cap - 2)) W := hcut2
  have HR := Lib.hid (rread_any a2 (cap - 2) (l.drop 2) _ hsl2 (by simp; omega))
  have hcr := countR_rest 1024 (l.drop 2)
  have hcm := countR_most 1024 (numR (l.drop 2) 0)
  have hdl : (l.drop 2).length + 2 = l.length := by simp; omega
  obtain ⟨⟨x, m, e1⟩, hp⟩ : ∃ p, countR 1024 (numR (l.drop 2) 0) = p := ⟨_, rfl⟩
  rw [hp] at HT2 hcr hcm
  simp only at HT2 hcr hcm
  have HP := Lib.hid hp
  clear hcut2 hsl2 hbk2 hp
  obtain ⟨L, hL⟩ : ∃ L, l.length = L := ⟨_, rfl⟩
  obtain ⟨D, hD⟩ : ∃ D, l.drop 2 = D := ⟨_, rfl⟩
  rw [hL, hD] at hcut hdl
  rw [hD] at HR HP hcr
  rw [hL] at HT2 hlen q2 ⊢
  have HLen := Lib.hid hL
  have HD := Lib.hid hD
  clear hL hD
  have g0 : (0 : Int) < (L : Int) := by omega
  have g1 : ¬ (L : Int) < 2 := by omega
  have g2 : (1 : Int) < (L : Int) := by omega
  have g3 : 1 < L := by omega
  go_enter Try.func8, Try.ntmps8
  go_wp2_with fail
  refine HR.out.mono ?_
  rintro e w1 ⟨rb, db, rfl, hRd, hs1, hrb, hdb⟩
  rw [World.size_alloc] at hrb hdb
  have HB1 := Lib.hid (HB0.out.step hs1 (by simp))
  have HS1 := Lib.hid (HS0.out.then hs1 (by simp))
  obtain ⟨b0, hb0⟩ : ∃ b, w.heap.size = b := ⟨_, rfl⟩
  rw [hb0] at HB1 hrb hdb hn0 hlt ⊢
  have HC := Lib.hid (rcount_any rb db 1024 D 0 w1 (by decide) hRd)
  rw [HP.out] at HC
  simp only at HC
  clear hRd hs1 HR HB0 HS0 HSl
  go_wp2_with fail
  refine HC.out.mono ?_
  rintro e w2 ⟨rfl, hRd, hs2⟩
  have hB2 := HB1.out.step hs2 (by simp; omega)
  have hS2 := HS1.out.then hs2 (fun k hk => by simp at hk; exact .inr (by omega))
  have hz0 := hB2.cell 0
  have hz1 := hB2.cell 1
  simp only [List.getElem?_toArray, List.getElem?_cons_zero, List.getElem?_cons_succ] at hz0 hz1
  have hf0 := hB2.free 0
  have hf1 := hB2.free 1
  have c1 := HSw.out.bytes 1 (by rw [HLen.out]; omega)
  obtain ⟨b', off', hb', -, hc1⟩ := c1
  cases hb'
  have hd1 : w2.cell? ⟨b, off + 1, none⟩ = some (.int .u8 ((l.getD 1 0).toNat : Int)) := (hS2.cell (by omega) (by simp)).trans hc1
  obtain ⟨kk, hkk⟩ : ∃ kk, l.getD 1 0 = kk := ⟨_, rfl⟩
  rw [hkk] at hd1 HT2
  have HKK := Lib.hid hkk
  clear hkk
  have HSl := Lib.hid (HSw.out.step hS2 (by simp))
  have HE := Lib.hid (rerr_any rb db _ _ w2 hRd)
  have HLf := Lib.hid (rleft_any rb db _ _ w2 hRd)
  have HB2 := Lib.hid hB2
  have HS2 := Lib.hid hS2
  have hsz2 := hS2.size
  clear hRd hs2 hB2 hS2 HC HB1 HS1 hc1
  go_wp2_with fail
  refine HE.out.mono ?_
  rintro e w3 ⟨rfl, rfl⟩
  by_cases q3 : ¬ e1 = 0
  · have p3 : (e1 == 0) = false := by simpa using q3
    have hv := Lib.hid ((if_pos q3).symm.trans HT2.out)
    clear HT2
    go_wp2_with fail
    refine bodyPost_ret (next_end (by rfl) _ _ b0 _ _ _ _ _ ((HB2.out.set 0 _).set 1 _) (by rfl) (by rfl) (by rfl) (by rfl)) (by rfl) ?_
    rw [← hv.out]
    exact ⟨rfl, (HS2.out.setCell (.inr (by omega)) 0 _).setCell (.inr (by omega)) 1 _⟩
  have HT3 := Lib.hid ((if_neg q3).symm.trans HT2.out)
  replace q3 : e1 = 0 := Decidable.not_not.1 q3
  subst q3
  rw [if_pos rfl] at HLf
  clear HT2
  obtain ⟨M, hM⟩ : ∃ M, m.length = M := ⟨_, rfl⟩
  rw [hM] at HLf HT3 hcr
  have HM := Lib.hid hM
  clear hM
  obtain ⟨F, hF⟩ : ∃ F, L - M = F := ⟨_, rfl⟩
  rw [hF] at HT3
  have e2 : IntKind.i64.wrap ((L : Int) - (M : Int)) = (F : Int) := by rw [IntKind.wrap_i64]; omega
  have e3 : IntKind.i64.wrap ((x : Int) + 4) = (x : Int) + 4 := by rw [IntKind.wrap_i64]; omega
  go_wp2_with fail
  refine HLf.out.mono ?_
  rintro e w3 ⟨rfl, rfl⟩
  go_wp2_with fail
  refine HLf.out.mono ?_
  rintro e w3 ⟨rfl, rfl⟩
  by_cases q4 : M < x + 4
  · have p4 : decide ((M : Int) < (x : Int) + 4) = true := by simp; omega
    have hv := Lib.hid ((if_pos q4).symm.trans HT3.out)
    clear HT3
    go_wp2_with fail
    refine bodyPost_ret (next_end (by rfl) _ _ b0 _ _ _ _ _ ((HB2.out.set 0 _).set 1 _) (by rfl) (by rfl) (by rfl) (by rfl)) (by rfl) ?_
    rw [← hv.out]
    exact ⟨rfl, (HS2.out.setCell (.inr (by omega)) 0 _).setCell (.inr (by omega)) 1 _⟩
  have p4 : decide ((M : Int) < (x : Int) + 4) = false := by simp; omega
  have HT4 := Lib.hid ((if_neg q4).symm.trans HT3.out)
  clear HT3
  obtain ⟨K, hK⟩ : ∃ K, F + x = K := ⟨_, rfl⟩
  obtain ⟨K4, hK4⟩ : ∃ K4, K + 4 = K4 := ⟨_, rfl⟩
  rw [hK, hK4] at HT4
  have e4 : IntKind.i64.wrap ((F : Int) + (x : Int)) = (K : Int) := by rw [IntKind.wrap_i64]; omega
  have e5 : IntKind.i64.wrap ((K : Int) + 4) = (K4 : Int) := by rw [IntKind.wrap_i64]; omega
  have hLl := HLen.out
  obtain ⟨hhigh, hsh⟩ := HSl.out.cutHigh (P := Try.prog) 23 5 Try.underlying23 Try.sizeB K (by omega)
  obtain ⟨a4, hmid, hsm, -⟩ := HSl.out.cutMid (P := Try.prog) 23 5 Try.underlying23 Try.sizeB K K4 (by omega) (by omega)
  obtain ⟨a5, hdat, hsd, -⟩ := HSl.out.cutMid (P := Try.prog) 23 5 Try.underlying23 Try.sizeB F K (by omega) (by omega)
  rw [hLl] at hhigh hmid hdat
  have ht4 : K4 - K = 4 := by omega
  have htx : K - F = x := by omega
  rw [ht4] at hmid hsm
  rw [htx] at hdat hsd
  have hkl : (l.take K).length = K := by rw [List.length_take]; omega
  rw [hkl] at hhigh
  have HMo := Lib.hid (more_any s (some ⟨b, off, none⟩) K cap (l.take K) w2 hs hkl (by unfold maxLen; omega) hsh.bytes)
  have htl := moreN_lt s (l.take K)
  obtain ⟨t, ht⟩ : ∃ t, moreN s (l.take K) = t := ⟨_, rfl⟩
  rw [ht] at HMo htl HT4
  have h4l : ((l.drop K).take 4).length = 4 := by rw [List.length_take, List.length_drop]; omega
  have hxl : ((l.drop F).take x).length = x := by rw [List.length_take, List.length_drop]; omega
  have hdm : (l.drop F).take x = m.take x := by
    have h1 := countR_back HP.out
    have h2 : l = (l.take 2 ++ numB x) ++ m := by rw [List.append_assoc, ← h1, ← HD.out, List.take_append_drop]
    have h3 : (l.take 2 ++ numB x).length = F := by
      have := congrArg List.length h2
      rw [List.length_append, hLl, HM.out] at this
      omega
    have h4 : l.drop F = m := by
      rw [h2]
      exact List.drop_left' h3
    rw [h4]
  have HF4 := Lib.hid (fun W => four_any t W (by omega))
  have HSM := Lib.hid hsm
  have HSD := Lib.hid hsd
  have HDM := Lib.hid hdm
  have H4L := Lib.hid h4l
  have HXL := Lib.hid hxl
  clear hsh hsm hsd hdm h4l hxl ht hkl
  go_wp2_with fail
  refine HMo.out.mono ?_
  rintro e w3 ⟨rfl, rfl⟩
  have HEq := Lib.hid (fun (W : World) (A : Addr) (hW : Step [] w2 W) (hA : Bytes W (some A) (leN 4 t)) => show Calls Try.prog 23 #[.slice (some A) 4 4, .slice a4 4 (cap - K)] W fun e w' => e = .returned (.bool (decide (leN 4 t = (l.drop K).take 4))) ∧ Step [] W w' from by
    have h := equal_any (some A) a4 4 (cap - K) (leN 4 t) ((l.drop K).take 4) W hA (HSM.out.bytes.step hW (by simp)) (by rw [leN4_len]; decide)
    rw [H4L.out] at h
    exact h)
  obtain ⟨B, hBq⟩ : ∃ B, decide (leN 4 t = (l.drop K).take 4) = B := ⟨_, rfl⟩
  rw [hBq] at HEq
  have HBq := Lib.hid hBq
  clear hBq
  go_wp2_with fail
  go_region_law (first
    | (go_simp; go_at_call 18; refine (HF4.out _).mono ?_; rintro e5 w5 ⟨rfl, rfl⟩)
    | (go_simp; go_at_call 23; refine (HEq.out _ _ ((Step.refl [] w2).drew.alloc _) (four_bytes w2.drew t)).mono ?_; rintro e6 w6 ⟨rfl, hs6⟩
       have hs6' : Step [] w2 w6 := ((Step.refl [] w2).drew.alloc _).then hs6 (by simp)
       have HS6 := Lib.hid hs6'
       clear hs6 hs6'))
  have hB6 := HB2.out.step HS6.out (by simp)
  have hy0 := hB6.cell 0
  have hy1 := hB6.cell 1
  simp only [List.getElem?_toArray, List.getElem?_cons_zero, List.getElem?_cons_succ] at hy0 hy1
  have hg0 := hB6.free 0
  have hg1 := hB6.free 1
  have hd6 : w6.cell? ⟨b, off + 1, none⟩ = some (.int .u8 (kk.toNat : Int)) := (HS6.out.cell (by omega) (by simp)).trans hd1
  have hS6w := HS2.out.then HS6.out (by simp)
  have hsz6 := hS6w.size
  have HB6 := Lib.hid hB6
  have HS6w := Lib.hid hS6w
  clear hB6 hS6w hz0 hz1 hf0 hf1 hd1
  cases B with
  | false =>
    have hv := Lib.hid ((if_neg (of_decide_eq_false HBq.out)).symm.trans HT4.out)
    clear HT4
    go_wp2_with fail
    refine bodyPost_ret (next_end (by rfl) _ _ b0 _ _ _ _ _ ((HB6.out.set 0 _).set 1 _) (by rfl) (by rfl) (by rfl) (by rfl)) (by rfl) ?_
    rw [← hv.out]
    exact ⟨rfl, (HS6w.out.setCell (.inr (by omega)) 0 _).setCell (.inr (by omega)) 1 _⟩
  | true =>
    have hv := Lib.hid ((if_pos (of_decide_eq_true HBq.out)).symm.trans HT4.out)
    clear HT4
    have HCl := Lib.hid (fun (W : World) (hW : Step [] w6 W) => show Calls Try.prog 24 #[.slice a5 x (cap - F)] W fun e w' => ∃ v, e = .returned v ∧ w'.ownsRow W.heap.size 5 1 v x ((m.take x).map byteVal) ∧ Step [] W w' from by
      have h := clone_bytes a5 (cap - F) ((l.drop F).take x) W (fun h => ⟨by have := (HSD.out.nil h).1; omega, (HSD.out.nil h).2⟩) (HSD.out.bytes.step (HS6.out.then hW (by simp)) (by simp)) (by rw [HXL.out]; omega)
      rw [HDM.out] at h
      have hxl2 := HXL.out
      rw [HDM.out] at hxl2
      rw [hxl2] at h
      refine h.mono ?_
      rintro e w' ⟨v, h1, h2, h3⟩
      rw [hxl2] at h2
      exact ⟨v, h1, h2, h3⟩)
    have hmx : (m.take x).length = x := by have h := HXL.out; rw [HDM.out] at h; exact h
    have HMX := Lib.hid hmx
    clear hmx
    go_wp2_with fail
    go_region_law (first
      | (go_simp; go_at_call 24; refine (HCl.out _ (Step.refl [] w6).drew).mono ?_; rintro e7 w7 ⟨v7, rfl, hown7, hs7⟩
         have hs7' : Step [] w6 w7 := (Step.refl [] w6).drew.then hs7 (by simp)
         obtain ⟨g7, cg7, rfl, -⟩ := owns_bytes hown7
         have hB7 := HB6.out.step hs7' (by simp)
         have hx0 := hB7.cell 0
         have hx1 := hB7.cell 1
         simp only [List.getElem?_toArray, List.getElem?_cons_zero, List.getElem?_cons_succ] at hx0 hx1
         have hh0 := hB7.free 0
         have hh1 := hB7.free 1
         have hd7 : w7.cell? ⟨b, off + 1, none⟩ = some (.int .u8 (kk.toNat : Int)) := (hs7'.cell (by omega) (by simp)).trans hd6
         have HO7 := Lib.hid hown7
         have HS7 := Lib.hid hs7'
         have HB7 := Lib.hid hB7
         clear hown7 hs7 hs7' hB7))
    all_goals
      have hsz7 := HS7.out.size
      have hlt6 := HB6.out.lt
      go_wp2_with fail
      refine bodyPost_ret (next_end (by rfl) _ _ b0 _ _ _ _ _ ((HB7.out.set 0 _).set 1 _) (by rfl) (by rfl) (by rfl) (by rfl)) (by rfl) ?_
      rw [← hv.out]
      have hst : Step [b0] w7 ((w7.setCell ⟨b0, 0, none⟩ (.int .u8 (kk.toNat : Int))).setCell ⟨b0, 1, none⟩ (.slice g7 x cg7)) := ((Step.refl [b0] w7).setCell (.inl (by simp)) 0 _).setCell (.inl (by simp)) 1 _
      refine ⟨⟨_, rfl, ?_⟩, ((HS6w.out.then HS7.out (by simp)).setCell (.inr (by omega)) 0 _).setCell (.inr (by omega)) 1 _⟩
      rw [HMX.out]
      have ho := owns_low (base' := w.heap.size) HO7.out (by show w.heap.size ≤ w6.heap.size; omega)
      refine owns_step ho hst (fun k hk hm => ?_)
      simp at hm
      subst hm
      have := owns_base HO7.out k hk
      have h2 : w6.heap.size ≤ k := this
      omega
end Go.Proofs.Ytkogchmnpffiaaa
