/- Several texts in one: WalRo. -/
import Derived.Test.YtdmnhkmpfnhmdaaWpH
import Derived.Test.YtdmnhkmpfnhmdaaWpC
import Derived.BigFrame
section
namespace Go.Proofs.Ytdmnhkmpfnhmdaa
set_option linter.unusedVariables false
open Go.RowKit

/-- make, where its guard is met -/
theorem wpList_make_want {P : Program} (w : World) {ops : Array Oper} {rest : List Oper} {o : Oper} {a : Act} {Q : Exit → Act → World → Prop}
    (hw : Region.wanted o (yielded ops a.tmps) = true) (l c : Operand) (t : TypeId) (hop : o.op = Op.makeSlice t l c)
    (base : Nat) (e : TypeId) (i : TypeInfo) (z : Value) (size : Nat) (h1 : P.underlying t = some (.slice e)) (h2 : P.info? e = some i) (h3 : i.zero = some z) (h4 : i.size = size)
    (kl kc : IntKind) (L C : Int) (n : Nat) (hl : a.eval l = .int kl L) (hc : a.eval c = .int kc C) (hL : L = (n : Int)) (hC : C = (n : Int)) (b2 : i.bytes * n ≤ 281474976710656) (b3 : n ≤ maxLen) (b4 : base ≤ w.heap.size)
    (hK : ∀ w', w'.ownsRow base e size (.slice (some ⟨w.heap.size, 0, none⟩) n n) n (madeCells z.cells (n * size)).toList → w.grownBy w' none → wpList P ops Q rest (a.put o.dst (.slice (some ⟨w.heap.size, 0, none⟩) n n)) w') :
    wpList P ops Q (o :: rest) a w := by
  refine Go.BigFrame.wpList_want hw fun K hK' => ?_
  obtain ⟨w', hrun, r1, r2⟩ := run_make_full (P := P) w base t e i z size h1 h2 h3 h4 kl kc n b2 b3 b4
  subst hL
  subst hC
  unfold Oper.wp
  simp [execOp, hop, hl, hc, hrun, Result.andThen]
  exact hK' _ _ (hK w' r1 r2)
theorem made_zero (K : Nat) : (madeCells #[Value.int .u8 0] K).toList = (List.replicate K (0 : UInt8)).map byteVal := by
  have h : (#[Value.int .u8 0] : Array Value) = (List.replicate 1 (Value.int .u8 0)).toArray := rfl
  rw [h, made_same 1 K _ (by decide), List.map_replicate]
  rfl
theorem flens_rep (c : Nat) (r : UInt8 × List UInt8) : flens (List.replicate c r) = c * flen r := by
  induction c with
  | zero => simp [flens]
  | succ c ih =>
    rw [List.replicate_succ, flens_cons, ih, Nat.succ_mul]
    omega
theorem rep_snoc {α : Type} (c : Nat) (r : α) : List.replicate c r ++ [r] = List.replicate (c + 1) r := by
  rw [List.replicate_succ']

theorem flen_small (r : UInt8 × List UInt8) (h : r.2.length < 128) : flen r = r.2.length + 7 := by
  have h1 := headB_len r.1 r.2
  have h2 : (numB r.2.length).length = 1 := by unfold numB numF; rw [if_pos h]; rfl
  unfold flen
  omega
/-- what calls give, each function its own value -/
def SpG (p : FuncId → Value → Prop) : FuncId → Array Value → Value → World → Prop := fun f _ v _ => p f v
theorem spG_law (p : FuncId → Value → Prop) : RelLaw (Step []) (SpG p) := ⟨Step.refl [], fun _ _ _ h1 h2 => h1.then h2 (by simp), fun _ _ _ _ _ h _ => h⟩
def roomP (x y : Int) (f : FuncId) (v : Value) : Prop := (f = 21 → v = .int .i64 x) ∧ (f = 22 → v = .int .i64 y)

set_option maxRecDepth 20000 in
set_option maxHeartbeats 2000000 in
theorem room_law (a b : Nat) (ha : a ≤ 255) (hb : b ≤ 255) (w : World) :
    Calls Try.prog 4 #[.int .u8 (a : Int), .int .u8 (b : Int)] w fun e w' => e = .returned (.bool true) ∧ Step [] w w' := by
  obtain ⟨i0, hi, hi0, hi1, hi2⟩ := info_parts Try.infoB
  obtain ⟨n, hn, hn4, hn64⟩ : ∃ n : Nat, IntKind.i64.wrap (4 + (a : Int) % 61) = (n : Int) ∧ 4 ≤ n ∧ n ≤ 64 := ⟨4 + a % 61, by rw [wrap_id _ (by omega) (by omega)]; omega, by omega, by omega⟩
  obtain ⟨K, hK, hK100⟩ : ∃ K : Nat, (b : Int) % 100 = (K : Int) ∧ K < 100 := ⟨b % 100, by omega, by omega⟩
  have hKt : (b : Int).tmod 100 = (K : Int) := by rw [Int.tmod_eq_emod_of_nonneg (by omega)]; exact hK
  go_enter Try.func4, Try.ntmps4
  go_wp2_with fail
  refine (lives_any w).mono ?_
  rintro e w1 ⟨rfl, hs1⟩
  have HS1 := Lib.hid hs1
  clear hs1
  go_wp2_with fail
  refine (new_any n w1 (by omega) (by omega)).mono ?_
  rintro e w2 ⟨db, lv, rfl, hD, hs2⟩
  have HS2 := Lib.hid (HS1.out.then hs2 (by simp))
  have hz2 := hs2.size
  have HF := Lib.hid (wl_format_new w1.heap.size db n lv _ w2 hD (by omega) (by omega) hz2)
  have HL2 := Lib.hid hD.base
  have HZ1 := Lib.hid HS1.out.size
  clear hD hs2
  go_wp2_with fail
  refine HF.out.mono ?_
  rintro e w3 ⟨lb, tv, S, rfl, h3, hS, -, hs3⟩
  have HS3 := Lib.hid (HS2.out.then hs3 (fun k hk => .inr (Nat.le_trans HZ1.out (HL2.out k hk))))
  have hz3 := hs3.size
  have H3 := Lib.hid h3
  have HSl := Lib.hid hS
  have HRm := Lib.hid (wl_room _ _ _ _ _ _ _ _ _ _ _ _ w3 h3)
  rw [flens_seal, hS] at HRm
  obtain ⟨N, hN⟩ : ∃ N, n / 2 = N := ⟨_, rfl⟩
  have hN2 : 2 ≤ N ∧ N ≤ 32 := by omega
  rw [hN] at HRm
  have HN := Lib.hid hN
  clear h3 hs3 hS hN
  go_wp2_with fail
  refine HRm.out.mono ?_
  rintro e w4 ⟨rfl, n4, hw4⟩
  have hs34 : Step [] w3 w4 := by rw [hw4]; exact (Step.refl [] w3).drewN n4
  have HS4 := Lib.hid (And.intro hs34 (HS3.out.then hs34 (by simp)))
  have hz4 := hs34.size
  clear hw4 hs34
  go_wp2_with (refine wpList_make_full _ rfl (.tmp 40) (.tmp 40) 32 rfl w1.heap.size 5 i0 (.int .u8 0) 1 Try.underlying32 hi hi0 hi1 .i64 .i64 (K : Int) (K : Int) K rfl rfl rfl rfl (by rw [hi2]; omega) (by unfold maxLen; omega) (by omega) ?_)
  intro w5 hown hg5
  rw [made_zero] at hown
  have hs5 : Step [] w4 w5 := (Step.refl [] w4).grown hg5 (fun k hk => by cases hk)
  obtain ⟨d, hd⟩ : ∃ d, List.replicate K (0 : UInt8) = d := ⟨_, rfl⟩
  have hdl : d.length = K := by rw [← hd, List.length_replicate]
  rw [hd] at hown
  obtain ⟨ga, gc, hga, -, hgm, -, hgb, hgn, -⟩ := owns_bytes hown
  cases hga
  obtain ⟨g, hge⟩ : ∃ g, w4.heap.size = g := ⟨_, rfl⟩
  rw [hge] at hown hgb hgn ⊢
  have hgl : g < w5.heap.size := by have := owns_live hown g (by simp [foot, Value.ownBlock]); exact this
  have HRe := Lib.hid (show RecIn w5 (some ⟨g, 0, none⟩) K d from ⟨hgb, (fun h => (by cases h)), by rw [hdl]; exact hgm⟩)
  have HDl := Lib.hid hdl
  have HGe := Lib.hid hge
  have H5 := Lib.hid (And.intro hs5 (HS4.out.2.then hs5 (by simp)))
  have hz5 := hs5.size
  obtain ⟨bx, hbx⟩ : ∃ bx, w5.heap.size = bx := ⟨_, rfl⟩
  have HBx := Lib.hid hbx
  obtain ⟨H, hH⟩ : ∃ H, (headB 3 d).length = H := ⟨_, rfl⟩
  have hfl : flen (3, d) = H + 4 := by unfold flen; rw [hH]
  have hfl2 := flen_small (3, d) (by show d.length < 128; rw [hdl]; omega)
  have hfl3 := flen_least (3, d)
  simp only at hfl2
  rw [hdl, hfl] at hfl2
  rw [hfl] at hfl3
  have HH := Lib.hid (And.intro hH hfl)
  have HFL := Lib.hid hfl2
  clear hown hg5 hgb hgn hs5 hd hdl hge hgm hH hfl hbx hK hKt hn
  go_wp2_with fail
  rw [HBx.out]
  go_loopw [12] (fun x wr => ∃ (c : Nat) (tv wv : Value) (W : List (Nat × List UInt8)), 7 + c * (H + 4) ≤ N * 55 ∧ x = .int .i64 (c : Int) ∧ Wl wr w1.heap.size db lb lv wv tv S W 0 1 [(255, [])] ([(255, [])] ++ List.replicate c (3, d)) ∧ W.length ≤ 3 * c ∧ Blk wr bx #[.int .u8 3, .slice (some ⟨g, 0, none⟩) K K] 34 ∧ RecIn wr (some ⟨g, 0, none⟩) K d ∧ (∀ k, k ∈ footW lb db lv wv tv → k ≠ bx ∧ k ≠ g) ∧ Step [] w wr ∧ w1.heap.size ≤ wr.heap.size) (fun x _ => 2000 - (intOf x).toNat)
  case atStart =>
    have hst : Step [] w5 (w5.alloc (.cells #[.int .u8 3, .slice (some ⟨g, 0, none⟩) K K] 34)) := (Step.refl [] w5).alloc _
    have h5 := (H3.out.step (HS4.out.1.then H5.out.1 (by simp)) (by simp))
    refine ⟨0, tv, _, [], by omega, rfl, by simpa using h5.step hst (by simp), by simp, by rw [← HBx.out]; exact Blk.new w5 _ _, HRe.out.stepA hst (by simp), fun k hk => ?_, H5.out.2.alloc _, by rw [World.size_alloc]; omega⟩
    have h1 := H3.out.live k hk
    have h2 := HGe.out
    have h3 := HBx.out
    omega
  case round =>
    obtain ⟨c, tv, wv, W, hc, rfl, hw, hWl, hbk, hre, hft, hs, hz⟩ := hrel
    have hlen : flens ([(255, [])] ++ List.replicate c (3, d)) = 7 + c * (H + 4) := by rw [flens_app, flens_seal, flens_rep, HH.out.2]
    obtain ⟨R, hR⟩ : ∃ R, N * 55 - (7 + c * (H + 4)) = R := ⟨_, rfl⟩
    have hRmV := fun (V : World) (hV : Step [] wr V) => (show Calls Try.prog 21 #[.pointer (some ⟨lb, 0, none⟩)] V fun e w' => e = .returned (.int .i64 (R : Int)) ∧ Step [] V w' from (by
      have h := wl_room _ _ _ _ _ _ _ _ _ _ _ _ V (hw.step hV (by simp))
      rw [hlen, HSl.out, HN.out, hR] at h
      exact h.mono (fun e w' h => ⟨h.1, by obtain ⟨q, hq⟩ := h.2; rw [hq]; exact (Step.refl [] V).drewN q⟩)))
    have hSzV := fun (V : World) (hV : Step [] wr V) => (show Calls Try.prog 22 #[.agg #[.int .u8 3, .slice (some ⟨g, 0, none⟩) K K]] V fun e w' => e = .returned (.int .i64 ((H : Int) + 4)) ∧ Step [] V w' from (by
      have h := size_any 3 (some ⟨g, 0, none⟩) K d V (hre.stepA hV (by simp)) (by rw [HDl.out]; omega)
      rw [HDl.out, HH.out.1] at h
      exact h))
    have HRmV := Lib.hid hRmV
    have HSzV := Lib.hid hSzV
    have hbl := hbk.lt
    have z0 := hbk.cell 0
    have z1 := hbk.cell 1
    simp only [List.getElem?_toArray, List.getElem?_cons_zero, List.getElem?_cons_succ] at z0 z1
    have HW := Lib.hid (And.intro hw (And.intro hWl (And.intro hbk (And.intro hre (And.intro hft (And.intro hs (And.intro hz hlen)))))))
    have HR := Lib.hid hR
    have hR2 : R ≤ 1760 := by omega
    have hc251 : c ≤ 251 := by
      have : c * 7 ≤ c * (H + 4) := Nat.mul_le_mul_left c hfl3
      omega
    clear hw hWl hbk hre hft hs hz hlen hRmV hSzV hR
    have hnn : Nonempty (ClsW (Step [] wr.drew)) := ⟨⟨_, Step.refl _ _⟩⟩
    have d0 : ∀ q : ClsW (Step [] wr.drew), q.val.cell? ⟨bx, 0, none⟩ = _ := fun q => (q.ok.cell hbl (by simp)).trans z0
    have d1 : ∀ q : ClsW (Step [] wr.drew), q.val.cell? ⟨bx, 1, none⟩ = _ := fun q => (q.ok.cell hbl (by simp)).trans z1
    go_wp2_with fail
    refine region_cls (G := Step [] wr.drew) (by kernel_rfl) (by kernel_rfl) (Step.refl _ _) ?_
    repeat (go_big_quiet_step (first
      | (go_at_call 21; exact cls_call ((HRmV.out _ (((Step.refl [] wr).drew).then (ClsW.ok _) (by simp))).mono fun e w3 h => ⟨h.1, Step.then (F := []) (G := []) (ClsW.ok _) h.2 (by simp)⟩))
      | (go_at_call 22; exact cls_call ((HSzV.out _ (((Step.refl [] wr).drew).then (ClsW.ok _) (by simp))).mono fun e w3 h => ⟨h.1, Step.then (F := []) (G := []) (ClsW.ok _) h.2 (by simp)⟩))))
    refine wpQuiet_nil ?_
    rintro w6 ⟨⟨w6i, hw6⟩, he⟩
    have he' : w6 = w6i := he
    subst he'
    have hs6 : Step [] wr w6 := ((Step.refl [] wr).drew).then hw6 (by simp)
    have HS6 := Lib.hid hs6
    clear hw6 he d0 d1 hnn hs6 z0 z1
    by_cases hge : H + 4 ≤ R
    · have p1 : (H : Int) + 4 ≤ (R : Int) := by omega
      go_wp2_with fail
      refine (HRmV.out w6 HS6.out).mono ?_
      rintro e w7 ⟨rfl, hs7⟩
      have hs07 := HS6.out.then hs7 (by simp)
      obtain ⟨hw, hWl, hbk, hre, hft, hs, hz, hlen⟩ := HW.out
      have hb7 := hbk.step hs07 (by simp)
      have hbl7 := hb7.lt
      have z0 := hb7.cell 0
      have z1 := hb7.cell 1
      simp only [List.getElem?_toArray, List.getElem?_cons_zero, List.getElem?_cons_succ] at z0 z1
      have HAp := Lib.hid (fun (V : World) (hV : Step [] wr V) => wl_append _ _ _ _ _ _ _ _ _ _ _ _ 3 (some ⟨g, 0, none⟩) K d V (hw.step hV (by simp)) (hre.stepA hV (by simp)) (by decide) (by rw [HDl.out]; omega) (by
        rw [chain_len, hlen, HSl.out, HN.out, HH.out.2]
        have := HR.out
        omega) (by omega) (Nat.le_trans hz hV.size))
      have HS7 := Lib.hid hs07
      clear hw hWl hbk hre hft hs hz hlen hs7 hs07 hb7
      go_wp2_with fail
      have hnn : Nonempty (ClsW (Step [] w7.drew)) := ⟨⟨_, Step.refl _ _⟩⟩
      have d0 : ∀ q : ClsW (Step [] w7.drew), q.val.cell? ⟨bx, 0, none⟩ = _ := fun q => (q.ok.cell hbl7 (by simp)).trans z0
      have d1 : ∀ q : ClsW (Step [] w7.drew), q.val.cell? ⟨bx, 1, none⟩ = _ := fun q => (q.ok.cell hbl7 (by simp)).trans z1
      refine wp_region_noPanic ?_
      refine wp_region_ph [[0, 1], [2], [3, 4, 5, 6, 7, 8, 9, 10, 11, 12]] (by kernel_rfl) (by kernel_rfl) ?_
      refine .inl ⟨Step [], SpV undef, spV_law undef, ?_⟩
      simp only [opsAt, List.getElem?_cons_zero, List.getElem?_cons_succ, Option.toList, List.cons_append, List.nil_append]
      refine wpR_pre (spV_law undef) anti_norm 2 _ _ _ ?_ rfl
      simp only [List.take_succ_cons, List.take_zero, List.drop_succ_cons, List.drop_zero]
      repeat (go_big_quiet_step (fail))
      refine wpQuiet_nil ?_
      unfold wpR
      intro w8 hs8 _
      have hs08 : Step [] wr w8 := HS7.out.then ((Step.refl [] w7).drew.then hs8 (by simp)) (by simp)
      refine .inr ⟨2, _, rfl, rfl, by rfl, ?_⟩
      have hap8 := HAp.out w8 hs08
      rw [HDl.out] at hap8
      refine ph_call 11 _ _ rfl Try.func11 (by kernel_rfl) (by kernel_rfl) #[.pointer (some ⟨lb, 0, none⟩), .agg #[.int .u8 ((3 : UInt8).toNat : Int), .slice (some ⟨g, 0, none⟩) K K]] (by simp [Act.eval]) hap8 ?_
      rintro e w9 ⟨rfl, tv9, wv9, W9, h9, hW9, hs9, hf9⟩
      refine ⟨_, rfl, ?_⟩
      obtain ⟨hw, hWl, hbk, hre, hft, hs, hz, hlen⟩ := HW.out
      have hb9 := (hbk.step hs08 (by simp)).step hs9 (fun hm => (hft _ hm).1 rfl)
      have hr9 := (hre.stepA hs08 (by simp)).stepA hs9 (fun k hk hm => by
        obtain ⟨o, q, he⟩ := mem_footA.1 hk
        cases he
        exact (hft _ hm).2 rfl)
      rw [List.append_assoc, rep_snoc] at h9
      have hlen9 : flens ([(255, [])] ++ List.replicate (c + 1) (3, d)) = 7 + (c + 1) * (H + 4) := by rw [flens_app, flens_seal, flens_rep, HH.out.2]
      have hmul : (c + 1) * (H + 4) = c * (H + 4) + (H + 4) := Nat.succ_mul _ _
      have HRm9 := Lib.hid (fun (V : World) (hV : Step [] w9 V) => (show Calls Try.prog 21 #[.pointer (some ⟨lb, 0, none⟩)] V fun e w' => e = .returned (.int .i64 ((R - (H + 4) : Nat) : Int)) ∧ Step [] V w' from (by
        have h := wl_room _ _ _ _ _ _ _ _ _ _ _ _ V (h9.step hV (by simp))
        rw [hlen9, HSl.out, HN.out] at h
        have hR := HR.out
        rw [show N * 55 - (7 + (c + 1) * (H + 4)) = R - (H + 4) by omega] at h
        exact h.mono (fun e w' h => ⟨h.1, by obtain ⟨q, hq⟩ := h.2; rw [hq]; exact (Step.refl [] V).drewN q⟩))))
      have HSz9 := Lib.hid (fun (V : World) (hV : Step [] w9 V) => (show Calls Try.prog 22 #[.agg #[.int .u8 3, .slice (some ⟨g, 0, none⟩) K K]] V fun e w' => e = .returned (.int .i64 ((H : Int) + 4)) ∧ Step [] V w' from (by
        have h := size_any 3 (some ⟨g, 0, none⟩) K d V (hr9.stepA hV (by simp)) (by rw [HDl.out]; omega)
        rw [HDl.out, HH.out.1] at h
        exact h)))
      obtain ⟨R2, hR2e⟩ : ∃ R2, R - (H + 4) = R2 := ⟨_, rfl⟩
      rw [hR2e] at HRm9
      have e1 : IntKind.i64.wrap ((R : Int) - ((H : Int) + 4)) = (R2 : Int) := by rw [wrap_id _ (by omega) (by omega)]; omega
      have hbl9 := hb9.lt
      have y0 := hb9.cell 0
      have y1 := hb9.cell 1
      simp only [List.getElem?_toArray, List.getElem?_cons_zero, List.getElem?_cons_succ] at y0 y1
      have hft9 : ∀ k, k ∈ footW lb db lv wv9 tv9 → k ≠ bx ∧ k ≠ g := fun k hk => by
        rcases hf9 k hk with h | h
        · exact hft k h
        · have h1 := (hbk.step hs08 (by simp)).lt
          have h2 := (Nat.lt_of_lt_of_le hgl (Nat.le_of_eq HBx.out))
          have h3 := hbk.lt
          omega
      have hc9 : 7 + (c + 1) * (H + 4) ≤ N * 55 := by
        have hR := HR.out
        omega
      have HK9 := Lib.hid (And.intro h9 (And.intro (show W9.length ≤ 3 * (c + 1) by rw [HH.out.2] at hW9; have := HFL.out; omega) (And.intro hb9 (And.intro hr9 (And.intro hft9 (And.intro ((hs.then hs08 (by simp)).then hs9 (fun k hk => .inr (Nat.le_trans HZ1.out (hw.low k hk)))) (And.intro (Nat.le_trans hz (Nat.le_trans hs08.size hs9.size)) hc9)))))))
      clear hw hWl hbk hre hft hs hz hlen hb9 hr9 h9 hlen9 hmul hR2e hft9 hW9 hs9 hf9 hs8 hs08 hap8 d0 d1 hnn z0 z1 hc9
      have hnn : Nonempty (ClsW (Step [] w9)) := ⟨⟨_, Step.refl _ _⟩⟩
      have d0 : ∀ q : ClsW (Step [] w9), q.val.cell? ⟨bx, 0, none⟩ = _ := fun q => (q.ok.cell hbl9 (by simp)).trans y0
      have d1 : ∀ q : ClsW (Step [] w9), q.val.cell? ⟨bx, 1, none⟩ = _ := fun q => (q.ok.cell hbl9 (by simp)).trans y1
      refine .inl ⟨Step [], SpG (roomP (R2 : Int) ((H : Int) + 4)), spG_law _, ?_⟩
      simp only [opsAt, List.getElem?_cons_zero, List.getElem?_cons_succ, Option.toList, List.cons_append, List.nil_append]
      refine wpR_pre (spG_law _) anti_norm 3 _ _ _ ?_ rfl
      simp only [List.take_succ_cons, List.take_zero, List.drop_succ_cons, List.drop_zero]
      go_simp
      repeat (go_big_quiet_step (fail))
      refine wpQuiet_nil ?_
      refine wpR_callF 21 _ _ rfl (by rfl) Try.func21 (by kernel_rfl) (by kernel_rfl) #[.pointer (some ⟨lb, 0, none⟩)] (by simp [Act.eval]) (fun V hV => (HRm9.out V hV).mono fun e w'' h => ⟨_, h.1, ⟨fun _ => rfl, fun h => absurd h (by decide)⟩, h.2⟩) ?_
      rintro v ⟨_, _, hv⟩
      have hv' := hv.1 rfl
      subst hv'
      clear hv
      refine wpR_pre (spG_law _) anti_norm 2 _ _ _ ?_ rfl
      simp only [List.take_succ_cons, List.take_zero, List.drop_succ_cons, List.drop_zero]
      go_simp
      repeat (go_big_quiet_step (fail))
      refine wpQuiet_nil ?_
      refine wpR_callF 22 _ _ rfl (by rfl) Try.func22 (by kernel_rfl) (by kernel_rfl) #[.agg #[.int .u8 3, .slice (some ⟨g, 0, none⟩) K K]] (by simp [Act.eval]) (fun V hV => (HSz9.out V hV).mono fun e w'' h => ⟨_, h.1, ⟨fun h => absurd h (by decide), fun _ => rfl⟩, h.2⟩) ?_
      rintro v ⟨_, _, hv⟩
      have hv' := hv.2 rfl
      subst hv'
      clear hv
      refine wpR_pre (spG_law _) anti_norm 3 _ _ _ ?_ rfl
      simp only [List.take_succ_cons, List.take_zero, List.drop_succ_cons, List.drop_zero]
      go_simp
      repeat (go_big_quiet_step (fail))
      refine wpQuiet_nil ?_
      unfold wpR
      intro w10 hs10 _
      unfold wpPh
      have HS10 := Lib.hid hs10
      clear hs10 d0 d1 hnn y0 y1
      refine NoPanic.normal ?_
      have e9 : IntKind.i64.wrap ((c : Int) + 1) = (c : Int) + 1 := wrap_id _ (by omega) (by omega)
      go_wp2_with fail
      go_roundw
      case rel =>
        obtain ⟨h9, hW9, hb9, hr9, hft9, hs9, hz9, hc9⟩ := HK9.out
        exact ⟨c + 1, tv9, wv9, W9, hc9, by go_num, h9.step HS10.out (by simp), hW9, hb9.step HS10.out (by simp), hr9.stepA HS10.out (by simp), hft9, hs9.then HS10.out (by simp), Nat.le_trans hz9 HS10.out.size⟩
      case measure => simp [intOf]; omega
    · have p1 : ¬ (H : Int) + 4 ≤ (R : Int) := by omega
      obtain ⟨hw, hWl, hbk, hre, hft, hs, hz, hlen⟩ := HW.out
      have hw6 := hw.step HS6.out (by simp)
      have hr6 := hre.stepA HS6.out (by simp)
      have hb6 := hbk.step HS6.out (by simp)
      have z0 := hb6.cell 0
      have z1 := hb6.cell 1
      simp only [List.getElem?_toArray, List.getElem?_cons_zero, List.getElem?_cons_succ] at z0 z1
      have hfull := lappend_full w1.heap.size db lb 0 1 (chainS 0 ([(255, [])] ++ List.replicate c (3, d))) tv lv wv S W false (chainB 0 ([(255, [])] ++ List.replicate c (3, d))).length 3 (some ⟨g, 0, none⟩) K d w6 hw6.lg.blk hw6.dk (by have := hw6.li.most; omega) (by decide) (by rw [HDl.out]; omega) hr6 (by
        rw [chain_len, hlen, HSl.out, HN.out, HH.out.1]
        have := HR.out
        omega)
      rw [HDl.out] at hfull
      have HFu := Lib.hid hfull
      have H6 := Lib.hid (And.intro hw6 (And.intro (hs.then HS6.out (by simp)) (Nat.le_trans hz HS6.out.size)))
      clear hw hWl hbk hre hft hs hz hlen hw6 hr6 hb6 hfull
      go_wp2_with fail
      refine HFu.out.mono ?_
      rintro e w7 ⟨rfl, hs7⟩
      have HSy := Lib.hid (wl_sync _ _ _ _ _ _ _ _ _ _ _ _ w7 (H6.out.1.step hs7 (by simp)))
      have HS7 := Lib.hid hs7
      clear hs7 z0 z1
      go_wp2_with fail
      refine HSy.out.mono ?_
      rintro e w8 ⟨rfl, S8, h8, hS8, hs8⟩
      have hs08 : Step [] w w8 := (H6.out.2.1.then HS7.out (by simp)).then hs8 (fun k hk => .inr (Nat.le_trans HZ1.out (H6.out.1.dk.base k hk)))
      have HCp := Lib.hid (copy_any _ _ _ _ _ _ _ w8 h8.dk)
      have H8 := Lib.hid (And.intro h8 (And.intro (hS8.trans HSl.out) (And.intro hs08 (Nat.le_trans H6.out.2.2 (Nat.le_trans HS7.out.size hs8.size)))))
      clear h8 hS8 hs8 hs08
      go_wp2_with fail
      refine HCp.out.mono ?_
      rintro e w9 ⟨db9, lv9, wv9, rfl, hD9, hs9⟩
      have HOp := Lib.hid (wl_open w8.heap.size db9 lv9 wv9 S8 [] 0 1 ([(255, [])] ++ List.replicate c (3, d)) ([(255, [])] ++ List.replicate c (3, d)) w9 hD9 H8.out.1.four (by
        rw [syncS_nil]
        exact H8.out.1.li.crash (by decide) (fun _ => false) 0) (List.prefix_refl _) (by simp [isSeal]) (fun r hr => H8.out.1.data r hr) (by decide) (by simp; omega) (by rw [H8.out.2.1]; simp; omega) hs9.size)
      have H9 := Lib.hid (And.intro (H8.out.1.step hs9 (by simp)) (And.intro (H8.out.2.2.1.then hs9 (by simp)) (And.intro hs9.size hD9.base)))
      clear hD9 hs9
      go_wp2_with fail
      refine HOp.out.mono ?_
      rintro e w10 ⟨lb10, tv10, S10, oa, oc, ol, k, rfl, k1, k2, hrp, -, -, -, -, -, hs10⟩
      have hol : ol.length = c := by
        have hk : (([(255, [])] ++ List.replicate c (3, d)) : List (UInt8 × List UInt8)).take k = [(255, [])] ++ List.replicate c (3, d) := List.take_of_length_le k1
        rw [hk] at hrp
        have h2 : recsR ([(255, [])] ++ List.replicate c (3, d)) = List.replicate c (3, d) := recs_sealed [] (List.replicate c (3, d)) (by simp)
        rw [h2] at hrp
        simpa using congrArg List.length hrp
      have h10 := H9.out.1.step hs10 (fun k hk hm => by
        have h1 := H9.out.2.2.2 k hm
        have h2 := H8.out.1.live k hk
        omega)
      have hs010 : Step [] w w10 := H9.out.2.1.then hs10 (fun k hk => .inr (by
        have h1 := H9.out.2.2.2 k hk
        have h2 := HZ1.out
        have h3 := H8.out.2.2.2
        omega))
      have hz10 : w1.heap.size ≤ w10.heap.size := Nat.le_trans H8.out.2.2.2 (Nat.le_trans H9.out.2.2.1 hs10.size)
      have HRw := Lib.hid (wl_rewrite _ _ _ _ _ _ _ _ _ _ _ _ none 0 [] w10 h10 (rcs_none w10) (by rw [footR_none]; simp) (by simp) (by simp) (by simp) (by rw [H8.out.2.1]; simp; omega) (by decide) hz10)
      have H10 := Lib.hid (And.intro hs010 h10.low)
      rw [hol]
      clear h10 hs010 hol hrp k1 k2 hs10
      go_wp2_with fail
      refine HRw.out.mono ?_
      rintro e w11 (⟨hf, -, -⟩ | ⟨-, rfl, tv11, S11, h11, hS11, -, hs11⟩)
      · exfalso
        rw [seal_len, H8.out.2.1] at hf
        omega
      have HRm11 := Lib.hid (wl_room _ _ _ _ _ _ _ _ _ _ _ _ w11 h11)
      have hal : flens (allR []) = 7 := by rw [← chain_len (allR []) 0]; exact seal_len
      rw [hal, hS11, H8.out.2.1, HN.out] at HRm11
      have H11 := Lib.hid (And.intro h11 (H10.out.1.then hs11 (fun k hk => .inr (Nat.le_trans HZ1.out (H10.out.2 k hk)))))
      clear h11 hS11 hs11 hal
      go_wp2_with fail
      refine HRm11.out.mono ?_
      rintro e w12 ⟨rfl, n12, hw12⟩
      have hs12 : Step [] w11 w12 := by rw [hw12]; exact (Step.refl [] w11).drewN n12
      have HS12 := Lib.hid (H11.out.2.then hs12 (by simp))
      clear hw12
      go_wp2_with (refine wpList_make_want _ (by rfl) (.const (.int .i64 1025)) (.const (.int .i64 1025)) 32 rfl 0 5 i0 (.int .u8 0) 1 Try.underlying32 hi hi0 hi1 .i64 .i64 1025 1025 1025 rfl rfl rfl rfl (by rw [hi2]; omega) (by unfold maxLen; omega) (Nat.zero_le _) ?_)
      intro w13 _ hg13
      have hs13 : Step [] w12 w13 := (Step.refl [] w12).grown hg13 (fun k hk => by cases hk)
      have HBd := Lib.hid (lappend_bad lb 3 (some ⟨w12.heap.size, 0, none⟩) 1025 1025 15 w13 (by decide) (.inr (.inl ⟨by decide, by decide, rfl⟩)))
      have HS13 := Lib.hid (HS12.out.then hs13 (by simp))
      clear hg13 hs13
      go_wp2_with fail
      refine HBd.out.mono ?_
      rintro e w14 ⟨rfl, hs14⟩
      have HS14 := Lib.hid (HS13.out.then hs14 (by simp))
      clear hs14
      go_wp2_with fail
      go_ret
      exact ⟨rfl, HS14.out⟩
end Go.Proofs.Ytdmnhkmpfnhmdaa
end
