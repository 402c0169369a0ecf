/- frame: the law's own Next. -/
import Derived.Test.YtkogchmnpffiaaaScanA
import Derived.Test.YtkogchmnpffiaaaScanP
import Derived.Test.YtkogchmnpffiaaaFrameT
namespace Go.Proofs.Ytkogchmnpffiaaa
set_option linter.unusedVariables false
open Go.RowKit
attribute [local go_sem ↓] Go.wp_at_zero Go.wp_at_succ

theorem countR_most' {m : Nat} {l : List UInt8} {x : Nat} {r : List UInt8} (h : countR m (numR l 0) = (x, r, 0)) : x ≤ m := by
  have := countR_most m (numR l 0)
  rw [h] at this
  exact this

/-- the parts of a record that stands there, but perhaps for its sum -/
theorem next_parts {l : List UInt8} {x : Nat} {m : List UInt8} (h1 : ¬ (0 < l.length ∧ l.getD 0 0 ≠ 197)) (h2 : ¬ l.length < 2) (hp : countR 1024 (numR (l.drop 2) 0) = (x, m, 0)) (h4 : ¬ m.length < x + 4) :
    l = headB (l.getD 1 0) (m.take x) ++ m.drop x ∧ (m.take x).length = x ∧ l.length = 2 + (numB x).length + m.length ∧ x ≤ 1024 ∧ (l.drop (2 + (numB x).length)).take x = m.take x := by
  have hb := countR_back hp
  have h0 : l.getD 0 0 = 197 := Decidable.not_not.1 (fun h => h1 ⟨by omega, h⟩)
  have hl : l = 197 :: l.getD 1 0 :: l.drop 2 := by
    match l, h2, h0 with
    | [], h, _ => simp at h
    | [a], h, _ => simp at h
    | a :: b :: r, _, h => simp at h; subst h; rfl
  have hx : (m.take x).length = x := by rw [List.length_take]; omega
  have hlen : l.length = 2 + (numB x).length + m.length := by
    rw [hl, hb]
    simp only [List.length_cons, List.length_append]
    omega
  refine ⟨?_, hx, hlen, countR_most' hp, ?_⟩
  · unfold headB
    rw [hx]
    conv => lhs; rw [hl, hb]
    rw [List.cons_append, List.cons_append, List.append_assoc, List.take_append_drop]
  · have : l.drop (2 + (numB x).length) = m := by
      rw [← List.drop_drop, hb]
      exact List.drop_left
    rw [this]

theorem nextR_where {s : Nat} {l : List UInt8} {k : UInt8} {d : List UInt8} {n t : Nat} (h : nextR s l = .ok k d n t) :
    2 + (numB d.length).length + d.length ≤ l.length ∧ (l.drop (2 + (numB d.length).length)).take d.length = d ∧ d.length ≤ 1024 ∧ n = 2 + (numB d.length).length + d.length + 4 := by
  unfold nextR at h
  split at h
  · cases h
  · next q1 =>
    split at h
    · cases h
    · next q2 =>
      simp only at h
      obtain ⟨⟨x, m, e⟩, hc⟩ : ∃ q, countR 1024 (numR (l.drop 2) 0) = q := ⟨_, rfl⟩
      rw [hc] at h
      simp only at h
      split at h
      · cases h
      · next q3 =>
        have q3' : e = 0 := Decidable.not_not.1 q3
        subst q3'
        split at h
        · cases h
        · next q4 =>
          split at h
          · obtain ⟨p1, p2, p3, p4, p5⟩ := next_parts q1 q2 hc q4
            simp only [Nx.ok.injEq] at h
            obtain ⟨-, rfl, rfl, -⟩ := h
            rw [p2]
            exact ⟨by omega, p5, p4, by omega⟩
          · cases h

/-- what Read answers, and what Count answers of it -/
theorem refR_count (l : List UInt8) : ((refR l).2.2 ≠ 0 → (refR l).2.2 = (countR 1024 (numR l 0)).2.2) ∧ ((refR l).2.2 = 0 → 1024 < (refR l).1 → (countR 1024 (numR l 0)).2.2 = 15) ∧
    ((refR l).2.2 = 0 → ¬ 1024 < (refR l).1 → (countR 1024 (numR l 0)).2.2 = 0 ∧ (refR l).1 = (countR 1024 (numR l 0)).1 ∧ (refR l).2.1 + (countR 1024 (numR l 0)).2.1.length = l.length) := by
  have hrest := readF_rest l 0 0
  have he := numR_err l 0
  have hn : numR l 0 = readF 0 0 l := if_pos rfl
  rw [← hn] at hrest
  unfold refR
  obtain ⟨⟨y, r, e⟩, hq⟩ : ∃ q, numR l 0 = q := ⟨_, rfl⟩
  rw [hq] at he hrest ⊢
  simp only at he hrest ⊢
  by_cases h0 : e = 0
  · subst h0
    simp only [if_pos]
    refine ⟨fun h => absurd rfl h, fun _ h => ?_, fun _ h => ?_⟩
    · unfold countR
      rw [if_pos h]
      rfl
    · unfold countR
      rw [if_neg h]
      exact ⟨rfl, rfl, by simp only; omega⟩
  · simp only [if_neg h0]
    refine ⟨fun _ => ?_, fun h => absurd h h0, fun h => absurd h h0⟩
    unfold countR
    rw [he h0, if_neg (by simp)]

/-- the law's own Next answers the same; its data lie in the bytes themselves -/
def LNexted (a0 : Option Addr) (L cap : Nat) (r : Nx) (w : World) (en : Ending) (w' : World) : Prop :=
  match r with
  | .bad e => en = .returned (.tuple #[.agg #[.int .u8 0, .slice none 0 0], .int .i64 0, .int .u32 0, .int .i64 e]) ∧ Step [] w w'
  | .ok k d n t => (∃ a c, en = .returned (.tuple #[.agg #[.int .u8 (k.toNat : Int), .slice a d.length c], .int .i64 (n : Int), .int .u32 (t : Int), .int .i64 0]) ∧ Bytes w' a d ∧ (a = none → d.length = 0 ∧ c = 0) ∧
      ∀ W : World, (Instr.slice 23 (.slice a0 L cap) (some (.int .i64 ((2 + (numB d.length).length : Nat) : Int))) (some (.int .i64 ((2 + (numB d.length).length + d.length : Nat) : Int))) none).run Try.prog W = .ok (.slice a d.length c) W) ∧ Step [] w w'

set_option maxRecDepth 20000 in
set_option maxHeartbeats 4000000 in
theorem lawNext_any (s : Nat) (a : Option Addr) (cap : Nat) (l : List UInt8) (w : World) (hs : s < 4294967296) (hS : SlB w a l cap) (hlen : l.length ≤ 1000000) :
    Calls Try.prog 14 #[.int .u32 (s : Int), .slice a l.length cap] w (LNexted a l.length cap (nextR s l) w) := by
  obtain ⟨r, hr⟩ : ∃ r, nextR s l = r := ⟨_, rfl⟩
  have HT := Lib.hid (show _ = r from hr)
  unfold nextR at HT
  rw [hr]
  clear hr
  have hs0 := ((Step.refl [] w).alloc (.cells #[.int .u8 0, .slice none 0 0] 25)).alloc (.cells #[.int .u8 0, .slice none 0 0] 25)
  have hB0 := (Blk.new w #[.int .u8 0, .slice none 0 0] 25).alloc (.cells #[.int .u8 0, .slice none 0 0] 25)
  have hN0 := Blk.new (w.alloc (.cells #[.int .u8 0, .slice none 0 0] 25)) #[.int .u8 0, .slice none 0 0] 25
  rw [World.size_alloc] at hN0
  have HB0 := Lib.hid hB0
  have HN0 := Lib.hid hN0
  have HSl := Lib.hid (hS.step hs0 (by simp))
  have HS0 := Lib.hid hs0
  have HSw := Lib.hid hS
  clear hS hs0 hB0 hN0
  by_cases q1 : 0 < l.length ∧ l.getD 0 0 ≠ 197
  · have hv := Lib.hid ((if_pos q1).symm.trans HT.out)
    clear HT
    obtain ⟨b, off, rfl, hlt, hc⟩ := HSw.out.bytes 0 q1.1
    rw [Nat.add_zero] at hc
    have hn := World.new_ne w _ hc
    have hy : (l.getD 0 0).toNat ≠ 197 := fun h => q1.2 (UInt8.toNat_inj.1 h)
    have q1' := q1.1
    have Q1 := Lib.hid q1
    clear q1
    have g0 : (0 : Int) < (l.length : Int) := by omega
    generalize (l.getD 0 0).toNat = y at *
    have hx : ((y : Int) == 197) = false := by simp; omega
    generalize l.length = L at *
    go_enter Try.func14, Try.ntmps14
    go_wp2_with fail
    refine bodyPost_ret (next_end (by rfl) _ _ w.heap.size _ _ _ _ _ HB0.out (by rfl) (by rfl) (by rfl) (by rfl)) (by rfl) ?_
    rw [← hv.out]
    exact ⟨rfl, HS0.out⟩
  have HT1 := Lib.hid ((if_neg q1).symm.trans HT.out)
  clear HT
  have h197 : 0 < l.length → l.getD 0 0 = 197 := fun h => Decidable.not_not.1 (fun h2 => q1 ⟨h, h2⟩)
  have H197 := Lib.hid h197
  have Q1 := Lib.hid q1
  clear h197 q1
  by_cases q2 : l.length < 2
  · have hv := Lib.hid ((if_pos q2).symm.trans HT1.out)
    clear HT1
    by_cases q3 : l.length = 0
    · rw [q3]
      clear q2 q3
      go_enter Try.func14, Try.ntmps14
      go_wp2_with fail
      refine bodyPost_ret (next_end (by rfl) _ _ w.heap.size _ _ _ _ _ HB0.out (by rfl) (by rfl) (by rfl) (by rfl)) (by rfl) ?_
      rw [← hv.out]
      exact ⟨rfl, HS0.out⟩
    · have q4 : l.length = 1 := by omega
      obtain ⟨b, off, rfl, hlt, hc⟩ := HSw.out.bytes 0 (by omega)
      rw [H197.out (by omega), Nat.add_zero] at hc
      have hn := World.new_ne w _ hc
      rw [q4]
      clear q2 q3 q4
      go_enter Try.func14, Try.ntmps14
      go_wp2_with fail
      refine bodyPost_ret (next_end (by rfl) _ _ w.heap.size _ _ _ _ _ HB0.out (by rfl) (by rfl) (by rfl) (by rfl)) (by rfl) ?_
      rw [← hv.out]
      exact ⟨rfl, HS0.out⟩
  have HT2 := Lib.hid ((if_neg q2).symm.trans HT1.out)
  clear HT1
  obtain ⟨b, off, rfl, hlt, hc0⟩ := HSw.out.bytes 0 (by omega)
  rw [H197.out (by omega), Nat.add_zero] at hc0
  have hn0 := World.new_ne w _ hc0
  obtain ⟨a2, hcut2, hsl2, hbk2⟩ := HSl.out.cutLow (P := Try.prog) 23 5 Try.underlying23 Try.sizeB 2 (by omega)
  have hcut : ∀ W : World, (Instr.slice 23 (.slice (some ⟨b, off, none⟩) l.length cap) (some (.int .i64 2)) none none).run Try.prog W = .ok (.slice a2 (l.drop 2).length (cap - 2)) W := hcut2
  have hstr := hsl2.str (P := Try.prog) 23 9 5 Try.underlying23 Try.underlying5 Try.underlying9
  have HR := Lib.hid (refRead_any (bstr (l.drop 2)) ((w.alloc (.cells #[.int .u8 0, .slice none 0 0] 25)).alloc (.cells #[.int .u8 0, .slice none 0 0] 25)) (by rw [bstr_size]; simp; omega))
  rw [show (bstr (l.drop 2)).data.toList = l.drop 2 from rfl] at HR
  have hcr := countR_rest 1024 (l.drop 2)
  have hdl : (l.drop 2).length + 2 = l.length := by simp; omega
  have href := refR_count (l.drop 2)
  obtain ⟨⟨x, m, e1⟩, hp⟩ : ∃ p, countR 1024 (numR (l.drop 2) 0) = p := ⟨_, rfl⟩
  rw [hp] at HT2 hcr href
  simp only at HT2 hcr href
  obtain ⟨⟨R1, R2, R3⟩, hR⟩ : ∃ r, refR (l.drop 2) = r := ⟨_, rfl⟩
  rw [hR] at HR href
  simp only at HR href
  have HP := Lib.hid hp
  have HRef := Lib.hid href
  clear hcut2 hsl2 hbk2 hp hR href
  obtain ⟨L, hL⟩ : ∃ L, l.length = L := ⟨_, rfl⟩
  obtain ⟨D, hD⟩ : ∃ D, l.drop 2 = D := ⟨_, rfl⟩
  rw [hL, hD] at hcut hdl
  rw [hD] at HR HP hcr hstr HRef
  rw [hL] at HT2 hlen q2 ⊢
  have HLen := Lib.hid hL
  have HD := Lib.hid hD
  clear hL hD
  have g0 : (0 : Int) < (L : Int) := by omega
  have g1 : ¬ (L : Int) < 2 := by omega
  have g2 : (1 : Int) < (L : Int) := by omega
  have g3 : 1 < L := by omega
  by_cases q3 : R3 = 0
  rotate_left
  · -- no number stands there
    have pe : (R3 == 0) = false := by simpa using q3
    have hv := Lib.hid (HRef.out.1 q3)
    go_enter Try.func14, Try.ntmps14
    go_wp2_with fail
    refine HR.out.mono ?_
    rintro e w1 ⟨rfl, rfl⟩
    go_wp2_with fail
    refine bodyPost_ret (next_end (by rfl) _ _ w.heap.size _ _ _ _ _ HB0.out (by rfl) (by rfl) (by rfl) (by rfl)) (by rfl) ?_
    have ht := HT2.out
    rw [← hv.out, if_pos q3] at ht
    rw [← ht]
    exact ⟨rfl, HS0.out⟩
  subst q3
  by_cases q4 : 1024 < R1
  · -- it is too great
    have p4 : decide ((1024 : Int) < (R1 : Int)) = true := by simp; omega
    have hv := Lib.hid (HRef.out.2.1 rfl q4)
    go_enter Try.func14, Try.ntmps14
    go_wp2_with fail
    refine HR.out.mono ?_
    rintro e w1 ⟨rfl, rfl⟩
    go_wp2_with fail
    refine bodyPost_ret (next_end (by rfl) _ _ w.heap.size _ _ _ _ _ HB0.out (by rfl) (by rfl) (by rfl) (by rfl)) (by rfl) ?_
    have ht := HT2.out
    rw [hv.out, if_pos (by decide)] at ht
    rw [← ht]
    exact ⟨rfl, HS0.out⟩
  obtain ⟨h1, h2, h3⟩ := HRef.out.2.2 rfl q4
  subst h1
  subst h2
  have HT3 := Lib.hid ((if_neg (by decide)).symm.trans HT2.out)
  have hR2 : R2 ≤ D.length := by omega
  clear HT2 HRef
  have p4 : decide ((1024 : Int) < (R1 : Int)) = false := by simp; omega
  have ex : IntKind.i64.wrap (R1 : Int) = (R1 : Int) := by rw [IntKind.wrap_i64]; omega
  by_cases q5 : m.length < R1 + 4
  · -- too few bytes
    have p5 : decide ((L : Int) < 2 + (R2 : Int) + (R1 : Int) + 4) = true := by simp; omega
    have hv := Lib.hid ((if_pos q5).symm.trans HT3.out)
    clear HT3
    go_enter Try.func14, Try.ntmps14
    go_wp2_with fail
    refine HR.out.mono ?_
    rintro e w1 ⟨rfl, rfl⟩
    go_wp2_with fail
    refine bodyPost_ret (next_end (by rfl) _ _ w.heap.size _ _ _ _ _ HB0.out (by rfl) (by rfl) (by rfl) (by rfl)) (by rfl) ?_
    rw [← hv.out]
    exact ⟨rfl, HS0.out⟩
  have p5 : decide ((L : Int) < 2 + (R2 : Int) + (R1 : Int) + 4) = false := by simp; omega
  have HT4 := Lib.hid ((if_neg q5).symm.trans HT3.out)
  clear HT3
  have hparts := next_parts Q1.out (by rw [HLen.out]; exact q2) (by rw [HD.out]; exact HP.out) q5
  rw [HLen.out] at hparts
  obtain ⟨hl1, hd1, hl2, hx1, hl3⟩ := hparts
  have hR2n : R2 = (numB R1).length := by omega
  have HR2N := Lib.hid hR2n
  rw [← hR2n] at hl2 hl3
  obtain ⟨kk, hkk⟩ : ∃ kk, l.getD 1 0 = kk := ⟨_, rfl⟩
  rw [hkk] at hl1 HT4
  obtain ⟨d, hd⟩ : ∃ d, m.take R1 = d := ⟨_, rfl⟩
  rw [hd] at hl1 hd1 hl3 HT4
  obtain ⟨b1, off1, hab, hlt1, hc1⟩ := HSw.out.bytes 1 (by rw [HLen.out]; omega)
  cases hab
  rw [hkk] at hc1
  have hn1 := World.new_ne w _ hc1
  obtain ⟨a5, hdat, hsd, hbk⟩ := HSl.out.cutMid (P := Try.prog) 23 5 Try.underlying23 Try.sizeB (2 + R2) (2 + R2 + R1) (by omega) (by rw [HLen.out]; omega)
  rw [HLen.out, show 2 + R2 + R1 - (2 + R2) = R1 by omega] at hdat
  rw [show 2 + R2 + R1 - (2 + R2) = R1 by omega, hl3] at hsd
  have hfl := frameB_len s kk d
  have hhl := headB_len kk d
  rw [hd1, ← hR2n] at hfl hhl
  have HFL := Lib.hid hfl
  have HHL := Lib.hid hhl
  have HL1 := Lib.hid hl1
  have HD1 := Lib.hid hd1
  have HSD := Lib.hid hsd
  have HKK := Lib.hid hkk
  have HDD := Lib.hid hd
  have HBK := Lib.hid hbk
  have e2 : IntKind.i64.wrap (2 + (R2 : Int)) = 2 + (R2 : Int) := by rw [IntKind.wrap_i64]; omega
  have e3 : IntKind.i64.wrap (2 + (R2 : Int) + (R1 : Int)) = 2 + (R2 : Int) + (R1 : Int) := by rw [IntKind.wrap_i64]; omega
  have e4 : ((2 + R2 : Nat) : Int) = 2 + (R2 : Int) := by omega
  have e5 : ((2 + R2 + R1 : Nat) : Int) = 2 + (R2 : Int) + (R1 : Int) := by omega
  have HDAT := Lib.hid hdat
  rw [e4, e5] at hdat
  clear e4 e5 hl1 hd1 hl2 hl3 hhl hfl hsd hkk hd hR2n hbk
  have hc1' := (HS0.out.cell hlt1 (by simp)).trans hc1
  have hc0' := (HS0.out.cell hlt1 (by simp)).trans hc0
  obtain ⟨W0, hW0⟩ : ∃ W, (w.alloc (.cells #[.int .u8 0, .slice none 0 0] 25)).alloc (.cells #[.int .u8 0, .slice none 0 0] 25) = W := ⟨_, rfl⟩
  have HSl2 := Lib.hid (hW0 ▸ HSl.out)
  have HSD2 := Lib.hid (hW0 ▸ HSD.out)
  have HB2 := Lib.hid (hW0 ▸ HB0.out)
  have HS2 := Lib.hid (hW0 ▸ HS0.out)
  have HM2 := Lib.hid (hW0 ▸ HN0.out)
  rw [hW0] at HR hc1' hc0'
  have HW0 := Lib.hid hW0
  have hn1' := World.new_ne W0 _ hc1'
  have HC := Lib.hid (lawBytes_any s kk a5 (cap - (2 + R2)) d (W0.drew.alloc (.cells #[.int .u8 (kk.toNat : Int), .slice a5 R1 (cap - (2 + R2))] 25)) hs ⟨(HSD2.out.bytes.step ((Step.refl [] W0).drew.alloc (.cells #[.int .u8 (kk.toNat : Int), .slice a5 R1 (cap - (2 + R2))] 25)) (by simp)), fun h => HSD2.out.nil h, by rw [HD1.out]; unfold maxLen; omega⟩ (by rw [HD1.out]; omega))
  rw [HD1.out] at HC
  clear hW0 hn1 hc1 HSl HSD HS0 HB0 HN0
  go_enter Try.func14, Try.ntmps14
  go_wp2_with fail
  rw [HW0.out]
  clear hn0 hc0 hstr
  refine HR.out.mono ?_
  rintro e w1 ⟨rfl, rfl⟩
  go_wp2_with fail
  go_region_held3 (fun w' => w'.cell? ⟨b, off + 1, none⟩ = some (.int .u8 (kk.toNat : Int))) (go_keep) (fail)
  go_wp2_with fail
  refine HC.out.mono ?_
  rintro e w3 ⟨v, rfl, hown, hst⟩
  obtain ⟨g3, c3, rfl, hlF, hmF, -, hbF, hnF, -⟩ := owns_bytes hown
  have hst3 : Step [] W0 w3 := ((Step.refl [] W0).drew.alloc _).then hst (by simp)
  have hN3 : Blk w3 W0.heap.size #[.int .u8 (kk.toNat : Int), .slice a5 R1 (cap - (2 + R2))] 25 := (Blk.new W0.drew #[.int .u8 (kk.toNat : Int), .slice a5 R1 (cap - (2 + R2))] 25).step hst (by simp)
  have hB3 := HB2.out.step hst3 (by simp)
  have HN3 := Lib.hid hN3
  have HB3 := Lib.hid hB3
  have HS3 := Lib.hid hst3
  obtain ⟨F, hF⟩ : ∃ F, (frameB s kk d).length = F := ⟨_, rfl⟩
  have hF2 : F = 6 + R2 + R1 := by rw [← hF]; exact HFL.out
  have hcv1 : ∀ W, Step [] w3 W → (convert 23 9 (.slice g3 F c3)).run Try.prog W = .ok (.string (bstr (frameB s kk d))) W := fun W hW => by
    have h := (hbF.step hW (by simp)).str (P := Try.prog) (fun h => (hnF h).1) c3 23 9 5 Try.underlying23 Try.underlying5 Try.underlying9
    rw [hF] at h
    exact h
  obtain ⟨hhigh, hsh⟩ := HSl2.out.cutHigh (P := Try.prog) 23 5 Try.underlying23 Try.sizeB F (by rw [HLen.out]; omega)
  have htl : (l.take F).length = F := by rw [List.length_take, HLen.out]; omega
  rw [htl, HLen.out] at hhigh
  have hcv2 : ∀ W, Step [] w3 W → (convert 23 9 (.slice (some ⟨b, off, none⟩) F cap)).run Try.prog W = .ok (.string (bstr (l.take F))) W := fun W hW => by
    have h := (hsh.step (HS3.out.then hW (by simp)) (by simp)).str (P := Try.prog) 23 9 5 Try.underlying23 Try.underlying5 Try.underlying9
    rw [htl] at h
    exact h
  have hKq : L - m.length + R1 = 2 + R2 + R1 := by omega
  have htk : l.take (2 + R2 + R1) = headB kk d := by
    conv => lhs; rw [HL1.out]
    rw [List.take_left' HHL.out]
  have htF : l.take F = headB kk d ++ (l.drop (2 + R2 + R1)).take 4 := by
    rw [← htk, hF2, show 6 + R2 + R1 = (2 + R2 + R1) + 4 by omega, List.take_add]
  have hT := HT4.out
  rw [hKq, htk] at hT
  have hBB : (((bstr (frameB s kk d)).toList == (bstr (l.take F)).toList) = decide (leN 4 (moreN s (headB kk d)) = (l.drop (2 + R2 + R1)).take 4)) := by
    rw [htF]
    unfold frameB
    rw [ByteArray.toList_eq, ByteArray.toList_eq]
    show ((headB kk d ++ leN 4 (moreN s (headB kk d)) == headB kk d ++ (l.drop (2 + R2 + R1)).take 4)) = _
    rw [Bool.eq_iff_iff]
    simp
  have HT5 := Lib.hid hT
  obtain ⟨S, hS⟩ : ∃ S, moreN s (headB kk d) = S := ⟨_, rfl⟩
  rw [hS] at hBB HT5 ⊢
  obtain ⟨Bq, hBq⟩ : ∃ B, decide (leN 4 S = (l.drop (2 + R2 + R1)).take 4) = B := ⟨_, rfl⟩
  rw [hBq] at hBB
  have HBq := Lib.hid hBq
  rw [hF]
  rw [hF] at hmF
  have hF0 : (0 : Int) ≤ (F : Int) := by omega
  have hFL : F ≤ L := by omega
  have HCV := Lib.hid (And.intro hcv1 hcv2)
  have HF2 := Lib.hid (And.intro hF2 (And.intro hF hKq))
  obtain ⟨X, hX⟩ : ∃ X, bstr (frameB s kk d) = X := ⟨_, rfl⟩
  obtain ⟨Y, hY⟩ : ∃ Y, bstr (l.take F) = Y := ⟨_, rfl⟩
  rw [hX, hY] at HCV
  rw [hX, hY] at hBB
  clear hown hst hst3 hN3 hB3 hcv1 hcv2 hsh htl hT htk htF hS hBq hX hY hbF hnF HT4 HSl2 hlF hF2 hF hKq hc0' hc1' hn1' HC HR
  go_wp2_with fail
  have d1 : ∀ x : ClsW (fun X => X = w3.drew), (convert 23 9 (.slice g3 F c3)).run Try.prog x.val = .ok (.string X) x.val := fun x => HCV.out.1 _ (by rw [x.ok]; exact (Step.refl [] w3).drew)
  have d2 : ∀ x : ClsW (fun X => X = w3.drew), (convert 23 9 (.slice (some ⟨b, off, none⟩) F cap)).run Try.prog x.val = .ok (.string Y) x.val := fun x => HCV.out.2 _ (by rw [x.ok]; exact (Step.refl [] w3).drew)
  have hnn : Nonempty (ClsW (fun X => X = w3.drew)) := ⟨⟨_, rfl⟩⟩
  refine region_cls (G := fun X => X = w3.drew) (by kernel_rfl) (by kernel_rfl) rfl ?_
  repeat (go_big_quiet_step (fail))
  refine wpQuiet_nil ?_
  rintro w4 ⟨⟨w5, hw5⟩, hw4⟩
  subst hw5
  have hw4' : w4 = w3.drew := hw4
  subst hw4'
  clear hw4
  have hB3 := HB3.out
  have hM3 := HM2.out.step HS3.out (by simp)
  have hN4 := HN3.out
  have y0 := hB3.cell 0
  have y1 := hB3.cell 1
  have m0 := hM3.cell 0
  have m1 := hM3.cell 1
  have n0 := hN4.cell 0
  have n1 := hN4.cell 1
  simp only [List.getElem?_toArray, List.getElem?_cons_zero, List.getElem?_cons_succ] at y0 y1 m0 m1 n0 n1
  have z0 := hB3.free 0
  have z1 := hB3.free 1
  have hS3 := HS2.out.then HS3.out (by simp)
  have hltb := hB3.lt
  have hsz3 := HS3.out.size
  have hsz2 := HS2.out.size
  have HS3' := Lib.hid hS3
  have HB3' := Lib.hid hB3
  have hx : (m.take R1).length = R1 := by rw [HDD.out]; exact HD1.out
  have HSD3 := Lib.hid (HSD2.out.bytes.step HS3.out (by simp))
  have HNil := Lib.hid HSD2.out.nil
  clear hB3 hS3 d1 d2 hnn HB3 HSD2 hx hM3 hN4
  cases Bq with
  | false =>
    have hv := Lib.hid ((if_neg (of_decide_eq_false HBq.out)).symm.trans HT5.out)
    clear HT5
    go_wp2_with fail
    refine bodyPost_ret (next_end (by rfl) _ _ w.heap.size _ _ _ _ _ ((HB3'.out.set 0 _).set 1 _).drew (by rfl) (by rfl) (by rfl) (by rfl)) (by rfl) ?_
    rw [← hv.out]
    exact ⟨rfl, ((HS3'.out.setCell (.inr (Nat.le_refl _)) 0 _).setCell (.inr (Nat.le_refl _)) 1 _).drew⟩
  | true =>
    have hv := Lib.hid ((if_pos (of_decide_eq_true HBq.out)).symm.trans HT5.out)
    clear HT5
    go_wp2_with fail
    refine bodyPost_ret (next_end (by rfl) _ _ w.heap.size _ _ _ _ _ ((HB3'.out.set 0 _).set 1 _).drew (by rfl) (by rfl) (by rfl) (by rfl)) (by rfl) ?_
    rw [← hv.out]
    have hst : Step [w.heap.size] w3 ((w3.setCell ⟨w.heap.size, 0, none⟩ (.int .u8 (kk.toNat : Int))).setCell ⟨w.heap.size, 1, none⟩ (.slice a5 R1 (cap - (2 + R2)))).drew := (((Step.refl _ w3).setCell (.inl (by simp)) 0 _).setCell (.inl (by simp)) 1 _).drew
    refine ⟨⟨a5, cap - (2 + R2), ?_, HSD3.out.step hst (fun b' off' h hm => ?_), HNil.out, ?_⟩, ((HS3'.out.setCell (.inr (Nat.le_refl _)) 0 _).setCell (.inr (Nat.le_refl _)) 1 _).drew⟩
    · have h1 := HF2.out.1
      rw [HD1.out, h1]
      congr 1
      simp
      omega
    · have h1 := HBK.out
      rw [h] at h1
      simp [blkOf] at h1
      simp at hm
      omega
    · rw [HD1.out, ← HR2N.out]
      exact HDAT.out

/-- what the law's own Next hands over hangs on the bytes alone -/
theorem lawNext_det {s : Nat} {a : Option Addr} {cap : Nat} {l : List UInt8} {w : World} (hs : s < 4294967296) (hS : SlB w a l cap) (hlen : l.length ≤ 1000000) {k : UInt8} {d : List UInt8} {n t : Nat} (hn : nextR s l = .ok k d n t) :
    ∃ a5 c5, Bytes w a5 d ∧ (a5 = none → d.length = 0 ∧ c5 = 0) ∧ (∀ b, blkOf a5 = some b → blkOf a = some b) ∧
      ∀ W, SlB W a l cap → Calls Try.prog 14 #[.int .u32 (s : Int), .slice a l.length cap] W fun e w' => e = .returned (.tuple #[.agg #[.int .u8 (k.toNat : Int), .slice a5 d.length c5], .int .i64 (n : Int), .int .u32 (t : Int), .int .i64 0]) ∧ Step [] W w' := by
  obtain ⟨h1, h2, h3, h4⟩ := nextR_where hn
  obtain ⟨a5, hrun, hsl, hbk⟩ := hS.cutMid (P := Try.prog) 23 5 Try.underlying23 Try.sizeB (2 + (numB d.length).length) (2 + (numB d.length).length + d.length) (by omega) h1
  rw [Nat.add_sub_cancel_left] at hrun hsl
  rw [h2] at hsl
  refine ⟨a5, cap - (2 + (numB d.length).length), hsl.bytes, hsl.nil, fun b hb => by rw [hbk] at hb; exact hb, fun W hW => ?_⟩
  have h := lawNext_any s a cap l W hs hW hlen
  rw [hn] at h
  refine h.mono ?_
  rintro e w' ⟨⟨a6, c6, rfl, hb6, hn6, hr6⟩, hst⟩
  have h5 := hr6 W
  rw [hrun W] at h5
  simp only [Result.ok.injEq, Value.slice.injEq, and_true] at h5
  obtain ⟨rfl, -, rfl⟩ := h5
  exact ⟨rfl, hst⟩
end Go.Proofs.Ytkogchmnpffiaaa
