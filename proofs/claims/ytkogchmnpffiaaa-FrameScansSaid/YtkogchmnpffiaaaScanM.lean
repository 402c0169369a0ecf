/- FrameScans: the walk. -/
import Derived.Test.YtkogchmnpffiaaaScanL
import Derived.Deep.CutBlock
import Derived.Deep.RegionLaw
import Derived.Deep.RegionHeld3
namespace Go.Proofs.Ytkogchmnpffiaaa
set_option linter.unusedVariables false
set_option linter.unusedSimpArgs false
open Go.RowKit
attribute [local go_sem] Oper.semAt_some
set_option maxRecDepth 100000 in
set_option maxHeartbeats 40000000 in
theorem scans_any (s : Nat) (a b : Option Addr) (ca cb : Nat) (l : List Rr) (r : List UInt8) (cut at' by' : Nat) (w : World) (hs : s < 4294967296) (hL : Recs w a ca l) (hR : RecIn w b cb r) (hc : cut < 65536) (ha : at' < 65536) (hby : by' < 256) :
    Calls Try.prog 5 #[.int .u32 (s : Int), .slice a l.length ca, .slice b r.length cb, .int .u16 (cut : Int), .int .u16 (at' : Int), .int .u8 (by' : Int)] w fun e w' => e = .returned (.bool true) ∧ Step [] w w' := by
  have HL := Lib.hid hL
  have HR := Lib.hid hR
  clear hL hR
  obtain ⟨n, hn⟩ : ∃ n, l.length = n := ⟨_, rfl⟩
  obtain ⟨m, hm⟩ : ∃ m, r.length = m := ⟨_, rfl⟩
  have HN := Lib.hid hn
  have HM := Lib.hid hm
  rw [hn, hm]
  clear hn hm
  obtain ⟨lv, hlv⟩ : ∃ lv, Value.slice a n ca = lv := ⟨_, rfl⟩
  have b7 := (Blk.new w #[.slice a n ca] 40).alloc (.cells #[.bool false] 4)
  have b12 := Blk.new (w.alloc (.cells #[.slice a n ca] 40)) #[.bool false] 4
  rw [World.size_alloc] at b12
  have hs0 := ((Step.refl [] w).alloc (.cells #[.slice a n ca] 40)).alloc (.cells #[.bool false] 4)
  have HB := Lib.hid (And.intro hs0 (And.intro b7 b12))
  clear b7 b12 hs0 hlv
  refine calls_of_wp_marks Try.func5 rfl ?_
  simp only [Try.ntmps5, List.size_toArray, List.length_cons, List.length_nil, Nat.reduceAdd, Nat.reduceSub, Array.replicate_succ, Array.replicate_zero, List.push_toArray, List.append_toArray, List.nil_append, List.cons_append]
  go_wp2_with fail
  refine (lives_any _).mono ?_
  rintro e w1 ⟨rfl, hs1⟩
  have h1 := HB.out.1.then hs1 (by simp)
  have c7 := HB.out.2.1.step hs1 (by simp)
  have c12 := HB.out.2.2.step hs1 (by simp)
  obtain ⟨b7, hb7⟩ : ∃ b, w.heap.size = b := ⟨_, rfl⟩
  rw [hb7] at c7 c12 ⊢
  have HB7 := Lib.hid hb7
  have x7 := c7.cell 0
  have x12 := c12.cell 0
  simp only [List.getElem?_toArray, List.getElem?_cons_zero] at x7 x12
  have H1 := Lib.hid (And.intro h1 (And.intro c7 c12))
  clear hs1 h1 c7 c12 hb7 HB
  by_cases hbig : 20 < n ∨ 60 < m
  · obtain ⟨p1, p2, hp1, hp2, hor⟩ : ∃ p1 p2 : Bool, decide ((20 : Int) < (n : Int)) = p1 ∧ decide ((60 : Int) < (m : Int)) = p2 ∧ (p1 = true ∨ (p1 = false ∧ p2 = true)) := by
      refine ⟨_, _, rfl, rfl, ?_⟩
      simp
      omega
    clear hbig
    rcases hor with rfl | ⟨rfl, rfl⟩
    all_goals
      go_wp2_with fail
      refine (lives_any _).mono ?_
      rintro e w2 ⟨rfl, hs2⟩
      have H2 := Lib.hid (And.intro (H1.out.1.then hs2 (by simp)) (H1.out.2.2.step hs2 (by simp)))
      have f0 := H2.out.2.cell 0
      have g0 := H2.out.2.free 0
      simp only [List.getElem?_toArray, List.getElem?_cons_zero] at f0
      clear hs2
      go_wp2_with fail
      exact leave_scans (Ds := []) (H2.out.2.set 0 _) (H2.out.1.setCell (.inr (by rw [HB7.out]; omega)) 0 _) ⟨List.nodup_nil, fun D hD => by cases hD⟩ (fun D hD => by cases hD) rfl (fun w' hs => ⟨rfl, hs⟩)
  have p1 : decide ((20 : Int) < (n : Int)) = false := by simp; omega
  have p2 : decide ((60 : Int) < (m : Int)) = false := by simp; omega
  have hn20 : n ≤ 20 := by omega
  have hm60 : m ≤ 60 := by omega
  clear hbig
  have ne7 : ∀ o, (w1.alloc o).cell? ⟨b7, 0, none⟩ = some (.slice a n ca) := fun o => ((H1.out.2.1.alloc o).cell 0).trans rfl
  go_wp2_with fail
  obtain ⟨rs, hrs⟩ : ∃ rs, l.map Rr.pr = rs := ⟨_, rfl⟩
  have hrl : rs.length = n := by rw [← hrs, List.length_map]; exact HN.out
  have HRS := Lib.hid (And.intro hrs hrl)
  obtain ⟨b14, hb14⟩ : ∃ b, w1.heap.size = b := ⟨_, rfl⟩
  have hlt7 := H1.out.2.2.lt
  have hK0 : Ck w b7 b14 (b14 + 1) (.slice a n ca) (.slice none 0 0) (.slice none 0 0) (startsF s rs 0) (chainB s (rs.take 0)) (w1.alloc (.cells #[.slice none 0 0] 42)) := by
    have h14 := Blk.new w1 #[.slice none 0 0] 42
    rw [hb14] at h14 hlt7
    exact ⟨H1.out.1.alloc _, H1.out.2.1.alloc _, H1.out.2.2.alloc _, h14, by rw [HB7.out]; exact Nat.le_refl _, hlt7, Nat.lt_succ_self _, World.ownsRow_nil _ _ _ _, World.ownsRow_nil _ _ _ _, fun k hk => by simp [foot, Value.ownBlock] at hk⟩
  rw [hb14]
  have HK0 := Lib.hid hK0
  clear hrs hrl hK0 x7 x12 ne7 hlt7 hb14 H1
  obtain ⟨i0, hi, hz0, hz1, hz2⟩ := info_parts Try.infoB
  obtain ⟨i1, k1, k2, k3, k4⟩ := info_parts (show (Try.prog.info? 3).map (fun i => (i.zero, i.size, i.bytes)) = some (some (.int .i64 0), 1, 8) from by kernel_rfl)
  have HI := Lib.hid (And.intro (And.intro hi (And.intro hz0 (And.intro hz1 hz2))) (And.intro k1 (And.intro k2 (And.intro k3 k4))))
  clear hi hz0 hz1 hz2 k1 k2 k3 k4
  go_loopw [13, 15, 59] (fun bv sm j wr => ∃ (i : Nat) (sv : Value), i ≤ n ∧ j = .int .i64 (i : Int) ∧ sm = .int .u32 ((chainS s (rs.take i) : Nat) : Int) ∧ (∀ q, q < i → (rs.getD q (0, [])).2.length ≤ 100) ∧ Ck w b7 b14 (b14 + 1) (.slice a n ca) sv bv (startsF s rs i) (chainB s (rs.take i)) wr) (fun _ _ j _ => n - (intOf j).toNat)
  case atStart => exact ⟨0, _, Nat.zero_le _, rfl, rfl, fun q hq => by omega, HK0.out⟩
  case round =>
    obtain ⟨i, sv, hin, rfl, rfl, hall, hK⟩ := hrel
    have HK := Lib.hid hK
    have HA := Lib.hid hall
    clear hK hall HK0
    by_cases hlt : i < n
    · obtain ⟨b0, off, rfl, hlt0, c0, c1⟩ := (HL.out.step HK.out.st).cells i (by rw [HN.out]; exact hlt)
      obtain ⟨x, hx⟩ : ∃ x, l.getD i rr0 = x := ⟨_, rfl⟩
      rw [hx] at c0 c1
      obtain ⟨xk, xa, xc, xd⟩ := x
      simp only [Rr.sl] at c0 c1
      have p3 : (i : Int) < (n : Int) := by omega
      have p4 : (0 : Int) ≤ (i : Int) := by omega
      have HX := Lib.hid hx
      clear hx
      obtain ⟨D, hD⟩ : ∃ D, xd.length = D := ⟨_, rfl⟩
      rw [hD] at c1
      have HD := Lib.hid hD
      clear hD
      have hmem : l.getD i rr0 ∈ l := by
        rw [List.getD, List.getElem?_eq_getElem (by rw [HN.out]; exact hlt)]
        exact List.getElem_mem _
      rw [HX.out] at hmem
      have hdat := ((HL.out.step HK.out.st).data _ hmem).1
      simp only at hdat
      have hrx : rs.getD i (0, []) = (xk, xd) := by
        rw [← HRS.out.1, List.getD, List.getElem?_map, List.getElem?_eq_getElem (by rw [HN.out]; exact hlt)]
        have h2 := HX.out
        rw [List.getD, List.getElem?_eq_getElem (by rw [HN.out]; exact hlt)] at h2
        simp only [Option.getD_some] at h2
        simp only [Option.map_some, Option.getD_some, h2]
        rfl
      have f12 : ∀ o, (wr.alloc o).cell? ⟨b7 + 1, 0, none⟩ = some (.bool false) := fun o => ((HK.out.c12.alloc o).cell 0).trans rfl
      have g12 : ∀ o, (wr.alloc o).frozen? ⟨b7 + 1, 0, none⟩ = false := fun o => (HK.out.c12.alloc o).free 0
      by_cases h100 : 100 < D
      · have p5 : decide ((100 : Int) < (D : Int)) = true := by simp; omega
        clear hmem hdat hrx
        go_wp2_with fail
        exact leave_scans (Ds := []) ((HK.out.c12.alloc _).set 0 _) ((HK.out.st.alloc _).setCell (.inr (by have := HK.out.low; omega)) 0 _) ⟨List.nodup_nil, fun D hD => by cases hD⟩ (fun D hD => by cases hD) rfl (fun w' hs => ⟨rfl, hs⟩)
      have p5 : decide ((100 : Int) < (D : Int)) = false := by simp; omega
      obtain ⟨S, hS⟩ : ∃ S, chainS s (rs.take i) = S := ⟨_, rfl⟩
      have hSl := chainS_lt (rs.take i) s hs
      have hS1 := chainS_take (s := s) (rs := rs) (i := i) (by rw [HRS.out.2]; exact hlt)
      have hB1 := chainB_take (s := s) (rs := rs) (i := i) (by rw [HRS.out.2]; exact hlt)
      have hs1 := startsF_snoc s rs i
      have hsl := startsF_len s rs i
      have hbl := chainB_le (rs.take i) s 100 (fun y hy => by
        obtain ⟨q, hq, rfl⟩ := List.getElem_of_mem hy
        have h3 := HA.out q (by rw [List.length_take] at hq; omega)
        rw [List.getD, List.getElem?_eq_getElem (by rw [List.length_take] at hq; omega)] at h3
        simpa using h3)
      rw [List.length_take] at hbl
      rw [hrx] at hS1 hB1
      simp only at hS1 hB1
      rw [hS] at hS1 hB1 hSl
      obtain ⟨B, hB⟩ : ∃ B, chainB s (rs.take i) = B := ⟨_, rfl⟩
      obtain ⟨ss, hss⟩ : ∃ ss, startsF s rs i = ss := ⟨_, rfl⟩
      rw [hB] at hB1 hs1 hbl
      rw [hss] at hs1 hsl
      have hKc := HK.out
      rw [hB, hss] at hKc
      obtain ⟨ab, capb, rfl, hlb, hslb, -, -⟩ := owns_slb hKc.brow
      have hsv := hKc.srow
      obtain ⟨asv, csv, rfl⟩ : ∃ asv csv, sv = .slice asv i csv := by
        rcases hsv.2 with ⟨h1, h2⟩ | ⟨g, c, cur, h1, -⟩
        · rw [hsl] at h2
          exact ⟨none, 0, by rw [h1, h2]⟩
        · rw [hsl] at h1
          exact ⟨_, c, h1⟩
      have HKc := Lib.hid hKc
      have HF := Lib.hid (And.intro hS1 (And.intro hB1 (And.intro hs1 (And.intro hsl hrx))))
      have HSS := Lib.hid (And.intro hS (And.intro hB hss))
      rw [hS]
      obtain ⟨NB, hNB⟩ : ∃ NB, B.length = NB := ⟨_, rfl⟩
      have HNB := Lib.hid hNB
      have hNBl : NB ≤ 2400 := by
        have h1 : min i rs.length * (16 + 100) ≤ 20 * 116 := Nat.mul_le_mul (by omega) (by omega)
        omega
      rw [hNB]
      have HC := Lib.hid (lawBytes_any S xk xa xc xd (wr.alloc (.cells #[.int .u8 (xk.toNat : Int), .slice xa xd.length xc] 25)) hSl ⟨hdat.bytes.step ((Step.refl [] wr).alloc _) (by simp), hdat.nil, hdat.max⟩ (by rw [HD.out]; omega))
      have hXl := frameB_len S xk xd
      have hnl := numB_len xd.length
      rw [HD.out] at HC hXl hnl
      have ne14 : ∀ W, Step [] wr W → W.cell? ⟨b14, 0, none⟩ = some (.slice asv i csv) := fun W hW => ((HKc.out.quiet hW).c14.cell 0).trans rfl
      have nf14 : ∀ W, Step [] wr W → W.frozen? ⟨b14, 0, none⟩ = false := fun W hW => (HKc.out.quiet hW).c14.free 0
      have HN14 := Lib.hid (And.intro ne14 nf14)
      obtain ⟨X, hX⟩ : ∃ X, frameB S xk xd = X := ⟨_, rfl⟩
      rw [hX] at HC hXl
      obtain ⟨S2, hS2⟩ : ∃ S2, moreN S (headB xk xd) = S2 := ⟨_, rfl⟩
      rw [hS2] at HC
      have HX2 := Lib.hid (And.intro hX hS2)
      obtain ⟨NX, hNX⟩ : ∃ NX, X.length = NX := ⟨_, rfl⟩
      rw [hNX] at HC hXl
      have HNX := Lib.hid hNX
      have hNXb : NX ≤ 116 := by omega
      have HSL := Lib.hid hsl
      clear hNX hXl hmem hdat hrx hS hB hss hS1 hB1 hs1 hsl hKc hsv hbl hslb hlb ne14 nf14 hNB hX hS2 f12 g12
      go_wp2_with fail
      refine HC.out.mono ?_
      rintro e w3 ⟨v, rfl, hown, hst⟩
      obtain ⟨g3, c3, rfl, -, -, -, hb3, hn3, -⟩ := owns_bytes hown
      have hst3 : Step [] wr w3 := ((Step.refl [] wr).alloc _).then hst (by simp)
      have r14 := HN14.out.1 w3 hst3
      have hK3 := HKc.out.quiet hst3
      have hsr := hK3.srow
      rw [HSL.out] at hsr
      have hbz := hK3.c14.lt
      have hnf := owns_base hsr
      have h14n : b14 ∉ foot (.slice asv i csv) := fun hm => by have := hnf _ hm; omega
      have H3 := Lib.hid (And.intro hK3 (And.intro hsr (And.intro h14n (And.intro hown (And.intro hb3 hn3)))))
      clear hown hst hb3 hn3 hst3 hsr hK3 hnf h14n
      go_wp2_with (at_builtin; refine wpList_append_sep rfl (.tmp 73) (.tmp 76) 42 rfl (b14 + 1) 3 i1 (.int .i64 0) 1 8 Try.underlying42 HI.out.2.1 HI.out.2.2.1 HI.out.2.2.2.1 HI.out.2.2.2.2 rfl (by decide) _ i (ss.map intVal) rfl (owns_step H3.out.2.1 ((Step.refl [] w3).alloc _) (by simp)) (some ⟨w3.heap.size, 0, none⟩) 1 1 [.int .i64 (NB : Int)] rfl (by intro h; cases h) rfl (fun ad h => by cases h; exact cell_one_new _ _ _) (by intro u hu; simp at hu; subst hu; rfl) (by unfold maxLen; omega) (by omega) (by rw [World.size_alloc]; omega) ?_)
      intro v5 w5 ho5 hg5 hf5
      have hs5 : Step (foot (.slice asv i csv)) w3 w5 := ((Step.refl _ _).alloc _).grown hg5 (fun k hk => .inl (mem_foot.2 hk))
      have hf5' : Fresh w3 (foot (.slice asv i csv)) (foot v5) := fun k hk => (hf5 k hk).imp id (fun h => by rw [World.size_alloc] at h; omega)
      obtain ⟨g5, c5, rfl, -⟩ := owns_form ho5 (by omega)
      have r14 : w5.cell? ⟨b14, 0, none⟩ = some (.slice asv i csv) := (hs5.cell hbz H3.out.2.2.1).trans r14
      have q14 : w5.frozen? ⟨b14, 0, none⟩ = false := (hs5.frozen hbz H3.out.2.2.1).trans (H3.out.1.c14.free 0)
      have hK5 := H3.out.1.start (x := NB) hs5 (by rw [HSL.out]; exact ho5) hf5'
      have hdj : ∀ k, k ∈ foot (.slice g3 NX c3) → k ∉ b14 :: foot (.slice asv i csv) := fun k hk hm => by
        have h1 := owns_base H3.out.2.2.2.1 k hk
        rw [World.size_alloc] at h1
        rcases List.mem_cons.1 hm with h | h
        · have := HKc.out.c14.lt
          omega
        · have := owns_live HKc.out.srow k h
          omega
      have hX5 := owns_step H3.out.2.2.2.1 hK5.2 hdj
      obtain ⟨g3', c3', hv3, -, -, -, hb5, hn5, -⟩ := owns_bytes hX5
      cases hv3
      have H5 := Lib.hid (And.intro hK5.1 (And.intro hb5 hn5))
      have hsz5 := hs5.size
      clear ho5 hg5 hf5 hs5 hf5' hK5 hX5 hb5 hn5 hdj H3
      go_wp2_with (at_builtin; refine wpList_append_sep rfl (.tmp 78) (.tmp 79) 23 rfl (b14 + 1) 5 i0 (.int .u8 0) 1 1 Try.underlying23 HI.out.1.1 HI.out.1.2.1 HI.out.1.2.2.1 HI.out.1.2.2.2 rfl (by decide) _ NB (B.map byteVal) rfl (by have h := H5.out.1.brow; rw [HNB.out] at h; exact h) g3 NX c3 (X.map byteVal) rfl H5.out.2.2 (by rw [List.length_map, HNX.out]; simp) H5.out.2.1.news (byteVals_cell _) (by unfold maxLen; omega) (by omega) (by rw [World.size_setCell]; omega) ?_)
      intro v6 w6 ho6 hg6 hf6
      have hK6 := H5.out.1.more (X := X) ((Step.refl _ _).grown hg6 (fun k hk => .inl (by rw [HNB.out]; exact mem_foot.2 hk))) (by rw [HNB.out, HNX.out]; exact ho6) (by rw [HNB.out]; exact hf6)
      have HK6 := Lib.hid hK6
      clear ho6 hg6 hf6 hK6 H5
      go_wp2_with fail
      go_roundw
      case rel =>
        obtain ⟨f1, f2, f3, f4, f5⟩ := HF.out
        refine ⟨i + 1, .slice (some ⟨g5, 0, none⟩) (i + 1) c5, hlt, by go_num, ?_, fun q hq => ?_, ?_⟩
        · rw [f1, HX2.out.2]
        · rcases Nat.lt_or_ge q i with h | h
          · exact HA.out q h
          · obtain rfl : q = i := by omega
            rw [f5]
            show xd.length ≤ 100
            rw [HD.out]
            omega
        · rw [f2, f3, HX2.out.1, HNB.out]
          exact HK6.out
      case measure => simp [intOf]; omega
    · obtain rfl : i = n := by omega
      have hrt : rs.take i = rs := List.take_of_length_le (by rw [HRS.out.2]; exact Nat.le_refl _)
      have hall := HA.out
      have hK := HK.out
      rw [hrt] at hK ⊢
      have hrs100 : ∀ y ∈ rs, y.2.length ≤ 100 := fun y hy => by
        obtain ⟨q, hq, rfl⟩ := List.getElem_of_mem hy
        have h3 := hall q (by have := HRS.out.2; omega)
        rw [List.getD, List.getElem?_eq_getElem hq] at h3
        simpa using h3
      have hNBl := chainB_le rs s 100 hrs100
      rw [HRS.out.2] at hNBl
      obtain ⟨B, hB⟩ : ∃ B, chainB s rs = B := ⟨_, rfl⟩
      obtain ⟨ss, hss⟩ : ∃ ss, startsF s rs i = ss := ⟨_, rfl⟩
      obtain ⟨S, hS⟩ : ∃ S, chainS s rs = S := ⟨_, rfl⟩
      have hSl := chainS_lt rs s hs
      rw [hS] at hSl ⊢
      rw [hB, hss] at hK
      rw [hB] at hNBl
      obtain ⟨ab, capb, rfl, hlb, hslb, -, -⟩ := owns_slb hK.brow
      have hssl : ss.length = i := by rw [← hss, startsF_len]
      obtain ⟨asv, csv, rfl⟩ : ∃ asv csv, sv = .slice asv i csv := by
        rcases hK.srow.2 with ⟨h1, h2⟩ | ⟨g, c, cur, h1, -⟩
        · rw [hssl] at h2
          exact ⟨none, 0, by rw [h1, h2]⟩
        · rw [hssl] at h1
          exact ⟨_, c, h1⟩
      have HSS := Lib.hid hssl
      clear hssl
      obtain ⟨NB, hNB⟩ : ∃ NB, B.length = NB := ⟨_, rfl⟩
      rw [hNB] at hNBl hK ⊢
      have HNB := Lib.hid hNB
      have HK1 := Lib.hid hK
      have HBS := Lib.hid (And.intro hB (And.intro hss (And.intro hS hrs100)))
      have HSB := Lib.hid (hslb)
      have hNB2 : NB ≤ 2320 := by omega
      clear hrt hall hK hrs100 hNBl hB hss hS hNB hslb hlb HK HA hlt
      have p3 : ¬ (i : Int) < (i : Int) := by omega
      go_wp2_with (at_builtin; refine wpList_append_sep rfl (.tmp 83) (.tmp 84) 23 rfl wr.heap.size 5 i0 (.int .u8 0) 1 1 Try.underlying23 HI.out.1.1 HI.out.1.2.1 HI.out.1.2.2.1 HI.out.1.2.2.2 rfl (by decide) _ 0 [] rfl (World.ownsRow_made _ _ 0 (Nat.le_refl _) (Nat.zero_le _) rfl) ab NB capb (B.map byteVal) rfl (fun h => by have h2 := HSB.out.nil h; rw [HNB.out] at h2; exact h2) (by rw [List.length_map, HNB.out]; simp) (HSB.out.bytes.step ((Step.refl [] wr).alloc _) (by simp)).news (byteVals_cell _) (by unfold maxLen; omega) (by omega) (by rw [World.size_alloc]; omega) ?_)
      intro v2 w2 ho2 hg2 hf2
      have hs2 : Step [] wr w2 := ((Step.refl [] wr).alloc _).grown hg2 (fun k hk => .inr (by simp [Value.ownBlock] at hk; omega))
      have ho2' : w2.ownsRow wr.heap.size 5 1 v2 NB (B.map byteVal) := by simpa using ho2
      have HK2 := Lib.hid (And.intro hs2 ho2')
      clear ho2 ho2' hg2 hf2 hs2
      obtain ⟨av2, cv2, rfl, -⟩ := owns_bytes HK2.out.2
      go_wp2_with (at_builtin; refine wpList_append_sep rfl (.tmp 85) (.tmp 86) 23 rfl wr.heap.size 5 i0 (.int .u8 0) 1 1 Try.underlying23 HI.out.1.1 HI.out.1.2.1 HI.out.1.2.2.1 HI.out.1.2.2.2 rfl (by decide) _ NB (B.map byteVal) rfl HK2.out.2 b m cb (r.map byteVal) rfl (fun h => by have h2 := HR.out.nil h; rw [HM.out] at h2; exact h2) (by rw [List.length_map, HM.out]; simp) (HR.out.bytes.step (HK1.out.st.then HK2.out.1 (by simp)) (by simp)).news (byteVals_cell _) (by unfold maxLen; omega) (by omega) HK2.out.1.size ?_)
      intro v3 w3 ho3 hg3 hf3
      have hs3 : Step [] wr w3 := HK2.out.1.then ((Step.refl _ _).grown hg3 (fun k hk => .inl (mem_foot.2 hk))) (fun k hk => .inr (owns_base HK2.out.2 k hk))
      rw [← List.map_append] at ho3
      obtain ⟨T, hT⟩ : ∃ T, B ++ r = T := ⟨_, rfl⟩
      have hTl : T.length = NB + m := by rw [← hT, List.length_append, HNB.out, HM.out]
      obtain ⟨NT, hNT⟩ : ∃ NT, NB + m = NT := ⟨_, rfl⟩
      rw [hT, hNT] at ho3
      rw [hNT] at hTl
      have HT := Lib.hid (And.intro hT (And.intro hTl hNT))
      have hNTb : NT ≤ 2400 := by omega
      obtain ⟨g3, c3, rfl, -⟩ := owns_bytes ho3
      have HK3 := Lib.hid (And.intro hs3 ho3)
      clear ho3 hg3 hf3 hs3 hT hTl hNT HK2
      obtain ⟨W4, hW4⟩ : ∃ W, (((w3.alloc (.cells #[.slice g3 NT c3] 23)).alloc (.cells #[.int .i64 (NB : Int)] 3)).alloc (.cells #[.int .u32 (S : Int)] 22)).alloc (.cells #[.int .i64 0] 3) = W := ⟨_, rfl⟩
      have hs4 : Step [] w3 W4 := by rw [← hW4]; exact ((((Step.refl [] w3).alloc _).alloc _).alloc _).alloc _
      have hbo : Bo w3.heap.size (.slice g3 NT c3) NB S 0 W4 := by
        have h20 := (((Blk.new w3 #[.slice g3 NT c3] 23).alloc (.cells #[.int .i64 (NB : Int)] 3)).alloc (.cells #[.int .u32 (S : Int)] 22)).alloc (.cells #[.int .i64 0] 3)
        have h21 := ((Blk.new (w3.alloc (.cells #[.slice g3 NT c3] 23)) #[.int .i64 (NB : Int)] 3).alloc (.cells #[.int .u32 (S : Int)] 22)).alloc (.cells #[.int .i64 0] 3)
        have h22 := (Blk.new ((w3.alloc (.cells #[.slice g3 NT c3] 23)).alloc (.cells #[.int .i64 (NB : Int)] 3)) #[.int .u32 (S : Int)] 22).alloc (.cells #[.int .i64 0] 3)
        have h23 := (Blk.new (((w3.alloc (.cells #[.slice g3 NT c3] 23)).alloc (.cells #[.int .i64 (NB : Int)] 3)).alloc (.cells #[.int .u32 (S : Int)] 22)) #[.int .i64 0] 3)
        rw [hW4] at h20 h21 h22 h23
        simp only [World.size_alloc] at h21 h22 h23
        exact ⟨h20, h21, h22, h23⟩
      have hT4 := owns_step HK3.out.2 hs4 (by simp)
      obtain ⟨g3', c3', hv3, -, -, -, hbT, hnT, -⟩ := owns_bytes hT4
      cases hv3
      have HC := Lib.hid (scan_any s g3 c3 T W4 (fun h => by rw [HT.out.2.1]; exact hnT h) hbT (by rw [HT.out.2.1]; omega))
      rw [HT.out.2.1] at HC
      have hsz4 := hs4.size
      have hbl := hbo.c23.lt
      have HK4 := Lib.hid (And.intro (HK1.out.quiet (HK3.out.1.then hs4 (by simp))) (And.intro hbo hT4))
      have HW4 := Lib.hid hW4
      have hfeet : b14 < w3.heap.size ∧ (∀ k, k ∈ foot (.slice asv i csv) → k < w3.heap.size) ∧ (∀ k, k ∈ foot (.slice ab NB capb) → k < w3.heap.size) ∧ (∀ k, k ∈ foot (.slice g3 NT c3) → k < w3.heap.size) := by
        have h1 := HK3.out.1.size
        exact ⟨by have := HK1.out.c14.lt; omega, fun k hk => by have := owns_live HK1.out.srow k hk; omega, fun k hk => by have := owns_live HK1.out.brow k hk; omega, fun k hk => owns_live HK3.out.2 k hk⟩
      have HFeet := Lib.hid hfeet
      clear hfeet hbo hT4 hbT hnT hs4 hW4
      go_wp2_with fail
      rw [HW4.out]
      obtain ⟨b20, hb20⟩ : ∃ b, w3.heap.size = b := ⟨_, rfl⟩
      rw [hb20] at HK4 hbl HFeet ⊢
      refine HC.out.mono ?_
      rintro e w5 ⟨sb, ob, sv5, rfl, hSc, hFt, hs5⟩
      have hK5 := HK4.out.1.quiet hs5
      have hbo5 := HK4.out.2.1.step hs5 (fun k _ _ => by simp)
      have hT5 := owns_step HK4.out.2.2 hs5 (by simp)
      have hRl := hSc.live
      obtain ⟨R, hR⟩ : ∃ R, footSc sb ob sv5 = R := ⟨_, rfl⟩
      have hsep := scan1_sep 5 (by omega) W4.heap.size sb ob s sv5 T hs (by rw [HT.out.2.1]; omega)
      have hPre : ∀ X, Step [] w5 X → Sc X W4.heap.size sb ob s sv5 T := fun X hX => hSc.step hX (fun k _ => by simp)
      rw [hR] at hFt hRl hsep
      have HP := Lib.hid (And.intro hPre (And.intro hRl (And.intro hFt hsep)))
      have HK5 := Lib.hid (And.intro hK5 (And.intro hbo5 (And.intro hT5 hs5)))
      have HLow := Lib.hid (fun (k : Nat) (h : k ≤ b20 + 1 + 1 + 1) => show k ∈ offR R w5.heap.size from mem_offR.2 ⟨by have := hs5.size; omega, fun hm => by have := hFt k hm; omega⟩)
      have HIter := Lib.hid (fun (k : Nat) (h : k ∈ [b20 + 1, b20 + 1 + 1, b20 + 1 + 1 + 1] ++ R) => show b20 < k from by
        rcases List.mem_append.1 h with h | h
        · simp only [List.mem_cons, List.not_mem_nil, or_false] at h
          omega
        · have := hFt k h
          omega)
      have HFi := Lib.hid (show Fi s T i NB S 0 NB S from by
        have h := Fi.start (r := r) hs HBS.out.2.2.2 HRS.out.2
        rw [HBS.out.1, HT.out.1, HNB.out, HBS.out.2.2.1] at h
        exact h)
      clear hK5 hbo5 hT5 hs5 hSc hFt hsep hPre hR HC HK4 HK3 HK1 hbl hsz4 hb20 HSB
      go_wp2_with fail
      refine (wpIn_wide (n := 6)).1 ?_
      refine wpIn_range_sepVX (gf := 26) (lb := #[.pointer (some ⟨sb, 0, none⟩), .pointer (some ⟨ob, 0, none⟩)]) rfl (by omega) rfl trivial (enters_of Try.func26 (by kernel_rfl) rfl)
        HP.out.2.2.2 HP.out.1 (fun _ => rfl) hRl
        (fun xs A C => C = offR R w5.heap.size ∧ Step ([b20 + 1, b20 + 1 + 1, b20 + 1 + 1 + 1] ++ R) w5 A ∧ ∃ e la, Bo b20 (.slice g3 NT c3) e la xs.length A ∧ Fi s T i NB S xs.length e la) (fun _ _ _ _ => False)
        ?hIs (fun xs A C h k hk => by rw [h.1] at hk; exact Nat.lt_of_lt_of_le (mem_offR.1 hk).1 h.2.1.size) (fun xs A C h => by rw [h.1]; exact offR_dj) (fun _ _ _ _ _ _ h _ _ => h.elim) (fun _ _ _ _ h => h.elim)
        (offR R w5.heap.size) R hRl offR_dj ?h0
        (fun pre x a' A C => a'.tmps.size = 290 ∧ a'.defers = [] ∧ a'.tmps.getD 7 undef = .pointer (some ⟨b7, 0, none⟩) ∧ a'.tmps.getD 12 undef = .pointer (some ⟨b7 + 1, 0, none⟩) ∧ a'.tmps.getD 14 undef = .pointer (some ⟨b14, 0, none⟩) ∧ a'.tmps.getD 20 undef = .pointer (some ⟨b20, 0, none⟩) ∧ a'.tmps.getD 21 undef = .pointer (some ⟨b20 + 1, 0, none⟩) ∧ a'.tmps.getD 22 undef = .pointer (some ⟨b20 + 1 + 1, 0, none⟩) ∧ a'.tmps.getD 23 undef = .pointer (some ⟨b20 + 1 + 1 + 1, 0, none⟩) ∧ a'.tmps.getD 24 undef = .int .i64 (x.p : Int) ∧ (∃ g, a'.tmps.getD 25 undef = .pointer (some ⟨g, 0, none⟩) ∧ Blk A g #[.int .u8 (x.k.toNat : Int), x.v] 25) ∧ A.ownsRow 0 5 1 x.v x.d.length (x.d.map byteVal) ∧ (scanR 0 s T)[pre.length]? = some x.pr) ?hAx ?assign ?body ?done ?stop
      case stop => exact fun D c pre B C hD hDC hp h => h.elim
      case h0 => exact ⟨rfl, Step.refl _ _, NB, S, HK5.out.2.1, HFi.out⟩
      case hIs =>
        rintro xs A B' C H ⟨rfl, hA, e, la, hb, hf⟩ hst hd
        exact ⟨rfl, hA.offF hst hd (fun k hk => List.mem_append_right _ hk) (Nat.le_refl _), e, la, hb.step hst (fun k _ h2 => hd k (HLow.out k h2)), hf⟩
      case hAx =>
        rintro pre x a' A B' C bb rec ⟨q1, q2, q3, q4, q5, q6, q7, q8, q9, q10, ⟨g, q11, q12⟩, q13, q14⟩ hl hbC hby hst
        refine ⟨q1, q2, q3, q4, q5, q6, q7, q8, q9, q10, ⟨g, q11, q12.step hst (fun hm => ?_)⟩, owns_step q13 hst (fun k hk hm => ?_), q14⟩
        · simp only [List.mem_cons, List.not_mem_nil, or_false] at hm
          subst hm
          unfold Blk at q12
          rw [q12] at hl
          cases hl
        · simp only [List.mem_cons, List.not_mem_nil, or_false] at hm
          subst hm
          exact hby hk
      case assign =>
        rintro l2 pre ⟨xp, xk, xd, xv⟩ A C K hI hV _ _ _ hK
        obtain ⟨hpre, hown⟩ := hV pre ⟨xp, xk, xd, xv⟩ rfl
        have hidx := idx_prefix hpre
        simp only at hown
        obtain ⟨gx, cx, rfl, -⟩ := owns_bytes hown
        have HO := Lib.hid (And.intro hown hidx)
        clear hI hV hpre hown hidx
        gi_wp2
        exact hK _ _ ((Step.refl [] A).alloc _) ⟨rfl, rfl, rfl, rfl, rfl, rfl, rfl, rfl, rfl, rfl, ⟨A.heap.size, rfl, Blk.new A _ _⟩, owns_step HO.out.1 ((Step.refl [] A).alloc _) (by simp), HO.out.2⟩
      case body =>
        rintro l2 pre ⟨xp, xk, xd, xv⟩ a' A C hrec hlC hlx hlv hdx hdr ⟨rfl, hA, e, la, hb, hf⟩ ⟨hsz, hdf, q3, q4, q5, q6, q7, q8, q9, q10, ⟨g, q11, q12⟩, q13, q14⟩
        obtain ⟨f', hf'⟩ : ∃ f' : Nat → Value, (fun k => a'.tmps.getD k undef) = f' := ⟨_, rfl⟩
        have h3 : f' 7 = _ := (congrFun hf' 7).symm.trans q3
        have h4 : f' 12 = _ := (congrFun hf' 12).symm.trans q4
        have h5 : f' 14 = _ := (congrFun hf' 14).symm.trans q5
        have h6 : f' 20 = _ := (congrFun hf' 20).symm.trans q6
        have h7 : f' 21 = _ := (congrFun hf' 21).symm.trans q7
        have h8 : f' 22 = _ := (congrFun hf' 22).symm.trans q8
        have h9 : f' 23 = _ := (congrFun hf' 23).symm.trans q9
        have h10 : f' 24 = _ := (congrFun hf' 24).symm.trans q10
        have h11 : f' 25 = _ := (congrFun hf' 25).symm.trans q11
        rw [act_lit hsz, hf', hdf, lit290, h3, h4, h5, h6, h7, h8, h9, h10, h11]
        dsimp only at q12 q13 q14 hlx hlv hdx hdr ⊢
        obtain ⟨gx, cx, rfl, hdl, -, -, hbx, hnx, -⟩ := owns_bytes q13
        obtain ⟨fe1, fe2, fe3, fe4⟩ := HFeet.out
        have hA2 := HK5.out.1.step hA (fun k hk => by
          have h1 := HIter.out k hk
          exact ⟨by omega, fun hm => by have := fe2 k hm; omega, fun hm => by have := fe3 k hm; omega⟩)
        have hbt := owns_step HK5.out.2.2.1 hA (fun k hk hm => by have h1 := HIter.out k hm; have := fe4 k hk; omega)
        have w7 := hA2.c7.cell 0
        have w12 := hA2.c12.cell 0
        have w14 := hA2.c14.cell 0
        have w20 := hb.c20.cell 0
        have w21 := hb.c21.cell 0
        have w22 := hb.c22.cell 0
        have w23 := hb.c23.cell 0
        have w250 := q12.cell 0
        have w251 := q12.cell 1
        simp only [List.getElem?_toArray, List.getElem?_cons_zero, List.getElem?_cons_succ] at w7 w12 w14 w20 w21 w22 w23 w250 w251
        obtain ⟨j, hj⟩ : ∃ j, pre.length = j := ⟨_, rfl⟩
        rw [hj] at w23 q14 hf hb
        have hjT := scanR_lt q14
        rw [HT.out.2.1] at hjT
        have ej1 : IntKind.i64.wrap ((j : Int) + 1) = (j : Int) + 1 := by rw [IntKind.wrap_i64]; omega
        have HA := Lib.hid (And.intro hA (And.intro hA2 (And.intro hbt (And.intro hb (And.intro hf (And.intro q14 (And.intro hj q12)))))))
        have HX := Lib.hid (And.intro q13 (And.intro hbx hnx))
        have HLv := Lib.hid (And.intro hlC (And.intro hlx (And.intro hlv (And.intro hdx hdr))))
        clear hA hA2 hbt hb hf q13 q14 q12 hbx hnx hj hlC hlx hlv hdx hdr hrec hf' h3 h4 h5 h6 h7 h8 h9 h10 h11 q3 q4 q5 q6 q7 q8 q9 q10 q11 hsz hdf hdl
        by_cases hjn : j < i
        · have p5 : (j : Int) < (i : Int) := by omega
          have p6 : (0 : Int) ≤ (j : Int) := by omega
          obtain ⟨hlo1, hlo2, hlo3⟩ := Fi.low' (r := r) (by rw [HBS.out.1]; exact HT.out.1) (by rw [HBS.out.1]; exact HNB.out) HBS.out.2.2.1 HA.out.2.2.2.2.1 HBS.out.2.2.2 HRS.out.2 hjn HA.out.2.2.2.2.2.1
          simp only [Sx.pr] at hlo1 hlo2
          obtain ⟨⟨lk, la2, lc, ld⟩, hlj⟩ : ∃ x, l.getD j rr0 = x := ⟨_, rfl⟩
          have hrj : rs.getD j (0, []) = (lk, ld) := by
            rw [← HRS.out.1, List.getD, List.getElem?_map, List.getElem?_eq_getElem (by rw [HN.out]; exact hjn)]
            rw [List.getD, List.getElem?_eq_getElem (by rw [HN.out]; exact hjn)] at hlj
            simp only [Option.getD_some] at hlj
            simp only [Option.map_some, Option.getD_some, hlj]
            rfl
          rw [hrj] at hlo2
          injection hlo2 with hk1 hk2
          subst hk1
          subst hk2
          have hmem : l.getD j rr0 ∈ l := by
            rw [List.getD, List.getElem?_eq_getElem (by rw [HN.out]; exact hjn)]
            exact List.getElem_mem _
          rw [hlj] at hmem
          have hLA := HL.out.step HA.out.2.1.st
          obtain ⟨bl, ol, hal, hltl, cl0, cl1⟩ := hLA.cells j (by rw [HN.out]; exact hjn)
          subst hal
          rw [hlj] at cl0 cl1
          simp only [Rr.sl] at cl0 cl1
          have hdl2 := (hLA.data _ hmem).1
          simp only at hdl2
          obtain ⟨gs, cs2, hsv, -⟩ := owns_form HA.out.2.1.srow (by rw [HSS.out]; omega)
          rw [HSS.out] at hsv
          injection hsv with hsv1 _ hsv2
          subst hsv1
          subst hsv2
          have hsr := HA.out.2.1.srow
          rw [HSS.out] at hsr
          have cst := hsr.cellAt j (by omega)
          clear hsr
          rw [List.getElem?_map, ← HBS.out.2.1, startsF_at hjn, ← hlo1] at cst
          simp only [Option.map_some, intVal] at cst
          have lt14 := World.block_lt_of_cell? A _ w14
          have ltst := World.block_lt_of_cell? A _ cst
          have lt23 := World.block_lt_of_cell? A _ w23
          have lt7 := World.block_lt_of_cell? A _ w7
          have lt25 := World.block_lt_of_cell? A _ w250
          have HSame := Lib.hid (fun (W : World) (hW : Step [] A.drew W) => same_eq (xk.toNat : Int) gx la2 cx lc xd W (HX.out.2.1.step ((Step.refl [] A).drew.then hW (by simp)) (by simp)) (hdl2.bytes.step ((Step.refl [] A).drew.then hW (by simp)) (by simp)) (fun h => (HX.out.2.2 h).1) (fun h => (hdl2.nil h).1))
          have HLo := Lib.hid hlo3
          clear hlo1 hlo3 hlj hrj hmem hLA hdl2
          gi_wp2
          have hnn : Nonempty (ClsW (Step [] A.drew)) := ⟨⟨_, Step.refl _ _⟩⟩
          have d14 : ∀ y : ClsW (Step [] A.drew), y.val.cell? ⟨b14, 0, none⟩ = _ := fun y => (y.ok.cell lt14 (by simp)).trans w14
          have dst : ∀ y : ClsW (Step [] A.drew), y.val.cell? ⟨gs, j, none⟩ = _ := fun y => (y.ok.cell ltst (by simp)).trans cst
          have d23 : ∀ y : ClsW (Step [] A.drew), y.val.cell? ⟨b20 + 1 + 1 + 1, 0, none⟩ = _ := fun y => (y.ok.cell lt23 (by simp)).trans w23
          have d7 : ∀ y : ClsW (Step [] A.drew), y.val.cell? ⟨b7, 0, none⟩ = _ := fun y => (y.ok.cell lt7 (by simp)).trans w7
          have d250 : ∀ y : ClsW (Step [] A.drew), y.val.cell? ⟨g, 0, none⟩ = _ := fun y => (y.ok.cell lt25 (by simp)).trans w250
          have d251 : ∀ y : ClsW (Step [] A.drew), y.val.cell? ⟨g, 1, none⟩ = _ := fun y => (y.ok.cell lt25 (by simp)).trans w251
          have dl0 : ∀ y : ClsW (Step [] A.drew), y.val.cell? ⟨bl, ol + j * 2, none⟩ = _ := fun y => (y.ok.cell (Nat.lt_of_lt_of_le hltl (Nat.le_refl _)) (by simp)).trans cl0
          have dl1 : ∀ y : ClsW (Step [] A.drew), y.val.cell? ⟨bl, ol + j * 2 + 1, none⟩ = _ := fun y => (y.ok.cell (Nat.lt_of_lt_of_le hltl (Nat.le_refl _)) (by simp)).trans cl1
          clear w14 cst w23 w7 w250 w251 cl0 cl1
          refine region_round (G := Step [] A.drew) (by kernel_rfl) (by kernel_rfl) (by kernel_rfl) (Step.refl _ _) ?_
          repeat (go_big_quiet_step ((go_at_call 10; exact cls_call ((HSame.out _ (ClsW.ok _)).mono fun e w3 h => ⟨h.1, Step.then (F := []) (G := []) (ClsW.ok _) h.2 (by simp)⟩))))
          refine wpQuiet_nil ?_
          rintro w2 ⟨⟨w2i, hw2⟩, he⟩
          have he' : w2 = w2i := he
          subst he'
          have hs2 : Step [] A w2 := (Step.refl [] A).drew.then hw2 (by simp)
          have e23 := (hs2.cell lt23 (by simp)).trans (HA.out.2.2.2.1.c23.cell 0)
          have f23 := (HA.out.2.2.2.1.step hs2 (fun k _ _ => by simp)).c23.free 0
          simp only [List.getElem?_toArray, List.getElem?_cons_zero] at e23
          have HS2 := Lib.hid hs2
          clear hs2 hw2 he d14 dst d23 d7 d250 d251 dl0 dl1 hnn
          gi_wp2
          have hs2 := HS2.out
          have hbo := (HA.out.2.2.2.1.step hs2 (fun k _ _ => by simp)).count (j + 1)
          have hin : b20 + 1 + 1 + 1 ∈ [b20 + 1, b20 + 1 + 1, b20 + 1 + 1 + 1] ++ R := by simp
          have hlen : (pre ++ [(⟨xp, xk, xd, .slice gx xd.length cx⟩ : Sx)]).length = j + 1 := by rw [List.length_append, HA.out.2.2.2.2.2.2.1]; rfl
          refine ⟨offR R w5.heap.size, ⟨rfl, (HA.out.1.then hs2 (by simp)).setCell (.inl hin) 0 _, e, la, by rw [hlen]; exact hbo, by rw [hlen]; exact HLo.out⟩, (hs2.mono (by simp)).setCell (.inl (List.mem_append_left _ (HLow.out _ (Nat.le_refl _)))) 0 _, fun k hk => .inl (List.mem_append_left _ hk)⟩
        · have p5 : ¬ (j : Int) < (i : Int) := by omega
          obtain ⟨mm, t2, hh1, hh2, hh3, hh4, hh5⟩ := HA.out.2.2.2.2.1.high (by omega) HA.out.2.2.2.2.2.1
          simp only [Sx.pr] at hh1 hh2
          subst hh1
          rw [HT.out.2.1] at hh3
          have hla := HA.out.2.2.2.2.1.2.1
          obtain ⟨ao2, cap2, hv2, -, hsl, hfo, -⟩ := owns_slb HA.out.2.2.1
          rw [HT.out.2.1] at hv2
          cases hv2
          obtain ⟨a2, hcut, hsl2, hbk2⟩ := hsl.cutLow (P := Try.prog) 23 5 Try.underlying23 Try.sizeB xp (by rw [HT.out.2.1]; omega)
          rw [HT.out.2.1] at hcut
          obtain ⟨a5, c5, hb5, hn5, hk5, hcall⟩ := lawNext_det hla hsl2 (by rw [List.length_drop, HT.out.2.1]; omega) hh2
          have hdl : (T.drop xp).length = NT - xp := by rw [List.length_drop, HT.out.2.1]
          obtain ⟨D, hD⟩ : ∃ D, T.drop xp = D := ⟨_, rfl⟩
          rw [hD] at hcut hcall hdl hsl2
          obtain ⟨ND, hND⟩ : ∃ ND, D.length = ND := ⟨_, rfl⟩
          rw [hND] at hcut hcall hdl
          have q0 : (0 : Int) ≤ (xp : Int) := by omega
          have q1 : (xp : Int) ≤ (NT : Int) := by omega
          have q2 : xp ≤ NT := by omega
          have lt20 := World.block_lt_of_cell? A _ w20
          have lt21 := World.block_lt_of_cell? A _ w21
          have lt22 := World.block_lt_of_cell? A _ w22
          have lt25 := World.block_lt_of_cell? A _ w250
          have HCall := Lib.hid (fun (W : World) (hW : Step [] A W) => hcall W (hsl2.step hW (by simp)))
          have HH := Lib.hid (And.intro hh5 (And.intro hb5 (And.intro hn5 (And.intro hdl hk5))))
          clear hcall hh5 hb5 hn5 hk5 hdl hND hsl hfo hbk2 hD hh2 hsl2
          gi_wp2
          have hnn : Nonempty (ClsW (Step [] A.drew)) := ⟨⟨_, Step.refl _ _⟩⟩
          have d20 : ∀ y : ClsW (Step [] A.drew), y.val.cell? ⟨b20, 0, none⟩ = _ := fun y => (y.ok.cell lt20 (by simp)).trans w20
          have d21 : ∀ y : ClsW (Step [] A.drew), y.val.cell? ⟨b20 + 1, 0, none⟩ = _ := fun y => (y.ok.cell lt21 (by simp)).trans w21
          have d22 : ∀ y : ClsW (Step [] A.drew), y.val.cell? ⟨b20 + 1 + 1, 0, none⟩ = _ := fun y => (y.ok.cell lt22 (by simp)).trans w22
          obtain ⟨U, hU⟩ : ∃ U : Value, U = .tuple #[.agg #[.int .u8 (xk.toNat : Int), .slice a5 xd.length c5], .int .i64 (mm : Int), .int .u32 (t2 : Int), .int .i64 0] := ⟨_, rfl⟩
          have HU := Lib.hid hU
          rw [← hU] at HCall
          clear hU
          refine round_late (spV_law U) [7, 8, 9] 11 (by kernel_rfl) (by rintro ⟨_, _, h⟩; exact h) (by kernel_rfl) (by kernel_rfl) (fun c a d v w h => by cases d <;> exact h) ?_
          simp only [List.take_succ_cons, List.take_zero, List.drop_succ_cons, List.drop_zero]
          refine wpR_pre (spV_law U) anti_tailW 4 _ _ _ ?_ rfl
          simp only [List.take_succ_cons, List.take_zero, List.drop_succ_cons, List.drop_zero]
          repeat (go_big_quiet_step (fail))
          refine wpQuiet_nil ?_
          refine wpR_callF 14 _ _ rfl (by rfl) Try.func14 (by kernel_rfl) (by kernel_rfl) #[.int .u32 (la : Int), .slice a2 ND (c3 - xp)] (by simp [Act.eval]) (fun w1 hg => (HCall.out w1 ((Step.refl [] A).drew.then hg (by simp))).mono fun e w2 h => ⟨U, h.1, rfl, h.2⟩) ?_
          rintro v4 ⟨w4', hg4, hv4⟩
          have hv4' : v4 = U := hv4
          subst hv4'
          have hu := HU.out
          subst hu
          clear hv4 hg4
          go_simp
          refine wpR_pre (spV_law _) anti_tailW 5 _ _ _ ?_ rfl
          simp only [List.take_succ_cons, List.take_zero, List.drop_succ_cons, List.drop_zero]
          repeat (go_big_quiet_step (fail))
          refine wpQuiet_nil ?_
          refine wpR_make (spV_law _) anti_tailW (SpN A.heap.size #[.int .u8 0, .slice none 0 0] 25) (by rfl) (fun w1 hg => ⟨.pointer (some ⟨w1.heap.size, 0, none⟩), w1.alloc (.cells #[.int .u8 0, .slice none 0 0] 25), by kernel_rfl, (Step.refl [] w1).alloc _, ⟨_, rfl, Blk.new _ _ _, hg.size⟩⟩) (spN_step _ _ _) ?_
          rintro v10 ⟨w10, hg10, b10, rfl, -, -⟩
          go_simp
          unfold wpR
          rintro w7 hs7 ⟨-, b10', hb10', hblk10, hlow10⟩
          have hbb : b10 = b10' := by simpa using hb10'
          subst hbb
          have hs7A : Step [] A w7 := (Step.refl [] A).drew.then hs7 (by simp)
          have z0 := hblk10.cell 0
          have z1 := hblk10.cell 1
          simp only [List.getElem?_toArray, List.getElem?_cons_zero, List.getElem?_cons_succ] at z0 z1
          have y0 := hblk10.free 0
          have y1 := hblk10.free 1
          have H7 := Lib.hid (And.intro hs7A (And.intro hblk10 hlow10))
          have e21 := (hs7A.cell lt21 (by simp)).trans w21
          have ltg := (hs7A.cell lt25 (by simp)).trans w250
          have ltg1 := (hs7A.cell lt25 (by simp)).trans w251
          have nb21 : b10 ≠ b20 + 1 := by omega
          have nbg : b10 ≠ g := by omega
          clear hs7A hblk10 hs7 hb10' hg10 d20 d21 d22 hnn hlow10 w20 w21 w22 w250 w251
          go_wp2_with fail
          obtain ⟨W8, hW8⟩ : ∃ W, (w7.setCell ⟨b10, 0, none⟩ (.int .u8 (xk.toNat : Int))).setCell ⟨b10, 1, none⟩ (.slice a5 xd.length c5) = W := ⟨_, rfl⟩
          rw [hW8]
          obtain ⟨hs7A, hblk10, hlow10⟩ := H7.out
          have hs8 : Step [] A W8 := by
            rw [← hW8]
            exact (hs7A.setCell (.inr hlow10) 0 _).setCell (.inr hlow10) 1 _
          have hblk8 : Blk W8 b10 #[.int .u8 (xk.toNat : Int), .slice a5 xd.length c5] 25 := by
            rw [← hW8]
            exact (hblk10.set 0 _).set 1 _
          have z0 := hblk8.cell 0
          have z1 := hblk8.cell 1
          have hbo8 := HA.out.2.2.2.1.step hs8 (fun k _ _ => by simp)
          have e21 := hbo8.c21.cell 0
          have hg8 := HA.out.2.2.2.2.2.2.2.step hs8 (by simp)
          have g0 := hg8.cell 0
          have g1 := hg8.cell 1
          simp only [List.getElem?_toArray, List.getElem?_cons_zero, List.getElem?_cons_succ] at z0 z1 e21 g0 g1
          have HSame := Lib.hid (same_eq (xk.toNat : Int) gx a5 cx c5 xd W8 (HX.out.2.1.step hs8 (by simp)) (HH.out.2.1.step hs8 (by simp)) (fun h => (HX.out.2.2 h).1) (fun h => (HH.out.2.2.1 h).1))
          have H8 := Lib.hid (And.intro hs8 hbo8)
          have em : IntKind.i64.wrap ((xp : Int) + (mm : Int)) = (xp : Int) + (mm : Int) := by rw [IntKind.wrap_i64]; omega
          clear hs7A hblk10 hlow10 hs8 hblk8 hbo8 hg8 hW8 ltg ltg1 nb21 nbg y0 y1
          gi_wp2
          refine ⟨trivial, (CallsIn.inRound l2 (callsIn_wide.2 HSame.out)).mono ?_⟩
          rintro e W9 ⟨rfl, hs9⟩
          have hbo9 := H8.out.2.step hs9 (fun k _ _ => by simp)
          have e21 := hbo9.c21.cell 0
          have e22 := hbo9.c22.cell 0
          have e23 := hbo9.c23.cell 0
          have f21 := hbo9.c21.free 0
          have f22 := hbo9.c22.free 0
          have f23 := hbo9.c23.free 0
          simp only [List.getElem?_toArray, List.getElem?_cons_zero, List.getElem?_cons_succ] at e21 e22 e23
          have H9 := Lib.hid (And.intro (H8.out.1.then hs9 (by simp)) hbo9)
          clear hs9 hbo9 z0 z1 g0 g1
          gi_wp2
          have hs9 := H9.out.1
          have hbo := (H9.out.2.ends (xp + mm) t2).count (j + 1)
          have hlen : (pre ++ [(⟨xp, xk, xd, .slice gx xd.length cx⟩ : Sx)]).length = j + 1 := by rw [List.length_append, HA.out.2.2.2.2.2.2.1]; rfl
          refine ⟨offR R w5.heap.size, ⟨rfl, (((HA.out.1.then hs9 (by simp)).setCell (.inl (by simp)) 0 _).setCell (.inl (by simp)) 0 _).setCell (.inl (by simp)) 0 _, xp + mm, t2, by rw [hlen]; exact hbo, by rw [hlen]; exact HH.out.1⟩, (((hs9.mono (by simp)).setCell (.inl (List.mem_append_left _ (HLow.out _ (by omega)))) 0 _).setCell (.inl (List.mem_append_left _ (HLow.out _ (by omega)))) 0 _).setCell (.inl (List.mem_append_left _ (HLow.out _ (Nat.le_refl _)))) 0 _, fun k hk => .inl (List.mem_append_left _ hk)⟩
      case done =>
        rintro D xs B' C hD hDC hxs ⟨-, hA, e, la, hb, hf⟩ hm hk
        obtain ⟨fe1, fe2, fe3, fe4⟩ := HFeet.out
        have hKB := HK5.out.1.step hA (fun k hk => by
          have h1 := HIter.out k hk
          exact ⟨by omega, fun hm => by have := fe2 k hm; omega, fun hm => by have := fe3 k hm; omega⟩)
        have hbt := owns_step HK5.out.2.2.1 hA (fun k hk hm => by have h1 := HIter.out k hm; have := fe4 k hk; omega)
        have hjl : xs.length = (scanR 0 s T).length := by rw [← hxs, List.length_map]
        have hmany : i ≤ (scanR 0 s T).length := by
          have h := scan_many (s := s) (rs := rs) (r := r) HBS.out.2.2.2
          rw [HBS.out.1, HT.out.1, HRS.out.2] at h
          exact h
        obtain ⟨j, hj⟩ : ∃ j, xs.length = j := ⟨_, rfl⟩
        rw [hj] at hb hf hjl
        obtain ⟨⟨er, hbad⟩, hgood⟩ := hf.done hjl.symm (by omega)
        have her := nextR_bad hbad
        have hla := hf.2.1
        have heT := hf.1
        rw [HT.out.2.1] at heT
        have hjT : j ≤ NT := by have := scanR_len 0 s T; rw [HT.out.2.1] at this; omega
        have hji : i ≤ j := by omega
        have hDb : b20 + 1 + 1 + 1 < D := by have := HK5.out.2.2.2.size; have := HK5.out.2.1.c23.lt; omega
        have HD := Lib.hid (And.intro hD (And.intro hm hDb))
        have HB := Lib.hid (And.intro hKB (And.intro hbt hb))
        have HG := Lib.hid (And.intro hbad hgood)
        clear hD hDC hxs hA hf hm hk hKB hbt hb hjl hmany hj hbad hgood fe1 fe2 fe3 fe4
        dsimp only
        obtain ⟨ao2, cap2, hv2, -, hsl, -, -⟩ := owns_slb HB.out.2.1
        rw [HT.out.2.1] at hv2
        cases hv2
        have HGo := Lib.hid (good_any s g3 c3 T B' hs hsl (by rw [HT.out.2.1]; omega))
        rw [HG.out.2, HT.out.2.1] at HGo
        have w20 := HB.out.2.2.c20.cell 0
        simp only [List.getElem?_toArray, List.getElem?_cons_zero] at w20
        clear hsl HK5 HP hRl HLow HFi
        go_wp2_with fail
        refine HGo.out.mono ?_
        rintro en w10 ⟨rfl, hs10⟩
        have hKB := HB.out.1.quiet hs10
        have hbt := owns_step HB.out.2.1 hs10 (by simp)
        have hb := HB.out.2.2.step hs10 (fun k _ _ => by simp)
        have hmD := (hs10.block D (Array.getElem?_eq_some_iff.1 HD.out.2.1).1 (by simp)).trans HD.out.2.1
        have HB1 := Lib.hid (And.intro hKB (And.intro hbt (And.intro hb hmD)))
        clear hs10 HGo HB w20 hmD
        have w20 := hb.c20.cell 0
        have w21 := hb.c21.cell 0
        have w22 := hb.c22.cell 0
        simp only [List.getElem?_toArray, List.getElem?_cons_zero] at w20 w21 w22
        have lt20 := World.block_lt_of_cell? w10 _ w20
        have lt21 := World.block_lt_of_cell? w10 _ w21
        have lt22 := World.block_lt_of_cell? w10 _ w22
        obtain ⟨ao2, cap2, hv2, -, hsl, hfo, -⟩ := owns_slb hbt
        rw [HT.out.2.1] at hv2
        cases hv2
        obtain ⟨a2, hcut, hsl2, hbk2⟩ := hsl.cutLow (P := Try.prog) 23 5 Try.underlying23 Try.sizeB e (by rw [HT.out.2.1]; omega)
        rw [HT.out.2.1] at hcut
        have hcall : ∀ W, Step [] w10 W → Calls Try.prog 14 #[.int .u32 (la : Int), .slice a2 (T.drop e).length (c3 - e)] W fun en W' => en = .returned (.tuple #[.agg #[.int .u8 0, .slice none 0 0], .int .i64 0, .int .u32 0, .int .i64 er]) ∧ Step [] W W' := fun W hW => by
          have h := lawNext_any la a2 (c3 - e) (T.drop e) W hla (hsl2.step hW (by simp)) (by rw [List.length_drop, HT.out.2.1]; omega)
          rw [HG.out.1] at h
          exact h
        obtain ⟨ND, hND⟩ : ∃ ND, (T.drop e).length = ND := ⟨_, rfl⟩
        rw [hND] at hcut hcall
        have HCall := Lib.hid hcall
        have q0 : (0 : Int) ≤ (e : Int) := by omega
        have q1 : (e : Int) ≤ (NT : Int) := by omega
        have hpe : (er == 0) = false := by simpa using her
        have q2 : e ≤ NT := heT
        clear hcall hND hsl hfo hbk2 hsl2 hKB hbt hb
        go_wp2_with fail
        have hnn : Nonempty (ClsW (Step [] w10.drew)) := ⟨⟨_, Step.refl _ _⟩⟩
        have d20 : ∀ y : ClsW (Step [] w10.drew), y.val.cell? ⟨b20, 0, none⟩ = _ := fun y => (y.ok.cell lt20 (by simp)).trans w20
        have d21 : ∀ y : ClsW (Step [] w10.drew), y.val.cell? ⟨b20 + 1, 0, none⟩ = _ := fun y => (y.ok.cell lt21 (by simp)).trans w21
        have d22 : ∀ y : ClsW (Step [] w10.drew), y.val.cell? ⟨b20 + 1 + 1, 0, none⟩ = _ := fun y => (y.ok.cell lt22 (by simp)).trans w22
        obtain ⟨U, hU⟩ : ∃ U : Value, U = .tuple #[.agg #[.int .u8 0, .slice none 0 0], .int .i64 0, .int .u32 0, .int .i64 er] := ⟨_, rfl⟩
        have HU := Lib.hid hU
        rw [← hU] at HCall
        clear hU
        refine wp_region_noPanic ?_
        refine wp_region_late (spV_law U) [7, 8, 9] 11 (by kernel_rfl) (by kernel_rfl) (fun c a d v w h => h) ?_
        simp only [List.take_succ_cons, List.take_zero, List.drop_succ_cons, List.drop_zero]
        refine wpR_pre (spV_law U) anti_tailW 4 _ _ _ ?_ rfl
        simp only [List.take_succ_cons, List.take_zero, List.drop_succ_cons, List.drop_zero]
        repeat (go_big_quiet_step (fail))
        refine wpQuiet_nil ?_
        refine wpR_callF 14 _ _ rfl (by rfl) Try.func14 (by kernel_rfl) (by kernel_rfl) #[.int .u32 (la : Int), .slice a2 ND (c3 - e)] (by simp [Act.eval]) (fun w1 hg => (HCall.out w1 ((Step.refl [] w10).drew.then hg (by simp))).mono fun e w2 h => ⟨U, h.1, rfl, h.2⟩) ?_
        rintro v4 ⟨w4', hg4, hv4⟩
        have hv4' : v4 = U := hv4
        subst hv4'
        have hu := HU.out
        subst hu
        clear hv4 hg4
        go_simp
        refine wpR_pre (spV_law _) anti_tailW 5 _ _ _ ?_ rfl
        simp only [List.take_succ_cons, List.take_zero, List.drop_succ_cons, List.drop_zero]
        repeat (go_big_quiet_step (fail))
        refine wpQuiet_nil ?_
        refine wpR_make (spV_law _) anti_tailW (SpN w10.heap.size #[.int .u8 0, .slice none 0 0] 25) (by rfl) (fun w1 hg => ⟨.pointer (some ⟨w1.heap.size, 0, none⟩), w1.alloc (.cells #[.int .u8 0, .slice none 0 0] 25), by kernel_rfl, (Step.refl [] w1).alloc _, ⟨_, rfl, Blk.new _ _ _, hg.size⟩⟩) (spN_step _ _ _) ?_
        rintro v10 ⟨w10', hg10, b10, rfl, -, -⟩
        go_simp
        unfold wpR
        rintro w7 hs7 ⟨-, b10', hb10', hblk10, hlow10⟩
        have hbb : b10 = b10' := by simpa using hb10'
        subst hbb
        have hs7A : Step [] w10 w7 := (Step.refl [] w10).drew.then hs7 (by simp)
        have z0 := hblk10.cell 0
        have z1 := hblk10.cell 1
        simp only [List.getElem?_toArray, List.getElem?_cons_zero, List.getElem?_cons_succ] at z0 z1
        have y0 := hblk10.free 0
        have y1 := hblk10.free 1
        have H7 := Lib.hid (And.intro hs7A (And.intro hblk10 hlow10))
        clear hs7A hblk10 hs7 hb10' hg10 d20 d21 d22 hnn hlow10 w20 w21 w22
        go_wp2_with fail
        refine NoPanic.normal ?_
        obtain ⟨W8, hW8⟩ : ∃ W, (w7.setCell ⟨b10, 0, none⟩ (.int .u8 0)).setCell ⟨b10, 1, none⟩ (.slice none 0 0) = W := ⟨_, rfl⟩
        rw [hW8]
        obtain ⟨hs7A, hblk10, hlow10⟩ := H7.out
        have hs8 : Step [] w10 W8 := by
          rw [← hW8]
          exact (hs7A.setCell (.inr hlow10) 0 _).setCell (.inr hlow10) 1 _
        have hKB := HB1.out.1.quiet hs8
        have hb := HB1.out.2.2.1.step hs8 (fun k _ _ => by simp)
        have hmD := (hs8.block D (Array.getElem?_eq_some_iff.1 HB1.out.2.2.2).1 (by simp)).trans HB1.out.2.2.2
        have w7b := hKB.c7.cell 0
        have w14 := hKB.c14.cell 0
        have w21 := hb.c21.cell 0
        have w22 := hb.c22.cell 0
        have w23 := hb.c23.cell 0
        simp only [List.getElem?_toArray, List.getElem?_cons_zero] at w7b w14 w21 w22 w23
        have H8 := Lib.hid (And.intro hKB (And.intro hb hmD))
        have p5 : ¬ (j : Int) < (i : Int) := by omega
        have p6 : decide ((j : Int) < (i : Int)) = false := by simp; omega
        obtain ⟨C, hC⟩ : ∃ C, cut % (NB + 1) = C := ⟨_, rfl⟩
        have hCN : C ≤ NB := by rw [← hC]; exact Nat.le_of_lt_succ (Nat.mod_lt cut (Nat.succ_pos NB))
        have ec : (cut : Int) % ((NB : Int) + 1) = (C : Int) := by rw [← hC]; simp
        have hcutp := scan_cut rs 0 s C (fun y hy => Nat.le_trans (HBS.out.2.2.2 y hy) (by decide))
        rw [HBS.out.1, HRS.out.2] at hcutp
        obtain ⟨WN, hWN⟩ : ∃ WN, (scanR 0 s (B.take C)).length = WN := ⟨_, rfl⟩
        rw [hWN] at hcutp
        have HCut := Lib.hid (And.intro hcutp hWN)
        have hWi := hcutp.1
        have HEC := Lib.hid ec
        clear hs7A hblk10 hlow10 hs8 hKB hb hmD hW8 H7 HB1 y0 y1 z0 z1 hcutp hWN ec hC
        go_upto_block 4 with fail
        rw [HEC.out]
        go_cut [37] from 184 to 218 (fun v wx => v = .int .i64 (WN : Int) ∧ wx = W8)
        case first =>
          clear w21 w22 w23
          go_wp2_with fail
          go_loop [37] (fun v => ∃ x : Nat, x ≤ WN ∧ v = .int .i64 (x : Int)) (fun v => i - (intOf v).toNat)
          case atStart => exact ⟨0, Nat.zero_le _, rfl⟩
          case round =>
            obtain ⟨x, hxW, rfl⟩ := hrel
            by_cases hxi : x < i
            · obtain ⟨EV, hEV⟩ : ∃ EV, (chainB s (rs.take (x + 1))).length = EV := ⟨_, rfl⟩
              have hiff := HCut.out.1.2 x hxi
              rw [hEV] at hiff
              have HI2 := Lib.hid hiff
              have q1 : decide ((x : Int) < (i : Int)) = true := by simp; omega
              have e1 : IntKind.i64.wrap ((x : Int) + 1) = (x : Int) + 1 := by rw [IntKind.wrap_i64]; omega
              by_cases hx1 : x + 1 < i
              · obtain ⟨gs, cs2, hsv, -⟩ := owns_form H8.out.1.srow (by rw [HSS.out]; omega)
                rw [HSS.out] at hsv
                injection hsv with hsv1 _ hsv2
                subst hsv1
                subst hsv2
                have hsr := H8.out.1.srow
                rw [HSS.out] at hsr
                have cst := hsr.cellAt (x + 1) (by omega)
                rw [List.getElem?_map, ← HBS.out.2.1, startsF_at hx1, hEV] at cst
                simp only [Option.map_some, intVal] at cst
                have q2 : decide ((x : Int) + 1 < (i : Int)) = true := by simp; omega
                have q3 : (0 : Int) ≤ (x : Int) + 1 := by omega
                have q4 : (x : Int) + 1 < (i : Int) := by omega
                have q5 : ((x : Int) + 1 == (i : Int)) = false := by simp; omega
                have q6 : ((x : Int) + 1).toNat = x + 1 := by omega
                clear hsr hiff hEV
                by_cases hle : EV ≤ C
                · have q7 : decide ((EV : Int) ≤ (C : Int)) = true := by simp; omega
                  go_wp2_with fail
                  go_round
                  case rel => exact ⟨x + 1, HI2.out.2 hle, by go_num⟩
                  case measure => simp [intOf]; omega
                · have q7 : decide ((EV : Int) ≤ (C : Int)) = false := by simp; omega
                  have hxe : x = WN := by have := mt HI2.out.1 hle; omega
                  have HXE := Lib.hid hxe
                  clear hxe
                  go_wp2_with fail
                  go_meet
                  exact ⟨by rw [HXE.out], rfl⟩
              · have hx2 : x + 1 = i := by omega
                have hEN : EV = NB := by
                  rw [← hEV, hx2, List.take_of_length_le (by rw [HRS.out.2]; exact Nat.le_refl _), HBS.out.1, HNB.out]
                have HX2 := Lib.hid (And.intro hx2 hEN)
                have q2 : decide ((x : Int) + 1 < (i : Int)) = false := by simp; omega
                have q5 : ((x : Int) + 1 == (i : Int)) = true := by simp; omega
                clear hEV hiff hx2 hEN
                by_cases hle : NB ≤ C
                · have q7 : decide ((NB : Int) ≤ (C : Int)) = true := by simp; omega
                  have hrel2 : x + 1 ≤ WN := HI2.out.2 (by rw [HX2.out.2]; exact hle)
                  have HR2 := Lib.hid hrel2
                  clear hrel2
                  go_wp2_with fail
                  go_round
                  case rel => exact ⟨x + 1, HR2.out, by go_num⟩
                  case measure => have := HX2.out.1; simp [intOf]; omega
                · have q7 : decide ((NB : Int) ≤ (C : Int)) = false := by simp; omega
                  have hxe : x = WN := by
                    have h1 : ¬ x < WN := fun h => hle (by rw [← HX2.out.2]; exact HI2.out.1 h)
                    omega
                  have HXE := Lib.hid hxe
                  clear hxe
                  go_wp2_with fail
                  go_meet
                  exact ⟨by rw [HXE.out], rfl⟩
            · have q1 : decide ((x : Int) < (i : Int)) = false := by simp; omega
              have hxe : x = WN := by omega
              have HXE := Lib.hid hxe
              clear hxe
              go_wp2_with fail
              go_meet
              exact ⟨by rw [HXE.out], rfl⟩
        case rest =>
          obtain ⟨rfl, rfl⟩ := ‹_ ∧ _›
          obtain ⟨fe1, fe2, fe3, fe4⟩ := HFeet.out
          have w23 := H8.out.2.1.c23.cell 0
          have f23 := H8.out.2.1.c23.free 0
          simp only [List.getElem?_toArray, List.getElem?_cons_zero] at w23
          obtain ⟨ab', cb', hvb, -, hslb, hfb, -⟩ := owns_slb H8.out.1.brow
          rw [HNB.out] at hvb
          cases hvb
          obtain ⟨hhigh, hsh⟩ := hslb.cutHigh (P := Try.prog) 23 5 Try.underlying23 Try.sizeB C (by rw [HNB.out]; exact hCN)
          have htl : (B.take C).length = C := by rw [List.length_take, HNB.out]; omega
          rw [htl, HNB.out] at hhigh
          have hs9 : Step [b20 + 1 + 1 + 1] wc (wc.setCell ⟨b20 + 1 + 1 + 1, 0, none⟩ (.int .i64 0)) := (Step.refl _ _).setCell (.inl (by simp)) 0 _
          have hsh9 := hsh.step hs9 (fun b hb hm => by
            have h1 : b ∈ foot (.slice ab NB capb) := by rw [← hfb, hb]; simp
            have := fe3 b h1
            simp at hm
            omega)
          have HC := Lib.hid (scan_any s ab capb (B.take C) _ (fun h => hsh9.nil h) hsh9.bytes (by rw [htl]; omega))
          rw [htl] at HC
          have hbo := H8.out.2.1.count 0
          have hKB := H8.out.1.step hs9 (fun k hk => by
            simp at hk
            subst hk
            exact ⟨by omega, fun hm => by have := fe2 _ hm; omega, fun hm => by have := fe3 _ hm; omega⟩)
          have hmD := (hs9.block D (Array.getElem?_eq_some_iff.1 H8.out.2.2).1 (by have := HD.out.2.2; simp; omega)).trans H8.out.2.2
          have H9 := Lib.hid (And.intro hKB (And.intro hbo hmD))
          have HTL := Lib.hid htl
          have e0 : (0 : Int) ≤ (C : Int) := by omega
          have e1 : (C : Int) ≤ (NB : Int) := by omega
          clear hslb hfb hsh htl hs9 hsh9 hbo hKB hmD fe1 fe2 fe3 fe4 H8
          go_wp2_with fail
          refine HC.out.mono ?_
          rintro en w11 ⟨sb2, ob2, sv2, rfl, hSc, hFt, hs11⟩
          have hKB := H9.out.1.quiet hs11
          have hbo := H9.out.2.1.step hs11 (fun k _ _ => by simp)
          have hmD := (hs11.block D (Array.getElem?_eq_some_iff.1 H9.out.2.2).1 (by simp)).trans H9.out.2.2
          have hRl := hSc.live
          obtain ⟨R2, hR2⟩ : ∃ R, footSc sb2 ob2 sv2 = R := ⟨_, rfl⟩
          have hsep := scan1_sep 5 (by omega) (wc.setCell ⟨b20 + 1 + 1 + 1, 0, none⟩ (.int .i64 0)).heap.size sb2 ob2 s sv2 (B.take C) hs (by rw [HTL.out]; omega)
          have hPre : ∀ X, Step [] w11 X → Sc X (wc.setCell ⟨b20 + 1 + 1 + 1, 0, none⟩ (.int .i64 0)).heap.size sb2 ob2 s sv2 (B.take C) := fun X hX => hSc.step hX (fun k _ => by simp)
          rw [World.size_setCell] at hFt hsep hPre
          rw [hR2] at hFt hRl hsep
          have hb23 := hbo.c23.lt
          have hb9 := H9.out.2.1.c23.lt
          rw [World.size_setCell] at hb9
          have hd23 : b20 + 1 + 1 + 1 ∉ R2 := fun hm => by have := hFt _ hm; omega
          have hDlt := (Array.getElem?_eq_some_iff.1 H9.out.2.2).1
          rw [World.size_setCell] at hDlt
          have HLow2 := Lib.hid (fun (k : Nat) (h : k ≤ b20 + 1 + 1 + 1) => show k ∈ offR R2 w11.heap.size from mem_offR.2 ⟨by omega, fun hm => by have := hFt k hm; omega⟩)
          have HR2 := Lib.hid (fun (k : Nat) (hk : k ∈ [b20 + 1 + 1 + 1] ++ R2) => show b20 + 1 + 1 < k ∧ k ≠ D from by
            rcases List.mem_append.1 hk with hk | hk
            · simp only [List.mem_cons, List.not_mem_nil, or_false] at hk
              have := HD.out.2.2
              omega
            · have := hFt k hk
              omega)
          have HP := Lib.hid (And.intro hPre (And.intro hRl hsep))
          have H11 := Lib.hid (And.intro hKB (And.intro hbo hmD))
          clear hKB hbo hmD hSc hFt hsep hPre hR2 HC hs11 hb23 hb9 hd23 hDlt w23 f23
          go_wp2_with fail
          refine (wpIn_wide (n := 6)).1 ?_
          refine wpIn_range_sepVX (gf := 26) (lb := #[.pointer (some ⟨sb2, 0, none⟩), .pointer (some ⟨ob2, 0, none⟩)]) rfl (by omega) rfl trivial (enters_of Try.func26 (by kernel_rfl) rfl)
            HP.out.2.2 HP.out.1 (fun _ => rfl) hRl
            (fun xs A C' => C' = offR R2 w11.heap.size ∧ Step ([b20 + 1 + 1 + 1] ++ R2) w11 A ∧ Bo b20 (.slice g3 NT c3) e la xs.length A) (fun _ _ _ _ => False)
            ?hIs2 (fun xs A C' h k hk => by rw [h.1] at hk; exact Nat.lt_of_lt_of_le (mem_offR.1 hk).1 h.2.1.size) (fun xs A C' h => by rw [h.1]; exact offR_dj) (fun _ _ _ _ _ _ h _ _ => h.elim) (fun _ _ _ _ h => h.elim)
            (offR R2 w11.heap.size) R2 hRl offR_dj ⟨rfl, Step.refl _ _, H11.out.2.1⟩
            (fun pre x a' A C' => a'.tmps.size = 290 ∧ a'.defers = [] ∧ a'.tmps.getD 23 undef = .pointer (some ⟨b20 + 1 + 1 + 1, 0, none⟩) ∧ pre.length ≤ NT) ?hAx2 ?assign2 ?body2 ?done2 ?stop2
          case stop2 => exact fun D c pre B C hD hDC hp h => h.elim
          case hIs2 =>
            rintro xs A B' C' H ⟨rfl, hA, hb⟩ hst hd
            exact ⟨rfl, hA.offF hst hd (fun k hk => List.mem_append_right _ hk) (Nat.le_refl _), hb.step hst (fun k _ h2 => hd k (HLow2.out k h2))⟩
          case hAx2 => exact fun pre x a' A B' C' bb rec h _ _ _ _ => h
          case assign2 =>
            rintro l2 pre x A C' K hI hV _ _ _ hK
            obtain ⟨hpre, -⟩ := hV pre x rfl
            have h1 := scanR_lt (idx_prefix hpre)
            rw [HTL.out] at h1
            have h2 : pre.length ≤ NT := by have := HT.out.2.2; omega
            have H1 := Lib.hid h2
            clear hI hV hpre h1 h2
            gi_wp2
            exact hK _ _ (Step.refl [] A) ⟨by simp, rfl, by simp, H1.out⟩
          case body2 =>
            rintro l2 pre x a' A C' hrec hlC hlx hlv hdx hdr ⟨rfl, hA, hb⟩ ⟨hsz, hdf, q3, q4⟩
            obtain ⟨f', hf'⟩ : ∃ f' : Nat → Value, (fun k => a'.tmps.getD k undef) = f' := ⟨_, rfl⟩
            have h9 : f' 23 = _ := (congrFun hf' 23).symm.trans q3
            rw [act_lit hsz, hf', hdf, lit290, h9]
            obtain ⟨j2, hj2⟩ : ∃ j, pre.length = j := ⟨_, rfl⟩
            rw [hj2] at hb q4
            have w23 := hb.c23.cell 0
            have f23 := hb.c23.free 0
            simp only [List.getElem?_toArray, List.getElem?_cons_zero] at w23
            have ej2 : IntKind.i64.wrap ((j2 : Int) + 1) = (j2 : Int) + 1 := by rw [IntKind.wrap_i64]; omega
            have HA2 := Lib.hid (And.intro hA (And.intro hb hj2))
            clear hA hb hj2 hrec hlC hlx hlv hdx hdr q3 h9 hf' hsz hdf
            gi_wp2
            have hlen : (pre ++ [x]).length = j2 + 1 := by rw [List.length_append, HA2.out.2.2]; rfl
            refine ⟨offR R2 w11.heap.size, ⟨rfl, HA2.out.1.setCell (.inl (by simp)) 0 _, by rw [hlen]; exact HA2.out.2.1.count (j2 + 1)⟩, (Step.refl _ A).setCell (.inl (List.mem_append_left _ (HLow2.out _ (Nat.le_refl _)))) 0 _, fun k hk => .inl (List.mem_append_left _ hk)⟩
          case done2 =>
            rintro D2 xs B' C' hD2 hD2C hxs ⟨-, hA, hb⟩ hm hk
            obtain ⟨fe1, fe2, fe3, fe4⟩ := HFeet.out
            have hjl : xs.length = WN := by rw [← HCut.out.2, ← hxs, List.length_map]
            rw [hjl] at hb
            have hKB := H11.out.1.step hA (fun k hk => by
              have h1 := (HR2.out k hk).1
              exact ⟨by omega, fun hm => by have := fe2 k hm; omega, fun hm => by have := fe3 k hm; omega⟩)
            have hmD := (hA.block D (Array.getElem?_eq_some_iff.1 H11.out.2.2).1 (fun hm => (HR2.out D hm).2 rfl)).trans H11.out.2.2
            have hDD : D ≠ D2 := by have := (Array.getElem?_eq_some_iff.1 H11.out.2.2).1; omega
            have hMk : MarksOk B' [D2, D] := (MarksOk.cons (MarksOk.cons (MarksOk.nil _) hmD (by simp)) hm (by simp; exact fun h => hDD h.symm))
            have hDlow : ∀ d, d ∈ [D2, D] → b14 < d := fun d hd => by
              have := HD.out.2.2
              have := H11.out.2.1.c23.lt
              simp only [List.mem_cons, List.not_mem_nil, or_false] at hd
              rcases hd with rfl | rfl <;> omega
            have w23 := hb.c23.cell 0
            have w12 := hKB.c12.cell 0
            have f12 := hKB.c12.free 0
            have w7b := hKB.c7.cell 0
            have w14 := hKB.c14.cell 0
            simp only [List.getElem?_toArray, List.getElem?_cons_zero] at w23 w12 w7b w14
            have HE := Lib.hid (And.intro hKB (And.intro hMk hDlow))
            clear hxs hA hb hm hk hKB hmD hMk hDlow hjl hD2 hD2C hDD fe1 fe2 fe3 fe4 HP hRl HLow2 HR2
            dsimp only
            have p7 : ((WN : Int) != (WN : Int)) = false := by simp
            by_cases hNB0 : NB = 0
            · have q1 : ((NB : Int) == 0) = true := by simp; omega
              have q2 : (NB : Int) = 0 := by omega
              go_wp2_with fail
              exact leave_scans (Ds := [D2, D]) (HE.out.1.c12.set 0 _) (HE.out.1.st.setCell (.inr (by have := HE.out.1.low; omega)) 0 _) (HE.out.2.1.step ((Step.refl [b7 + 1] B').setCell (.inl (by simp)) 0 _) (fun d hd => by have := HE.out.2.2 d hd; have := HE.out.1.lt14; simp; omega)) (fun d hd => by have := HE.out.2.2 d hd; have := HE.out.1.lt14; have := HE.out.1.low; omega) rfl (fun w' hs => ⟨rfl, hs⟩)
            have q1 : ((NB : Int) == 0) = false := by simp; omega
            by_cases hby0 : by' = 0
            · have q2 : ((by' : Int) == 0) = true := by simp; omega
              go_wp2_with fail
              exact leave_scans (Ds := [D2, D]) (HE.out.1.c12.set 0 _) (HE.out.1.st.setCell (.inr (by have := HE.out.1.low; omega)) 0 _) (HE.out.2.1.step ((Step.refl [b7 + 1] B').setCell (.inl (by simp)) 0 _) (fun d hd => by have := HE.out.2.2 d hd; have := HE.out.1.lt14; simp; omega)) (fun d hd => by have := HE.out.2.2 d hd; have := HE.out.1.lt14; have := HE.out.1.low; omega) rfl (fun w' hs => ⟨rfl, hs⟩)
            have q2 : ((by' : Int) == 0) = false := by simp; omega
            obtain ⟨t, ht⟩ : ∃ t, at' % NB = t := ⟨_, rfl⟩
            have htN : t < NB := by rw [← ht]; exact Nat.mod_lt _ (by omega)
            have et : (at' : Int) % (NB : Int) = (t : Int) := by rw [← ht]; simp
            have HET := Lib.hid et
            clear et ht
            go_wp2_with fail
            rw [HET.out]
            go_loopw [245] (fun q wr => ∃ y : Nat, y ≤ i ∧ q = .int .i64 (y : Int) ∧ Step [] B' wr ∧ ∀ z, z < y → ¬ ((chainB s (rs.take z)).length + 2 ≤ t ∧ t < (chainB s (rs.take z)).length + 2 + (numB (rs.getD z (0, [])).2.length).length)) (fun q _ => i - (intOf q).toNat)
            case atStart => exact ⟨0, Nat.zero_le _, rfl, Step.refl _ _, fun z hz => by omega⟩
            case round =>
              obtain ⟨y, hyi, rfl, hst, hno⟩ := hrel
              have HY := Lib.hid (And.intro hst hno)
              clear hst hno
              by_cases hlt : y < i
              · obtain ⟨⟨lk, la2, lc, ld⟩, hlj⟩ : ∃ x, l.getD y rr0 = x := ⟨_, rfl⟩
                have hrj : rs.getD y (0, []) = (lk, ld) := by
                  rw [← HRS.out.1, List.getD, List.getElem?_map, List.getElem?_eq_getElem (by rw [HN.out]; exact hlt)]
                  rw [List.getD, List.getElem?_eq_getElem (by rw [HN.out]; exact hlt)] at hlj
                  simp only [Option.getD_some] at hlj
                  simp only [Option.map_some, Option.getD_some, hlj]
                  rfl
                have hKw := HE.out.1.quiet HY.out.1
                have hLA := HL.out.step hKw.st
                obtain ⟨bl, ol, hal, hltl, cl0, cl1⟩ := hLA.cells y (by rw [HN.out]; exact hlt)
                subst hal
                rw [hlj] at cl0 cl1
                simp only [Rr.sl] at cl0 cl1
                obtain ⟨gs, cs2, hsv, -⟩ := owns_form hKw.srow (by rw [HSS.out]; omega)
                rw [HSS.out] at hsv
                injection hsv with hsv1 _ hsv2
                subst hsv1
                subst hsv2
                have hsr := hKw.srow
                rw [HSS.out] at hsr
                have cst := hsr.cellAt y (by omega)
                obtain ⟨EV, hEV⟩ : ∃ EV, (chainB s (rs.take y)).length = EV := ⟨_, rfl⟩
                rw [List.getElem?_map, ← HBS.out.2.1, startsF_at hlt, hEV] at cst
                simp only [Option.map_some, intVal] at cst
                have lts := World.block_lt_of_cell? wr _ cst
                have lt14 := hKw.c14.lt
                have c14 : ∀ o, (wr.alloc o).cell? ⟨b14, 0, none⟩ = some (.slice (some ⟨gs, 0, none⟩) i csv) := fun o => ((hKw.c14.alloc o).cell 0).trans rfl
                have cst2 : ∀ o, (wr.alloc o).cell? ⟨gs, y, none⟩ = some (.int .i64 (EV : Int)) := fun o => (((Step.refl [] wr).alloc o).cell lts (by simp)).trans cst
                have f12' : ∀ o, (wr.alloc o).cell? ⟨b7 + 1, 0, none⟩ = some (.bool false) := fun o => ((hKw.c12.alloc o).cell 0).trans rfl
                have g12' : ∀ o, (wr.alloc o).frozen? ⟨b7 + 1, 0, none⟩ = false := fun o => (hKw.c12.alloc o).free 0
                have q3 : (0 : Int) ≤ (y : Int) := by omega
                have q4 : (y : Int) < (i : Int) := by omega
                have hEVb : EV ≤ NB := by
                  have h := congrArg List.length (chainB_app (rs.take y) (rs.drop y) s)
                  rw [List.take_append_drop, HBS.out.1, HNB.out, List.length_append, hEV] at h
                  omega
                obtain ⟨LD, hLD⟩ : ∃ LD, ld.length = LD := ⟨_, rfl⟩
                have hLDb : LD ≤ 100 := by
                  have h := HBS.out.2.2.2 (rs.getD y (0, [])) (by
                    rw [List.getD, List.getElem?_eq_getElem (by rw [HRS.out.2]; exact hlt)]
                    exact List.getElem_mem _)
                  rw [hrj] at h
                  rw [← hLD]
                  exact h
                rw [hLD] at cl1
                have e1 : IntKind.i64.wrap ((EV : Int) + 2) = (EV : Int) + 2 := by rw [IntKind.wrap_i64]; omega
                have e2 : IntKind.u64.wrap (LD : Int) = (LD : Int) := by rw [IntKind.wrap_u64, Int.emod_eq_of_lt (by omega) (by omega)]
                have HJ := Lib.hid (And.intro hrj (And.intro hEV hLD))
                have HKw := Lib.hid (And.intro hKw lt14)
                have hnl := numB_len LD
                have hnz := bstr_size (numB LD)
                obtain ⟨NL, hNL⟩ : ∃ NL, (numB LD).length = NL := ⟨_, rfl⟩
                rw [hNL] at hnl hnz
                have HNL := Lib.hid hNL
                have HNum := Lib.hid (fun W => refNum_any LD W (by unfold M64; omega))
                obtain ⟨NS, hNS⟩ : ∃ NS, bstr (numB LD) = NS := ⟨_, rfl⟩
                rw [hNS] at HNum hnz
                have hnz1 : NS.size ≤ 10 := by omega
                have HNZ := Lib.hid hnz
                clear hrj hLA hlj hsr hKw hEV hLD lts cst hNL hNS hnz
                have hrel : ∀ (wx : World), Step [] wr wx → ¬ (EV + 2 ≤ t ∧ t < EV + 2 + NL) → Step [] B' wx ∧ ∀ z, z < y + 1 → ¬ ((chainB s (rs.take z)).length + 2 ≤ t ∧ t < (chainB s (rs.take z)).length + 2 + (numB (rs.getD z (0, [])).2.length).length) := fun wx hs hn => ⟨HY.out.1.then hs (by simp), fun z hz => by
                  rcases Nat.lt_or_ge z y with h | h
                  · exact HY.out.2 z h
                  · obtain rfl : z = y := by omega
                    rw [HJ.out.1, HJ.out.2.1]
                    show ¬ (EV + 2 ≤ t ∧ t < EV + 2 + (numB ld.length).length)
                    rw [HJ.out.2.2, HNL.out]
                    exact hn⟩
                have HRel := Lib.hid hrel
                clear hrel
                by_cases hge : EV + 2 ≤ t
                · have q5 : decide ((EV : Int) + 2 ≤ (t : Int)) = true := by simp; omega
                  go_wp2_with fail
                  refine (HNum.out _).mono ?_
                  rintro en w12 ⟨rfl, hs12⟩
                  have hsw : Step [] wr w12 := ((Step.refl [] wr).alloc _).then hs12 (by simp)
                  have hK12 := HKw.out.1.quiet hsw
                  have x12 := hK12.c12.cell 0
                  have y12 := hK12.c12.free 0
                  simp only [List.getElem?_toArray, List.getElem?_cons_zero] at x12
                  have HSW := Lib.hid (And.intro hsw hK12)
                  clear hs12 hsw hK12 c14 cst2 f12' g12'
                  have e3 : IntKind.i64.wrap ((EV : Int) + 2 + (NS.size : Int)) = (EV : Int) + 2 + (NS.size : Int) := by rw [IntKind.wrap_i64]; omega
                  by_cases hlt2 : t < EV + 2 + NL
                  · have q6 : decide ((t : Int) < (EV : Int) + 2 + (NS.size : Int)) = true := by have := HNZ.out; simp; omega
                    go_wp2_with fail
                    exact leave_scans (Ds := [D2, D]) (HSW.out.2.c12.set 0 _) (HSW.out.2.st.setCell (.inr (by have := HE.out.1.low; omega)) 0 _) ((HE.out.2.1.step (HY.out.1.then HSW.out.1 (by simp)) (by simp)).step ((Step.refl [b7 + 1] w12).setCell (.inl (by simp)) 0 _) (fun d hd => by have := HE.out.2.2 d hd; have := HE.out.1.lt14; simp; omega)) (fun d hd => by have := HE.out.2.2 d hd; have := HE.out.1.lt14; have := HE.out.1.low; omega) rfl (fun w' hs => ⟨rfl, hs⟩)
                  · have q6 : decide ((t : Int) < (EV : Int) + 2 + (NS.size : Int)) = false := by have := HNZ.out; simp; omega
                    go_wp2_with fail
                    go_roundw
                    case rel =>
                      have h := HRel.out _ HSW.out.1 (fun h => hlt2 h.2)
                      exact ⟨y + 1, hlt, by go_num, h.1, h.2⟩
                    case measure => simp [intOf]; omega
                · have q5 : decide ((EV : Int) + 2 ≤ (t : Int)) = false := by simp; omega
                  go_wp2_with fail
                  go_roundw
                  case rel =>
                    have h := HRel.out _ ((Step.refl [] wr).alloc (.cells #[.int .u8 (lk.toNat : Int), .slice la2 LD lc] 25)) (fun h => hge h.1)
                    exact ⟨y + 1, hlt, by go_num, h.1, h.2⟩
                  case measure => simp [intOf]; omega
              · obtain rfl : y = i := by omega
                have p9 : ¬ (y : Int) < (y : Int) := by omega
                have hKw := HE.out.1.quiet HY.out.1
                obtain ⟨ab', cb', hvb, -, hslb, -, -⟩ := owns_slb hKw.brow
                rw [HNB.out] at hvb
                cases hvb
                have hsz := HY.out.1.size
                have HKw := Lib.hid (And.intro hKw hslb)
                clear hKw hslb
                go_wp2_with (at_builtin; refine wpList_append_sep rfl (.tmp 271) (.tmp 272) 23 rfl wr.heap.size 5 i0 (.int .u8 0) 1 1 Try.underlying23 HI.out.1.1 HI.out.1.2.1 HI.out.1.2.2.1 HI.out.1.2.2.2 rfl (by decide) _ 0 [] rfl (World.ownsRow_made _ _ 0 (Nat.le_refl _) (Nat.zero_le _) rfl) ab NB capb (B.map byteVal) rfl (fun h => by have h2 := HKw.out.2.nil h; rw [HNB.out] at h2; exact h2) (by rw [List.length_map, HNB.out]; simp) (HKw.out.2.bytes.step ((Step.refl [] wr).alloc _) (by simp)).news (byteVals_cell _) (by unfold maxLen; omega) (by omega) (by rw [World.size_alloc]; omega) ?_)
                intro v2 w2 ho2 hg2 hf2
                have hs2 : Step [] wr w2 := ((Step.refl [] wr).alloc _).grown hg2 (fun k hk => .inr (by simp [Value.ownBlock] at hk; omega))
                have ho2' : w2.ownsRow wr.heap.size 5 1 v2 NB (B.map byteVal) := by simpa using ho2
                obtain ⟨gt, ct, rfl, hgt, -⟩ := owns_form ho2' (by omega)
                obtain ⟨xo, hxo⟩ : ∃ x, B.getD t 0 = x := ⟨_, rfl⟩
                have ct0 := owns_byte ho2' t htN
                rw [hxo] at ct0
                have ft0 := ho2'.frozenAt t
                obtain ⟨bx, hbx⟩ : ∃ b : UInt8, b = xo ^^^ UInt8.ofNat by' := ⟨_, rfl⟩
                have hxb : bits .xor .u8 (xo.toNat : Int) (by' : Int) = (bx.toNat : Int) := by
                  rw [hbx]
                  exact u8_xor_byte xo by' hby
                have hne : bx ≠ xo := by
                  rw [hbx]
                  exact xor_ne xo (by omega) hby
                have hst2 := stored_byte ho2' t bx
                obtain ⟨as2, cs2, hvs, hls, hsls, -, -⟩ := owns_slb hst2
                rw [hls] at hvs
                cases hvs
                have hgd := good_turned rs s t bx (fun y hy => Nat.le_trans (HBS.out.2.2.2 y hy) (by decide)) (by rw [HBS.out.1, HNB.out]; exact htN) (by rw [HBS.out.1, hxo]; exact hne) (fun z hz => HY.out.2 z (by rw [HRS.out.2] at hz; exact hz))
                rw [HBS.out.1] at hgd
                have HGo := Lib.hid (good_any s (some ⟨gt, 0, none⟩) ct (B.set t bx) _ hs hsls (by rw [hls]; omega))
                rw [hls] at HGo
                have hK2 := HKw.out.1.quiet hs2
                have hK3 := (HKw.out.1.quiet hs2)
                have hs3 : Step [] wr (w2.setCell ⟨gt, t, none⟩ (.int .u8 (bx.toNat : Int))) := hs2.setCell (.inr hgt) t _
                have HF := Lib.hid (And.intro (HKw.out.1.quiet hs3) (HY.out.1.then hs3 (by simp)))
                obtain ⟨⟨r1, r2⟩, hr⟩ : ∃ p, goodR s (B.set t bx) = p := ⟨_, rfl⟩
                rw [hr] at HGo hgd
                simp only at HGo hgd
                have z0 : (0 : Int) ≤ (t : Int) := by omega
                have z1 : (t : Int) < (NB : Int) := by omega
                have HXB := Lib.hid hxb
                clear ho2 ho2' hg2 hf2 hs2 hst2 hsls hls hK2 hK3 hs3 hr hxo hbx hne hxb
                go_wp2_with (rw [HXB.out])
                refine HGo.out.mono ?_
                rintro en w20 ⟨rfl, hs20⟩
                have hK20 := HF.out.1.quiet hs20
                have x12 := hK20.c12.cell 0
                have y12 := hK20.c12.free 0
                simp only [List.getElem?_toArray, List.getElem?_cons_zero] at x12
                have q9 : decide ((r1 : Int) ≤ (t : Int)) = true := by simp; omega
                have HSW := Lib.hid (And.intro (HF.out.2.then hs20 (by simp)) hK20)
                clear hs20 hK20
                go_wp2_with fail
                exact leave_scans (Ds := [D2, D]) (HSW.out.2.c12.set 0 _) (HSW.out.2.st.setCell (.inr (by have := HE.out.1.low; omega)) 0 _) ((HE.out.2.1.step HSW.out.1 (by simp)).step ((Step.refl [b7 + 1] w20).setCell (.inl (by simp)) 0 _) (fun d hd => by have := HE.out.2.2 d hd; have := HE.out.1.lt14; simp; omega)) (fun d hd => by have := HE.out.2.2 d hd; have := HE.out.1.lt14; have := HE.out.1.low; omega) rfl (fun w' hs => ⟨rfl, hs⟩)
end Go.Proofs.Ytkogchmnpffiaaa
