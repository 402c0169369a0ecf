/- NetKeeps: the walk. -/
import Derived.Test.YtminpglkipnhcaaNetR
import Derived.Test.YtminpglkipnhcaaLoopM
import Derived.Deep.CutBlock
import Derived.Deep.RegionLaw
import Derived.Deep.RegionHeld3
namespace Go.Proofs.Ytminpglkipnhcaa
set_option linter.unusedVariables false
set_option linter.unusedSimpArgs false
open Go.RowKit
attribute [local go_sem ↓] exec_load_m exec_store_m
attribute [local go_sem] Try.load_m row_drew Try.store_m
set_option maxRecDepth 100000 in
theorem lit213 (f : Nat → Value) : litN 213 f = #[f 0, f 1, f 2, f 3, f 4, f 5, f 6, f 7, f 8, f 9, f 10, f 11, f 12, f 13, f 14, f 15, f 16, f 17, f 18, f 19, f 20, f 21, f 22, f 23, f 24, f 25, f 26, f 27, f 28, f 29, f 30, f 31, f 32, f 33, f 34, f 35, f 36, f 37, f 38, f 39, f 40, f 41, f 42, f 43, f 44, f 45, f 46, f 47, f 48, f 49, f 50, f 51, f 52, f 53, f 54, f 55, f 56, f 57, f 58, f 59, f 60, f 61, f 62, f 63, f 64, f 65, f 66, f 67, f 68, f 69, f 70, f 71, f 72, f 73, f 74, f 75, f 76, f 77, f 78, f 79, f 80, f 81, f 82, f 83, f 84, f 85, f 86, f 87, f 88, f 89, f 90, f 91, f 92, f 93, f 94, f 95, f 96, f 97, f 98, f 99, f 100, f 101, f 102, f 103, f 104, f 105, f 106, f 107, f 108, f 109, f 110, f 111, f 112, f 113, f 114, f 115, f 116, f 117, f 118, f 119, f 120, f 121, f 122, f 123, f 124, f 125, f 126, f 127, f 128, f 129, f 130, f 131, f 132, f 133, f 134, f 135, f 136, f 137, f 138, f 139, f 140, f 141, f 142, f 143, f 144, f 145, f 146, f 147, f 148, f 149, f 150, f 151, f 152, f 153, f 154, f 155, f 156, f 157, f 158, f 159, f 160, f 161, f 162, f 163, f 164, f 165, f 166, f 167, f 168, f 169, f 170, f 171, f 172, f 173, f 174, f 175, f 176, f 177, f 178, f 179, f 180, f 181, f 182, f 183, f 184, f 185, f 186, f 187, f 188, f 189, f 190, f 191, f 192, f 193, f 194, f 195, f 196, f 197, f 198, f 199, f 200, f 201, f 202, f 203, f 204, f 205, f 206, f 207, f 208, f 209, f 210, f 211, f 212] := rfl
theorem run_store_fn {P : Program} {w : World} {a : Addr} {m : Mode} (f : FuncId) (cs bs : Array Value) : (store a (.func (.func f) cs bs) m).run P w = stored P w a (.func (.func f) cs bs) m := run_store P w a _ m rfl
attribute [local go_sem] run_store_fn Oper.semAt_some
set_option maxRecDepth 20000 in
set_option maxHeartbeats 2000000 in
theorem keeps_any (a : Option Addr) (cap : Nat) (l : List UInt8) (N1 N2 : Nat) (w : World) (hB : Bytes w a l) (hn : a = none → l.length = 0 ∧ cap = 0) (hle : l.length ≤ cap) (h1 : N1 ≤ 255) (h2 : N2 ≤ 255) :
    Calls Try.prog 5 #[.slice a l.length cap, .int .u8 (N1 : Int), .int .u8 (N2 : Int)] w fun e w' => e = .returned (.bool true) ∧ Step [] w w' := by
  have hzv := zeroM
  unfold msV at hzv
  have hC0 : ¬ (msC ms0).toArray = #[] := by decide
  have HL := Lib.hid (And.intro hB (And.intro hn hle))
  clear hB hn hle
  obtain ⟨n, hn⟩ : ∃ n, l.length = n := ⟨_, rfl⟩
  have HN := Lib.hid hn
  rw [hn]
  clear hn
  have hb := Blk.new w #[.bool false] 4
  have hs0 := (Step.refl [] w).alloc (.cells #[.bool false] 4)
  obtain ⟨W0, hW0⟩ : ∃ W0, w.alloc (.cells #[.bool false] 4) = W0 := ⟨_, rfl⟩
  rw [hW0] at hb hs0
  have HW0 := Lib.hid hW0
  have HB := Lib.hid (And.intro hb hs0)
  clear hb hW0 hs0
  refine calls_of_wp_marks Try.func5 rfl ?_
  simp only [Try.ntmps5, List.size_toArray, List.length_cons, List.length_nil, Nat.reduceAdd, Nat.reduceSub, Array.replicate_succ, Array.replicate_zero, List.push_toArray, List.append_toArray, List.nil_append, List.cons_append]
  go_wp2_with (rw [HW0.out])
  refine (lives_any _).mono ?_
  rintro e w1 ⟨rfl, hs1⟩
  have H1 := Lib.hid (And.intro (HB.out.1.step hs1 (by simp)) (HB.out.2.then hs1 (by simp)))
  clear hs1
  by_cases hn60 : n ≤ 60
  rotate_left
  · have p1 : ¬ ((n : Int) ≤ 60) := by omega
    have p2 : (60 : Int) < (n : Int) := by omega
    go_wp2_with fail
    refine (lives_any _).mono ?_
    rintro e w2 ⟨rfl, hs2⟩
    have H2 := Lib.hid (And.intro (H1.out.1.step hs2 (by simp)) (H1.out.2.then hs2 (by simp)))
    have f0 := H2.out.1.cell 0
    have g0 := H2.out.1.free 0
    simp only [List.getElem?_toArray, List.getElem?_cons_zero] at f0
    clear hs2
    go_wp2_with fail
    exact leave_keeps (Ds := []) (H2.out.1.set 0 _) (H2.out.2.setCell (.inr (Nat.le_refl _)) 0 _) ⟨List.nodup_nil, fun D hD => by cases hD⟩ (fun D hD => by cases hD) rfl (fun w' hs => ⟨rfl, hs⟩)
  · have p1 : ((n : Int) ≤ 60) := by omega
    have p2 : ¬ ((60 : Int) < (n : Int)) := by omega
    go_wp2_with fail
    refine (new_any w1).mono ?_
    rintro e w2 ⟨nb, mb, rfl, hN, hs⟩
    have hK : Kept w (NetΦ nb mb [] [] 0 (fun _ => none)) [(w.heap.size, .cells #[.bool false] 4 (0, 0))] w2 := by
      have hb2 := H1.out.1.step hs (by simp)
      have hlow := H1.out.1.lt
      refine ⟨_, ⟨_, _, rfl, ⟨hN, fun t ht => by simp at ht, List.Pairwise.nil⟩⟩, fun k hk => ?_, H1.out.2.then hs (by simp), fun k hk hm => ?_, fun k hk => ?_, fun x hx => ?_⟩
      · rcases mem_footE.1 hk with hk | ⟨t, ht, _⟩
        · have := hN.live k hk
          omega
        · simp at ht
      · simp only [List.map_cons, List.map_nil, List.mem_cons, List.not_mem_nil, or_false] at hk
        subst hk
        rcases mem_footE.1 hm with hk | ⟨t, ht, _⟩
        · have := hN.live _ hk
          omega
        · simp at ht
      · simp only [List.map_cons, List.map_nil, List.mem_cons, List.not_mem_nil, or_false] at hk
        subst hk
        exact ⟨Nat.le_refl _, hb2.lt⟩
      · simp only [List.mem_cons, List.not_mem_nil, or_false] at hx
        subst hx
        exact hb2
    have HK := Lib.hid hK
    have H2 := Lib.hid (H1.out.2.then hs (by simp))
    clear hK hN hs H1 HB HW0
    obtain ⟨i0, hi, hz0, hz1, hz2⟩ := info_parts Try.infoB
    have HI0 := Lib.hid (And.intro hi (And.intro hz0 (And.intro hz1 hz2)))
    have hBy2 := HL.out.1.step H2.out (by simp)
    have HBy2 := Lib.hid hBy2
    clear hi hz0 hz1 hz2 hBy2
    have hL0 : (msC ms0).length = 11 := rfl
    go_wp2_with (at_builtin; refine wpList_append_own_any rfl (.tmp 35) (.tmp 36) 29 rfl w2.heap.size 5 i0 (.int .u8 0) 1 1 Try.underlying29 HI0.out.1 HI0.out.2.1 HI0.out.2.2.1 HI0.out.2.2.2 rfl (by decide) _ 0 [] rfl (World.ownsRow_made _ _ 0 (Nat.le_refl _) (Nat.zero_le _) rfl) a n cap (l.map byteVal) rfl (fun h => ⟨by have := (HL.out.2.1 h).1; have := HN.out; omega, (HL.out.2.1 h).2⟩) (by simp [HN.out]) ((HBy2.out.below ((Below.refl _ _).alloc (Nat.le_refl _) _)).news) (byteVals_cell _) (by unfold maxLen; omega) (by omega) (by simp) ?_)
    intro v3 w3 ho3 hg3
    have hs3 : Step [] w2 w3 := ((Step.refl _ _).alloc _).grown hg3 (fun k hk => by cases hk; exact .inr (Nat.le_refl _))
    obtain ⟨a3, c3, rfl, hB3⟩ := slb_of ho3
    have HO3 := Lib.hid (And.intro ho3 (And.intro hs3 hB3))
    clear ho3 hg3 hs3 hB3
    obtain ⟨X0, hX0⟩ : ∃ X, X = Ms.with (bare 0 1 2 0 0 0 0 false) none 0 0 (some ⟨w3.heap.size, 0, none⟩) 2 2 a3 n c3 := ⟨_, rfl⟩
    obtain ⟨hm, hbm, hsm⟩ := box_m (w3.alloc (.cells #[.int .i64 1, .int .i64 2] 3)) X0
    have hst0 := Try.store_m _ _ _ X0 hm
    rw [World.size_alloc] at hst0 hbm hsm
    have hst : (storeBig 31 (.pointer (some ⟨w3.heap.size + 1, 0, none⟩)) (.agg (((((msC ms0).set 1 (.int .i64 1)).set 2 (.int .i64 2)).set 10 (.slice a3 n c3)).set 9 (.slice (some ⟨w3.heap.size, 0, none⟩) 2 2)).toArray)).run Try.prog ((w3.alloc (.cells #[.int .i64 1, .int .i64 2] 3)).alloc (.cells (msC ms0).toArray 31)) = .ok () (((w3.alloc (.cells #[.int .i64 1, .int .i64 2] 3)).alloc (.cells (msC ms0).toArray 31)).setCells (w3.heap.size + 1) 0 (msC X0)) := by
      rw [← hst0, hX0]
      rfl
    clear hst0 hm
    obtain ⟨W4, hW4⟩ : ∃ W, ((w3.alloc (.cells #[.int .i64 1, .int .i64 2] 3)).alloc (.cells (msC ms0).toArray 31)).setCells (w3.heap.size + 1) 0 (msC X0) = W := ⟨_, rfl⟩
    rw [hW4] at hst hbm hsm
    have H4 := Lib.hid (And.intro hbm (And.intro hsm hX0))
    clear hW4 hbm hsm
    obtain ⟨K, hK⟩ : ∃ K, N1 % 5 = K := ⟨_, rfl⟩
    have hK4 : K ≤ 4 := by omega
    have e5 : (N1 : Int) % 5 = (K : Int) := by omega
    go_wp2_with fail
    clear hst hX0
    obtain ⟨b8, hb8⟩ : ∃ b, w3.heap.size + 1 = b := ⟨_, rfl⟩
    rw [hb8]
    have HB8 := Lib.hid hb8
    clear hb8 hK
    rw [e5]
    clear e5
    go_loopw [42] (fun s wr => ∃ (j : Nat) (x : Ms) (D : List Nat) (L : List En), s = .int .u8 (j : Int) ∧ j ≤ K ∧ KI w2 b8 l j wr x D L) (fun s _ => K - (intOf s).toNat)
    case atStart =>
      exact ⟨0, X0, w3.heap.size :: foot (.slice a3 n c3), [], rfl, Nat.zero_le _, KI.start H4.out.2.2 HO3.out.1 HO3.out.2.1 HO3.out.2.2 HB8.out H4.out.1 H4.out.2.1⟩
    case round =>
      obtain ⟨j, x, D, L, rfl, hj, hI⟩ := hrel
      by_cases hjK : j < K
      · have c8 := (msg_cells hI.blk).2.2.2.2.1
        rw [hI.en] at c8
        have p3 : (j : Int) < (K : Int) := by omega
        have q0 : (0 : Int) ≤ (j : Int) := by omega
        have hlt := hI.blk.lt
        have d8 : ∀ o, (wr.alloc o).cell? ⟨b8, 8, none⟩ = some (.slice x.ea j x.ec) := fun o => (((Step.refl [] wr).alloc o).cell hlt (by simp)).trans c8
        have HI := Lib.hid hI
        clear hI
        have e6 : IntKind.u64.wrap (j : Int) = (j : Int) := by rw [IntKind.wrap_u64]; omega
        have e7 : IntKind.u8.wrap ((j : Int) + 1) = (j : Int) + 1 := by rw [IntKind.wrap_u8]; omega
        have HBw := Lib.hid (fun W' (h : Step [] wr W') => HBy2.out.step (HI.out.st.then h (by simp)) (by simp))
        have HHn := Lib.hid (show a = none → n = 0 ∧ cap = 0 from fun h => ⟨by have := (HL.out.2.1 h).1; have := HN.out; omega, (HL.out.2.1 h).2⟩)
        obtain ⟨i1, k1, k2, k3, k4⟩ := info_parts Try.infoE
        have HI1 := Lib.hid (And.intro k1 (And.intro k2 (And.intro k3 k4)))
        clear k1 k2 k3 k4
        go_wp2_with fail
        refine wp_region_noPanic ?_
        go_region_law (first
          | (refine step_append_own_any rfl (.tmp 49) (.tmp 50) 29 rfl wr.heap.size 5 i0 (.int .u8 0) 1 1 Try.underlying29 HI0.out.1 HI0.out.2.1 HI0.out.2.2.1 HI0.out.2.2.2 rfl (by decide) _ 0 [] (by rfl) ((World.ownsRow_made wr #[] 0 (Nat.le_refl _) (Nat.zero_le _) rfl).drew) a n cap (l.map byteVal) (by rfl) HHn.out (by simp [HN.out]) ?c1 (byteVals_cell _) (by unfold maxLen; omega) (by omega) (by rw [show (wr.alloc (.cells #[] 5)).drew.heap.size = wr.heap.size + 1 from World.size_alloc _ _]; omega) ?_
             case c1 => exact (HBw.out _ ((Step.refl [] wr).alloc _).drew).news
             intro v5 w5 ho5 hs5 hf5
             obtain ⟨a5, c5, rfl, hB5⟩ := slb_of (by simpa using ho5)
             have hs5k : Step [] wr w5 := ((Step.refl [] wr).alloc (.cells #[] 5)).drew.then hs5 (fun k hk => .inr (by simp [foot, Value.ownBlock] at hk; omega))
             have c8' := (hs5k.cell hlt (by simp)).trans c8
             have d8' : ∀ o, (w5.alloc o).cell? ⟨b8, 8, none⟩ = some (.slice x.ea j x.ec) := fun o => ((hs5k.alloc o).cell hlt (by simp)).trans c8
             have HO5 := Lib.hid (And.intro ho5 (And.intro hs5k hB5))
             clear ho5 hs5 hf5 hB5 hs5k)
          | (refine step_append_own rfl (.tmp 46) (.tmp 53) 27 rfl w2.heap.size 45 i1 _ 4 48 Try.underlying27 HI1.out.1 HI1.out.2.1 HI1.out.2.2.1 HI1.out.2.2.2 rfl (by decide) (.slice x.ea j x.ec) j (cellsL L) (by rfl) ?c1 ⟨w5.heap.size, 0, none⟩ 1 1 [.int .u64 (j : Int), .int .u64 0, .bool false, .slice a5 n c5] (by rfl) (by rfl) ?cn ?c2 ?c3 ?c4 ?c5 ?_
             case cn => exact row_new w5 _ _
             case c1 => exact owns_step HI.out.own (HO5.out.2.1.alloc _) (by simp)
             case c2 => intro u hu; simp at hu; rcases hu with rfl | rfl | rfl | rfl <;> rfl
             case c3 => unfold maxLen; omega
             case c4 => omega
             case c5 => rw [World.size_alloc]; have := HI.out.st.size; have := HO5.out.2.1.size; omega
             intro v8 w8 ho8 hs8 hf8
             obtain ⟨g8, k8, rfl, -⟩ := owns_form ho8 (by omega)
             have hb8 : b8 ∉ foot (.slice x.ea j x.ec) := not_msg HI.out.own HI.out.blk (by decide)
             have hB8 := (HI.out.blk.step (HO5.out.2.1.alloc _) (by simp)).step hs8 hb8
             have c8 := (msg_cells hB8).2.2.2.2.1
             have f8 := hB8.free 8
             have HO8 := Lib.hid (And.intro ho8 (And.intro hs8 (And.intro hf8 hB8)))
             clear ho8 hs8 hf8 hB8 hb8))
        all_goals
          have HN8 := Lib.hid (HI.out.next HO5.out.2.1 HO5.out.1 HO5.out.2.2 HO8.out.1 HO8.out.2.1 HO8.out.2.2.1 HO8.out.2.2.2)
          clear c8 f8 c8' d8' d8
          refine NoPanic.normal ?_
          go_wp2_with fail
          go_roundw
          case rel => exact ⟨j + 1, _, _, _, by go_num, hjK, HN8.out⟩
          case measure => simp [intOf]; omega
      · have hje : j = K := by omega
        subst hje
        have HI := Lib.hid hI
        obtain ⟨fv, hfv⟩ : ∃ v : Value, v = .func (.func 14) #[] #[] := ⟨_, rfl⟩
        have s10 : ∀ T, Step [] wr (wr.alloc (.cells #[fv] T)) := fun T => (Step.refl [] wr).alloc _
        have b10 : ∀ T, Blk (wr.alloc (.cells #[fv] T)) wr.heap.size #[fv] T := fun T => Blk.new wr #[fv] T
        have r8 : ∀ T, rowC (wr.alloc (.cells #[fv] T)) b8 0 11 = some (msC x) := fun T => msg_row (hI.blk.step (s10 T) (by simp))
        have HS10 := Lib.hid (And.intro s10 b10)
        have HFV := Lib.hid hfv
        rw [hfv] at r8
        clear hI hj hjK s10 b10
        obtain ⟨q1, q2, q3⟩ := HI.out.done (by omega) (by have := HN.out; omega)
        have HT0 := Lib.hid (And.intro q1 (And.intro q2 q3))
        clear q1 q2 q3
        have HK5 := Lib.hid (fun T => NetK.own HK.out (HI.out.st.then (HS10.out.1 T) (by simp)) _ (HT0.out.1.step (HS10.out.1 T) (fun k _ => List.not_mem_nil)) HT0.out.2.1 [(b8, .cells (msC x).toArray 31 (0, 0)), (wr.heap.size, .cells #[fv] T (0, 0))] (fun y hy => by
          rcases List.mem_cons.1 hy with rfl | hy
          · exact ⟨HI.out.b8l, HI.out.blk.step (HS10.out.1 T) (by simp), HT0.out.2.2⟩
          · simp only [List.mem_cons, List.not_mem_nil, or_false] at hy
            subst hy
            exact ⟨HI.out.st.size, HS10.out.2 T, fun hm => by have := HT0.out.1.live _ hm; omega⟩))
        rw [hfv] at HK5
        clear hfv
        go_wp2_with fail
        obtain ⟨b10, hb10⟩ : ∃ b, wr.heap.size = b := ⟨_, rfl⟩
        rw [hb10] at HK5 ⊢
        have HLT := Lib.hid (show w.heap.size < b8 ∧ w.heap.size < b10 from by
          have h1 := (HK.out.lt (x := (w.heap.size, .cells #[.bool false] 4 (0, 0))) (by simp)).2
          have h2 := HI.out.st.size
          have h3 := HI.out.b8l
          have h4 : w.heap.size < w2.heap.size := h1
          omega)
        have HM5 := Lib.hid (fun T => (HT0.out.1.step (HS10.out.1 T) (fun k _ => List.not_mem_nil)).ok)
        rw [HFV.out] at HM5
        obtain ⟨t0, ht0⟩ : ∃ t : Tm, t = ⟨x, pmK l j, foot (.slice x.ea j x.ec) ++ D⟩ := ⟨_, rfl⟩
        obtain ⟨W5, hW5⟩ : ∃ W, wr.alloc (.cells #[.func (.func 14) #[] #[]] 52) = W := ⟨_, rfl⟩
        have HK6 := Lib.hid (HK5.out 52)
        have HM6 := Lib.hid (HM5.out 52)
        have HTX := Lib.hid (And.intro ht0 (And.intro HI.out.fr (And.intro HI.out.too (pmK_few l j (by omega) (by have := HN.out; omega)))))
        have HST5 := Lib.hid (HI.out.st.then (HS10.out.1 52) (by simp))
        rw [HFV.out] at HST5
        rw [hW5] at HK6 HM6 HST5 ⊢
        rw [← ht0] at HK6
        clear HK5 hW5 r8 HM5 HT0 HS10 HI HFV H4 HO3 HB8 hL0 hC0 hzv HI0 ht0 hb10 HK i0 fv
        refine (NetK.send HK6.out x (pmK l j) _ HM6.out HTX.out.2.2.2 (by simp) (by rw [HTX.out.2.1]; rfl) (by rw [HTX.out.2.2.1]; rfl) (wld_none _)).mono ?_
        rintro e w6 ⟨rfl, t1, h1M, hK7⟩
        rw [putT_nil] at hK7
        have HK7 := Lib.hid hK7
        have HM1 := Lib.hid h1M
        clear hK7 h1M HK6 HM6
        go_wp2_with fail
        refine (NetK.twice HK7.out 0 (by simp) (by simp)).mono ?_
        rintro e w7 ⟨rfl, t2, h2M, hK8⟩
        rw [putT_one] at hK8
        simp only [List.getD_cons_zero] at h2M
        rw [HM1.out] at h2M
        have c10 := (hK8.blk (b := b10) (C := #[.func (.func 14) #[] #[]]) (T := 52) (by simp)).cell 0
        have r8 := msg_row (hK8.blk (b := b8) (C := (msC x).toArray) (T := 31) (by simp))
        simp only [List.getElem?_toArray, List.getElem?_cons_zero] at c10
        have HK8 := Lib.hid hK8
        have HM2 := Lib.hid h2M
        clear hK8 h2M HK7
        go_wp2_with fail
        have hsp := spoil_any t0 w7 (NetK.tm HK8.out (by simp))
        have hx0 : t0.x = x := by rw [HTX.out.1]
        rw [hx0] at hsp
        refine hsp.mono ?_
        rintro e w8 ⟨rfl, hs8⟩
        have HK9 := Lib.hid (NetK.spoil HK8.out hs8)
        clear hs8 hsp HK8 r8 c10
        go_wp2_with fail
        refine (all_box _ _).mono ?_
        rintro e w9 ⟨rfl, hw9⟩
        have hs9 : Step [] w8 w9 := by rw [hw9]; exact (Step.refl [] w8).alloc _
        have hbx : Blk w9 w8.heap.size #[.pointer (some ⟨nb, 0, none⟩)] 23 := by rw [hw9]; exact Blk.new _ _ _
        have HK10 := Lib.hid (HK9.out.step (netΦ_stb _ _ _ _ _ _) hs9)
        obtain ⟨bx, hbxe⟩ : ∃ b, w8.heap.size = b := ⟨_, rfl⟩
        rw [hbxe] at hbx ⊢
        have hcx := hbx.cell 0
        simp only [List.getElem?_toArray, List.getElem?_cons_zero] at hcx
        obtain ⟨F, ⟨base, lv, rfl, hN⟩, hFl, hFd⟩ := HK10.out.open
        have hPre : ∀ X, Step [] w9 X → X.cell? ⟨bx, 0, none⟩ = some (.pointer (some ⟨nb, 0, none⟩)) ∧ NtE X base nb mb lv [t1, t2] [] 0 (fun _ => none) := fun X hs => ⟨(hs.cell hbx.lt (by simp)).trans hcx, hN.step hs (fun k _ => List.not_mem_nil)⟩
        obtain ⟨R, hR⟩ : ∃ R, footE nb mb lv [t1, t2] [] = R := ⟨_, rfl⟩
        have hsep := allC_sep 5 (by omega) bx base nb mb lv [t1, t2] 0 (fun _ => none)
        rw [hR] at hFl hFd hsep
        have HP := Lib.hid (And.intro hPre (And.intro hFl (And.intro hFd hsep)))
        have hRl : Live w9 R := fun k hk => (hFl k hk).2
        have hb10 := HK10.out.blk (b := b10) (C := #[.func (.func 14) #[] #[]]) (T := 52) (by simp)
        have hb10R : b10 ∉ R := hFd b10 (by simp)
        have HB10 := Lib.hid (And.intro hb10 hb10R)
        clear hw9 hs9 hbx hbxe hcx hPre hFl hFd hsep HK9 hb10 hb10R hN hR
        have hzv := zeroM
        unfold msV at hzv
        have hC0 : ¬ (msC ms0).toArray = #[] := by decide
        go_wp2_with fail
        refine (wpIn_wide (n := 6)).1 ?_
        refine wpIn_range_sepVX (gf := 29) (lb := #[.pointer (some ⟨bx, 0, none⟩)]) rfl (by omega) rfl trivial (enters_of Try.func29 (by kernel_rfl) rfl)
          HP.out.2.2.2 HP.out.1 (fun _ => rfl) hRl
          (fun xs A C => C = offR R w9.heap.size ∧ Step R w9 A) (fun _ _ _ _ => False)
          (fun s A B C H h hs hd => ⟨h.1, h.2.off hs (by rw [← h.1]; exact hd) (Nat.le_refl _)⟩) (fun s A C h k hk => by rw [h.1] at hk; exact Nat.lt_of_lt_of_le (mem_offR.1 hk).1 h.2.size) (fun s A C h => by rw [h.1]; exact offR_dj) (fun _ _ _ _ _ _ h _ _ => h.elim) (fun _ _ _ _ h => h.elim)
          (offR R w9.heap.size) R hRl offR_dj ⟨rfl, Step.refl _ _⟩
          (fun pre x a' A C => a'.tmps.size = 213 ∧ a'.defers = [] ∧ a'.tmps.getD 10 undef = .pointer (some ⟨b10, 0, none⟩) ∧ (∃ g, a'.tmps.getD 12 undef = .pointer (some ⟨g, 0, none⟩) ∧ Blk A g (msC x.2.1).toArray 31) ∧ ∃ M, TmOk A ⟨x.2.1, M, x.2.2⟩) ?hAx ?assign ?body ?done ?stop
        case stop => exact fun D c pre B C hD hDC hp h => h.elim
        case hAx =>
          rintro pre y a' A B C b r ⟨e1, e2, e3, ⟨g, e4, e5⟩, M, e6⟩ hb hbC hby hs
          refine ⟨e1, e2, e3, ⟨g, e4, e5.step hs (fun hm => ?_)⟩, M, e6.step hs (fun k hk hm => ?_)⟩
          · simp only [List.mem_cons, List.not_mem_nil, or_false] at hm
            subst hm
            unfold Blk at e5
            rw [e5] at hb
            cases hb
          · simp only [List.mem_cons, List.not_mem_nil, or_false] at hm
            subst hm
            exact hby hk
        case assign =>
          rintro l2 pre ⟨yi, ym, yD⟩ A C K hI hV _ _ _ hK
          obtain ⟨-, -, hV⟩ := hV pre ⟨yi, ym, yD⟩ rfl
          obtain ⟨bt, bb, bs⟩ := box_m A ym
          have hst := Try.store_m _ _ _ ym bt
          gi_wp2
          refine hK _ _ bs ?_
          exact ⟨rfl, rfl, rfl, ⟨_, rfl, bb⟩, _, hV.step bs (fun k _ => List.not_mem_nil)⟩
        case body =>
          rintro l2 pre ⟨yi, ym, yD⟩ a' A C hrec hlC hlx hlv hdx hdr ⟨rfl, hA⟩ ⟨hsz, hdf, g10, ⟨g, g12, hbg⟩, M, hT⟩
          obtain ⟨f', hf'⟩ : ∃ f' : Nat → Value, (fun k => a'.tmps.getD k undef) = f' := ⟨_, rfl⟩
          have h10 : f' 10 = .pointer (some ⟨b10, 0, none⟩) := by rw [← hf']; exact g10
          have h12 : f' 12 = .pointer (some ⟨g, 0, none⟩) := by rw [← hf']; exact g12
          rw [act_lit hsz, hf', hdf, lit213, h10, h12]
          have c10 := (HB10.out.1.step hA HB10.out.2).cell 0
          simp only [List.getElem?_toArray, List.getElem?_cons_zero] at c10
          have r12 := msg_row hbg
          have hsp := spoil_any ⟨ym, M, yD⟩ A hT
          have HA := Lib.hid (And.intro hA (And.intro hdx hdr))
          clear hA hdx hdr hT hbg hf' h10 h12 g10 g12 hsz hdf hrec
          gi_wp2
          refine ⟨trivial, (CallsIn.inRound l2 (callsIn_wide.2 hsp)).mono ?_⟩
          rintro e B ⟨rfl, hsB⟩
          have HSB := Lib.hid hsB
          clear hsB hsp
          gi_wp2
          refine ⟨_, ⟨rfl, HA.out.1.then HSB.out (fun k hk => .inr ?_)⟩, HSB.out.mono (fun k hk => List.mem_append_right _ hk), fun k hk => .inl (List.mem_append_left _ hk)⟩
          rcases Nat.lt_or_ge k w9.heap.size with hlt | hge
          · exact absurd hk (HA.out.2.1 k (mem_offR.2 ⟨hlt, fun hm => HA.out.2.2 k hm hk⟩))
          · exact hge
        case done =>
          rintro D xs B C hD hDC hxs ⟨-, hsB⟩ hm hk
          have hsB' := hsB.undo hk
          have HK11 := Lib.hid (HK10.out.add (netΦ_stb _ _ _ _ _ _) hsB' [(D, .deferred (some []))] (fun y hy => by
            simp only [List.mem_cons, List.not_mem_nil, or_false] at hy
            subst hy
            exact ⟨hD, hm⟩))
          clear hsB hsB' hm hk hxs hDC HK10 HP HB10 hRl
          go_wp2_with fail
          have e1 : ([t1, t2].getD 0 tm0) = t1 := rfl
          have HTk := Lib.hid (NetK.take HK11.out 0 (by simp) (by rw [e1, HM1.out]; rfl) (by rw [e1, HM1.out]; rfl))
          rw [e1] at HTk
          refine HTk.out.mono ?_
          rintro e w12 ⟨rfl, hK12⟩
          have hT1 := NetK.tm hK12 (t := t1) (by simp)
          obtain ⟨bt, bb, bs⟩ := box_m w12 t1.x
          have hst := Try.store_m _ _ _ t1.x bt
          obtain ⟨W12, hW12⟩ : ∃ W, (w12.alloc (.cells (msC ms0).toArray 31)).setCells w12.heap.size 0 (msC t1.x) = W := ⟨_, rfl⟩
          obtain ⟨b13, hb13⟩ : ∃ b, w12.heap.size = b := ⟨_, rfl⟩
          rw [hW12] at bb bs hst
          have hK13 := hK12.add (netΦ_stb _ _ _ _ _ _) bs [(b13, .cells (msC t1.x).toArray 31 (0, 0))] (fun y hy => by
            simp only [List.mem_cons, List.not_mem_nil, or_false] at hy
            subst hy
            rw [hb13] at bb
            exact ⟨Nat.le_of_eq hb13, bb⟩)
          have hT13 := hT1.step bs (fun k _ => List.not_mem_nil)
          have hcv := tm_str hT13 HM1.out
          have c13 := (msg_cells bb).2.2.2.2.2.2
          have r13 := msg_row bb
          have k10 := (hK13.blk (b := b10) (C := #[.func (.func 14) #[] #[]]) (T := 52) (by simp)).cell 0
          simp only [List.getElem?_toArray, List.getElem?_cons_zero] at k10
          have hsp := spoil_any t1 W12 hT13
          have HSp := Lib.hid hsp
          have HK13 := Lib.hid hK13
          rw [hb13] at hst c13 r13
          have HBB := Lib.hid (And.intro hW12 hb13)
          clear hK12 hT1 bt bb bs hW12 hK13 hT13 hsp HTk HK11 e1
          go_wp2_with (rw [HBB.out.2])
          refine HSp.out.mono ?_
          rintro e w14 ⟨rfl, hs14⟩
          have hK14 := NetK.spoil HK13.out hs14
          have e1 : ([t1, t2].eraseIdx 0) = [t2] := rfl
          have e2 : ([t2].getD 0 tm0) = t2 := rfl
          have e3 : ([t2].eraseIdx 0) = ([] : List Tm) := rfl
          rw [e1] at hK14
          have HTk := Lib.hid (NetK.take hK14 0 (by simp) (by rw [e2, HM2.out]; rfl) (by rw [e2, HM2.out]; rfl))
          rw [e2, e3] at HTk
          clear hs14 hK14 e1 e2 e3 HK13 HSp hst c13 r13 k10 hcv hb13
          go_wp2_with fail
          refine HTk.out.mono ?_
          rintro e w15 ⟨rfl, hK12⟩
          have hT1 := NetK.tm hK12 (t := t2) (by simp)
          obtain ⟨bt, bb, bs⟩ := box_m w15 t2.x
          have hst := Try.store_m _ _ _ t2.x bt
          obtain ⟨W15, hW15⟩ : ∃ W, (w15.alloc (.cells (msC ms0).toArray 31)).setCells w15.heap.size 0 (msC t2.x) = W := ⟨_, rfl⟩
          obtain ⟨b16, hb16⟩ : ∃ b, w15.heap.size = b := ⟨_, rfl⟩
          rw [hW15] at bb bs hst
          have hK13 := hK12.add (netΦ_stb _ _ _ _ _ _) bs [(b16, .cells (msC t2.x).toArray 31 (0, 0))] (fun y hy => by
            simp only [List.mem_cons, List.not_mem_nil, or_false] at hy
            subst hy
            rw [hb16] at bb
            exact ⟨Nat.le_of_eq hb16, bb⟩)
          have hT15 := hT1.step bs (fun k _ => List.not_mem_nil)
          have hcv := tm_str hT15 HM2.out
          obtain ⟨-, -, -, -, c8, c9, c10⟩ := msg_cells bb
          have hms := hT15.ok.ms
          rw [HM2.out] at hms
          have hmn : t2.x.mn = 2 := hms.len.symm
          obtain ⟨bm, om, hma, -, hm1⟩ := hms.rd 1 (by show 1 < 2; omega)
          have hm2 : W15.cell? ⟨bm, om + 1, none⟩ = some (.int .i64 2) := hm1
          rw [hma, hmn] at c9
          have hcd : (convert 29 9 (.slice a n cap)).run Try.prog W15 = .ok (.string (bstr l)) W15 := by
            have h1 := Bytes.str (P := Try.prog) (HL.out.1.step hK13.st (by simp)) (fun h => (HL.out.2.1 h).1) cap 29 9 5 Try.underlying29 Try.underlying5 Try.underlying9
            rw [HN.out] at h1
            exact h1
          have hf0 := (hK13.blk (b := w.heap.size) (C := #[.bool false]) (T := 4) (by simp)).cell 0
          have hg0 := (hK13.blk (b := w.heap.size) (C := #[.bool false]) (T := 4) (by simp)).free 0
          simp only [List.getElem?_toArray, List.getElem?_cons_zero] at hf0
          have HT15 := Lib.hid hT15
          have HK15 := Lib.hid hK13
          rw [hb16] at hst c8 c9 c10
          have HBB := Lib.hid (And.intro hW15 hb16)
          obtain ⟨hen, L2, hL2, hE2, hok2⟩ := tm_rows hT15 HM2.out
          have HE2 := Lib.hid (And.intro hL2 (And.intro hE2 hok2))
          rw [hen] at c8
          clear hK12 hT1 bt bb bs hW15 hK13 hT15 HTk hms hm1 hma hmn hL2 hE2 hok2 hen
          go_wp2_with (rw [HBB.out.2])
          clear hst hcv c8 c9 c10 hm2 hcd hg0 hf0 hb16 HBB
          go_loopw [118] (fun s wr => ∃ q : Nat, s = .int .i64 (q : Int) ∧ q ≤ j ∧ Step [] W15 wr) (fun s _ => j - (intOf s).toNat)
          case atStart => exact ⟨0, rfl, Nat.zero_le _, Step.refl _ _⟩
          case round =>
            obtain ⟨q, rfl, hq, hs⟩ := hrel
            have HS := Lib.hid hs
            by_cases hqj : q < j
            · have hEr := HE2.out.2.1.step hs (fun b off _ _ => List.not_mem_nil)
              obtain ⟨be, oe, hea, hbl, y0, y1, y2, y3⟩ := hEr q (by rw [HE2.out.1]; exact hqj)
              have hokr := (HE2.out.2.2 q hqj).step hs (fun k _ => List.not_mem_nil)
              obtain ⟨y, hy⟩ : ∃ y, L2.getD q en0 = y := ⟨_, rfl⟩
              rw [hy] at y0 y1 y2 y3 hokr
              have hcy : ∀ o, (convert 29 9 (.slice y.da y.dn y.dc)).run Try.prog (wr.alloc o) = .ok (.string (bstr l)) (wr.alloc o) := fun o => en_str (hokr.step ((Step.refl [] wr).alloc o) (fun k _ => List.not_mem_nil))
              have hcd : ∀ o, (convert 29 9 (.slice a n cap)).run Try.prog (wr.alloc o) = .ok (.string (bstr l)) (wr.alloc o) := fun o => by
                have h1 := Bytes.str (P := Try.prog) (HL.out.1.step ((HK15.out.st.then hs (by simp)).alloc o) (by simp)) (fun h => (HL.out.2.1 h).1) cap 29 9 5 Try.underlying29 Try.underlying5 Try.underlying9
                rw [HN.out] at h1
                exact h1
              have p1 : (q : Int) < (j : Int) := by omega
              have p0 : (0 : Int) ≤ (q : Int) := by omega
              have HEA := Lib.hid hea
              rw [hea]
              clear hs hEr hokr hbl hea hy
              go_wp2_with fail
              exact ⟨⟨q + 1, by go_num, hqj, HS.out.alloc _⟩, by simp [intOf]; omega⟩
            · have hqe : q = j := by omega
              subst hqe
              have HK16 := Lib.hid (HK15.out.step (netΦ_stb _ _ _ _ _ _) hs)
              clear hs hqj hq HS HE2 HT15 HK15
              obtain ⟨k2, hk2⟩ : ∃ k, N2 % 20 = k := ⟨_, rfl⟩
              have e20 : (N2 : Int) % 20 = (k2 : Int) := by omega
              have hk20 : k2 < 20 := by omega
              have ew : IntKind.i64.wrap (k2 : Int) = (k2 : Int) := by rw [IntKind.wrap_i64]; omega
              have ew2 : IntKind.i64.wrap (60 + (k2 : Int)) = 60 + (k2 : Int) := by rw [IntKind.wrap_i64]; omega
              clear hk2
              go_wp2_with fail
              rw [e20]
              have E20 := Lib.hid e20
              clear e20
              go_loopw [133] (fun s wr => ∃ (i : Nat) (T : List Tm), s = .int .i64 (i : Int) ∧ i ≤ 60 + k2 ∧ Tl T i ∧ Kept w (NetΦ nb mb T [t2] 0 (fun _ => none)) [(D, .deferred (some [])), (b8, .cells (msC x).toArray 31 (0, 0)), (w.heap.size, .cells #[.bool false] 4 (0, 0))] wr) (fun s _ => 60 + k2 - (intOf s).toNat)
              case atStart => exact ⟨0, [], rfl, Nat.zero_le _, Tl.nil, HK16.out.mono (fun y hy => by
                simp only [List.mem_cons, List.not_mem_nil, or_false] at hy
                rcases hy with rfl | rfl | rfl <;> simp)⟩
              case round =>
                obtain ⟨i, T, rfl, hi, hTl, hK⟩ := hrel
                have HTl := Lib.hid hTl
                have HKr := Lib.hid hK
                clear hTl hK HK16
                by_cases hlt : i < 60 + k2
                · have p1 : (i : Int) < 60 + (k2 : Int) := by omega
                  have e1 : IntKind.u64.wrap (i : Int) = (i : Int) := by rw [IntKind.wrap_u64]; omega
                  go_wp2_with fail
                  refine (NetK.send HKr.out (bare 0 1 3 (i : Int) 0 0 0 false) (pmB i) [] (bare_ok _ _ _ _ _ _ _ _ _ _) (few_bare _ _ _ _ _ _ _ _) (by have := HTl.out.len; omega) rfl rfl (wld_none _)).mono ?_
                  rintro e w17 ⟨rfl, t3, h3M, hK⟩
                  have HK17 := Lib.hid hK
                  have HT17 := Lib.hid (HTl.out.put h3M)
                  clear hK h3M HKr HTl
                  go_wp2_with fail
                  go_roundw
                  case rel => exact ⟨i + 1, _, by go_num, hlt, HT17.out, HK17.out⟩
                  case measure => simp [intOf]; omega
                · have hie : i = 60 + k2 := by omega
                  subst hie
                  clear hi hlt
                  go_wp2_with fail
                  have hlT := HTl.out.len
                  obtain ⟨z, hz⟩ : ∃ z, 60 + k2 - T.length = z := ⟨_, rfl⟩
                  have hM := HTl.out.at' 0 (by omega)
                  rw [hz, Nat.add_zero] at hM
                  obtain ⟨t3, ht3⟩ : ∃ t, T.getD 0 tm0 = t := ⟨_, rfl⟩
                  rw [ht3] at hM
                  have HTk := Lib.hid (NetK.take HKr.out 0 (by omega) (by rw [ht3, hM]; rfl) (by rw [ht3, hM]; rfl))
                  rw [ht3] at HTk
                  have HZ := Lib.hid (And.intro hlT (And.intro hz hM))
                  clear hlT hz hM ht3 HTl HKr
                  refine HTk.out.mono ?_
                  rintro e w18 ⟨rfl, hK12⟩
                  have hT1 := NetK.tm hK12 (t := t3) (by simp)
                  obtain ⟨bt, bb, bs⟩ := box_m w18 t3.x
                  have hst := Try.store_m _ _ _ t3.x bt
                  obtain ⟨W18, hW18⟩ : ∃ W, (w18.alloc (.cells (msC ms0).toArray 31)).setCells w18.heap.size 0 (msC t3.x) = W := ⟨_, rfl⟩
                  obtain ⟨b21, hb21⟩ : ∃ b, w18.heap.size = b := ⟨_, rfl⟩
                  rw [hW18] at bb bs hst
                  have hK13 := hK12.add (netΦ_stb _ _ _ _ _ _) bs [(b21, .cells (msC t3.x).toArray 31 (0, 0))] (fun y hy => by
                    simp only [List.mem_cons, List.not_mem_nil, or_false] at hy
                    subst hy
                    rw [hb21] at bb
                    exact ⟨Nat.le_of_eq hb21, bb⟩)
                  have HK18 := Lib.hid hK13
                  rw [hb21] at hst
                  have HTM := Lib.hid (show t3.x.tm = (z : Int) from by rw [hT1.ok.tm, HZ.out.2.2]; rfl)
                  have HBB := Lib.hid (And.intro hW18 hb21)
                  clear hK12 hT1 bt bb bs hW18 hK13 HTk
                  go_wp2_with (rw [HBB.out.2])
                  clear hst hb21 HBB
                  refine (all_box _ _).mono ?_
                  rintro e w19 ⟨rfl, hw9⟩
                  have hs9 : Step [] W18 w19 := by rw [hw9]; exact (Step.refl [] W18).alloc _
                  have hbx : Blk w19 W18.heap.size #[.pointer none] 23 := by rw [hw9]; exact Blk.new _ _ _
                  have HK19 := Lib.hid (HK18.out.step (netΦ_stb _ _ _ _ _ _) hs9)
                  obtain ⟨bx2, hbxe⟩ : ∃ b, W18.heap.size = b := ⟨_, rfl⟩
                  rw [hbxe] at hbx ⊢
                  have hcx := hbx.cell 0
                  simp only [List.getElem?_toArray, List.getElem?_cons_zero] at hcx
                  have HCX := Lib.hid (And.intro hcx hbx.lt)
                  clear hw9 hs9 hbx hbxe hcx HK18
                  go_wp2_with fail
                  refine wp_range_nil (gf := 29) (lb := #[.pointer (some ⟨bx2, 0, none⟩)]) rfl (enters_of Try.func29 (by kernel_rfl) rfl) ?_ ?_
                  · intro l W hW
                    exact all1_nil l _ W ((hW.cell HCX.out.2 (by simp)).trans HCX.out.1)
                  · intro D2 w20 hD2 hs20 hm20
                    have HK20 := Lib.hid (HK19.out.add (netΦ_stb _ _ _ _ _ _) hs20 [(D2, .deferred (some []))] (fun y hy => by
                      simp only [List.mem_cons, List.not_mem_nil, or_false] at hy
                      subst hy
                      exact ⟨hD2, hm20⟩))
                    have HD2 := Lib.hid (show D2 ≠ D from fun e => by
                      have := (HK19.out.lt (x := (D, .deferred (some []))) (by simp)).2
                      have h4 : D < w19.heap.size := this
                      omega)
                    have HD3 := Lib.hid hD2
                    clear hs20 hm20 hD2 HK19 HCX
                    go_wp2_with fail
                    refine (take_nil 0 _).mono ?_
                    intro e w21 hP
                    obtain ⟨rfl, hs21⟩ := hP
                    obtain ⟨bt, bb, bs⟩ := box_m w21 ms0
                    have hst := Try.store_m _ _ _ ms0 bt
                    obtain ⟨W21, hW21⟩ : ∃ W, (w21.alloc (.cells (msC ms0).toArray 31)).setCells w21.heap.size 0 (msC ms0) = W := ⟨_, rfl⟩
                    rw [hW21] at bs hst
                    have hK21 := HK20.out.step (netΦ_stb _ _ _ _ _ _) (hs21.then bs (by simp))
                    have c3 := (msg_cells (hK21.blk (b := b21) (C := (msC t3.x).toArray) (T := 31) (by simp))).2.2.2.1
                    rw [HTM.out] at c3
                    have r8 := msg_row (hK21.blk (b := b8) (C := (msC x).toArray) (T := 31) (by simp))
                    have hf0 := (hK21.blk (b := w.heap.size) (C := #[.bool false]) (T := 4) (by simp)).cell 0
                    have hg0 := (hK21.blk (b := w.heap.size) (C := #[.bool false]) (T := 4) (by simp)).free 0
                    simp only [List.getElem?_toArray, List.getElem?_cons_zero] at hf0
                    have HK21 := Lib.hid hK21
                    clear bt bb bs hs21 hK21 HK20 hW21
                    have e20 := E20.out
                    have ew3 : IntKind.i64.wrap ((k2 : Int) - 4) = (k2 : Int) - 4 := by rw [IntKind.wrap_i64]; omega
                    have ez : max (0 : Int) ((k2 : Int) - 4) = (z : Int) := by have h1 := HZ.out.1; have h2 := HZ.out.2.1; omega
                    have ez2 : IntKind.u64.wrap (z : Int) = (z : Int) := by have h2 := HZ.out.2.1; rw [IntKind.wrap_u64]; omega
                    have HF0 := Lib.hid (And.intro hf0 hg0)
                    clear hf0 hg0
                    go_wp2_with fail
                    all_goals
                      refine (send_nil x W21).mono ?_
                      rintro e w22 ⟨rfl, hs22⟩
                      have HS22 := Lib.hid hs22
                      clear hs22 hst c3 r8
                      go_wp2_with (first
                        | (go_at_call 16; refine (lose_nil _ _).mono ?_; rintro e w7 ⟨rfl, rfl⟩)
                        | (go_at_call 15; refine (twice_nil _ _).mono ?_; rintro e w7 ⟨rfl, rfl⟩)
                        | (go_at_call 17; refine (last_nil _ _).mono ?_; rintro e w7 ⟨rfl, rfl⟩)
                        | (go_at_call 18; refine (wall_nil _ _ _ _).mono ?_; rintro e w7 ⟨rfl, rfl⟩))
                      refine (forget_nil _ _).mono ?_
                      rintro e w23 ⟨rfl, hs23⟩
                      have HS23 := Lib.hid (HS22.out.then hs23 (by simp))
                      clear hs23
                      go_wp2_with fail
                      refine (len_nil _).mono ?_
                      rintro e w24 ⟨rfl, hs24⟩
                      have HS24 := Lib.hid (HS23.out.then hs24 (by simp))
                      clear hs24
                      go_wp2_with (first
                        | (go_at_call 20; refine (copy_nil _).mono ?_; rintro e w7 ⟨rfl, rfl⟩))
                      refine (walled_nil _ _ _).mono ?_
                      rintro e w25 ⟨rfl, hs25⟩
                      have hs26 := HS24.out.then hs25 (by simp)
                      have HK26 := Lib.hid (HK21.out.step (netΦ_stb _ _ _ _ _ _) hs26)
                      have hf0 := (HK26.out.blk (b := w.heap.size) (C := #[.bool false]) (T := 4) (by simp)).cell 0
                      have hg0 := (HK26.out.blk (b := w.heap.size) (C := #[.bool false]) (T := 4) (by simp)).free 0
                      simp only [List.getElem?_toArray, List.getElem?_cons_zero] at hf0
                      clear hs26 hs25
                      go_wp2_with fail
                      have hmD : ∀ D', D' ∈ [D2, D] → (D', Obj.deferred (some [])) ∈ ([(D2, Obj.deferred (some []))] ++ ([(b21, Obj.cells (msC t3.x).toArray 31 (0, 0))] ++ [(D, Obj.deferred (some [])), (b8, .cells (msC x).toArray 31 (0, 0)), (w.heap.size, .cells #[.bool false] 4 (0, 0))])) := fun D' h => by
                        simp only [List.mem_cons, List.not_mem_nil, or_false] at h
                        rcases h with rfl | rfl <;> simp
                      exact leave_keeps (Ds := [D2, D]) ((HK26.out.blk (b := w.heap.size) (C := #[.bool false]) (T := 4) (by simp)).set 0 _) (HK26.out.st.setCell (.inr (Nat.le_refl _)) 0 _) (marks_set (C := #[.bool false]) (T := 4) HK26.out hmD (by simp) (by simp [HD2.out]) _) (fun D' h => kept_mark (C := #[.bool false]) (T := 4) HK26.out (hmD D' h) (by simp)) rfl (fun w' hs => ⟨rfl, hs⟩)
end Go.Proofs.Ytminpglkipnhcaa
