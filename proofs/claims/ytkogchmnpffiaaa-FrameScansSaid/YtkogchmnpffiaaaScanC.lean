/- frame: Scan, as an iterator that hands over records in memory of its own. -/
import Derived.Test.YtkogchmnpffiaaaScanP
import Derived.Test.YtkogchmnpffiaaaFrameS
import Derived.Test.YtkogchmnpffiaaaRangeSepV
import Derived.RangeFuncBound
import Derived.Shelf.Abstract
import Derived.OwnWalkIn
import Derived.TacticsInMore
import Derived.LoopNIn
import Derived.LoopIn
namespace Go.Proofs.Ytkogchmnpffiaaa
set_option linter.unusedVariables false
set_option linter.unusedSimpArgs false
open Go.RowKit Go.Shelf
attribute [local go_sem] Oper.semAt_some

/-- what Scan's iterator keeps: the seed's box, the box of its own bytes, these -/
structure Sc (w : World) (base sb ob s : Nat) (v : Value) (l : List UInt8) : Prop where
  seed : w.cell? ⟨sb, 0, none⟩ = some (.int .u32 (s : Int))
  box : w.cell? ⟨ob, 0, none⟩ = some v
  row : w.ownsRow base 5 1 v l.length (l.map byteVal)
def footSc (sb ob : Nat) (v : Value) : List Nat := sb :: ob :: foot v
theorem Sc.step {H : List Nat} {w w' : World} {base sb ob s : Nat} {v : Value} {l : List UInt8} (h : Sc w base sb ob s v l) (hs : Step H w w') (hd : ∀ k, k ∈ footSc sb ob v → k ∉ H) : Sc w' base sb ob s v l :=
  ⟨(hs.cell (World.block_lt_of_cell? w _ h.seed) (hd sb (by simp [footSc]))).trans h.seed, (hs.cell (World.block_lt_of_cell? w _ h.box) (hd ob (by simp [footSc]))).trans h.box, owns_step h.row hs (fun k hk => hd k (by simp [footSc, hk]))⟩
theorem Sc.live {w : World} {base sb ob s : Nat} {v : Value} {l : List UInt8} (h : Sc w base sb ob s v l) : Live w (footSc sb ob v) := fun k hk => by
  simp only [footSc, List.mem_cons] at hk
  rcases hk with rfl | rfl | hk
  · exact World.block_lt_of_cell? w _ h.seed
  · exact World.block_lt_of_cell? w _ h.box
  · exact owns_live h.row k hk

def ScanPost (s : Nat) (l : List UInt8) (w : World) (e : Ending) (w' : World) : Prop :=
  ∃ sb ob v, e = .returned (.func (.func 26) #[] #[.pointer (some ⟨sb, 0, none⟩), .pointer (some ⟨ob, 0, none⟩)]) ∧ Sc w' w.heap.size sb ob s v l ∧ (∀ k, k ∈ footSc sb ob v → w.heap.size ≤ k) ∧ Step [] w w'

set_option maxHeartbeats 1000000 in
theorem scan_any (s : Nat) (a : Option Addr) (cap : Nat) (l : List UInt8) (w : World) (hn : a = none → l.length = 0 ∧ cap = 0) (hB : Bytes w a l) (hlen : l.length ≤ 1000000) :
    Calls Try.prog 13 #[.int .u32 (s : Int), .slice a l.length cap] w (ScanPost s l w) := by
  have hs0 := (Step.refl [] w).alloc (.cells #[.int .u32 (s : Int)] 22)
  have hb0 := Blk.new w #[.int .u32 (s : Int)] 22
  have HC := Lib.hid (clone_bytes a cap l (w.alloc (.cells #[.int .u32 (s : Int)] 22)) hn (hB.step hs0 (by simp)) (by omega))
  have H0 := Lib.hid (And.intro hs0 hb0)
  clear hs0 hb0 hn hB
  obtain ⟨N, hN⟩ : ∃ N, l.length = N := ⟨_, rfl⟩
  have HN := Lib.hid hN
  rw [hN] at hlen HC ⊢
  clear hN
  go_enter Try.func13, Try.ntmps13
  go_wp2_with fail
  refine HC.out.mono ?_
  rintro e w1 ⟨v, rfl, ho, hs1⟩
  have hs := H0.out.1.then hs1 (by simp)
  have hb1 := H0.out.2.step hs1 (by simp)
  have h1 := Lib.hid (And.intro hs (And.intro hb1 ho))
  rw [HN.out] at ho
  obtain ⟨g, c, rfl, -⟩ := owns_bytes ho
  clear hs1 hs hb1 ho HC
  go_wp2_with fail
  go_ret
  obtain ⟨hs, hb, ho⟩ := h1.out
  have hsz := hs.size
  have hs2 : Step [] w1 (w1.alloc (.cells #[.slice g N c] 23)) := (Step.refl [] w1).alloc _
  have hb2 := (Blk.new w1 #[.slice g N c] 23).cell 0
  have hb3 := (hb.step hs2 (by simp)).cell 0
  simp only [List.getElem?_toArray, List.getElem?_cons_zero] at hb2 hb3
  refine ⟨w.heap.size, w1.heap.size, .slice g N c, rfl, ⟨hb3, hb2, ?_⟩, fun k hk => ?_, hs.then hs2 (by simp)⟩
  · exact owns_low (owns_step ho hs2 (by simp)) (by rw [World.size_alloc]; omega)
  · simp only [footSc, List.mem_cons] at hk
    rcases hk with rfl | rfl | hk
    · exact Nat.le_refl _
    · exact hsz
    · have := owns_base ho k hk
      rw [World.size_alloc] at this
      omega

/-- what is handed over: where it begins, the kind, the data, their slice -/
structure Sx where
  p : Nat
  k : UInt8
  d : List UInt8
  v : Value
def Sx.pr (x : Sx) : Nat × UInt8 × List UInt8 := (x.p, x.k, x.d)
/-- what was told so far is a beginning; the last one's data are there -/
def VS (s : Nat) (l : List UInt8) (t : List Sx) (A : World) : Prop := ∀ pre y, t = pre ++ [y] → t.map Sx.pr <+: scanR 0 s l ∧ A.ownsRow 0 5 1 y.v y.d.length (y.d.map byteVal)

set_option maxRecDepth 20000 in
set_option maxHeartbeats 4000000 in
theorem scan1_sep (n0 : Nat) (hn0 : 3 ≤ n0) (base sb ob s : Nat) (v : Value) (l : List UInt8) (hs : s < 4294967296) (hlen : l.length ≤ 1000000) :
    SeqSepV Fence.wide n0 Try.prog 26 #[.pointer (some ⟨sb, 0, none⟩), .pointer (some ⟨ob, 0, none⟩)] (fun x : Sx => #[.int .i64 (x.p : Int), .agg #[.int .u8 (x.k.toNat : Int), x.v]]) (fun x => foot x.v) (footSc sb ob v) (VS s l) (fun xs => xs.map Sx.pr = scanR 0 s l) (fun pre => pre.map Sx.pr <+: scanR 0 s l)
      (fun W => Sc W base sb ob s v l) := by
  intro lp J Jx W hN hJ hJx hY h0
  obtain ⟨ao, cap, rfl, hal, -⟩ := owns_slb hN.row
  have c0 := hN.seed
  have c1 := hN.box
  have HN := Lib.hid hN
  have HJ := Lib.hid hJ
  have HJX := Lib.hid hJx
  have HY := Lib.hid hY
  have H0 := Lib.hid h0
  obtain ⟨L, hL⟩ : ∃ L, l.length = L := ⟨_, rfl⟩
  have HL := Lib.hid hL
  rw [hL] at hlen c1 HN HY
  clear hN hJ hJx hY h0 hL hal
  refine callsIn_of_wp Try.func26 rfl trivial ?_ rfl
  simp only [Try.ntmps26, List.size_toArray, List.length_cons, List.length_nil, Nat.reduceAdd, Nat.reduceSub, Array.replicate_succ, Array.replicate_zero, List.push_toArray, List.append_toArray, List.nil_append, List.cons_append]
  gi_wp2
  gi_loopw [4, 5] (fun sd j wr => ∃ (q t : Nat) (pre : List Sx), q ≤ L ∧ t < 4294967296 ∧ sd = .int .u32 (t : Int) ∧ j = .int .i64 (q : Int) ∧ scanR 0 s l = pre.map Sx.pr ++ scanR q t (l.drop q) ∧ J pre wr [] ∧ Sc wr base sb ob s (.slice ao L cap) l) (fun _ j _ => L - (intOf j).toNat)
  case atStart => exact ⟨0, s, [], Nat.zero_le _, hs, rfl, rfl, by simp, H0.out, HN.out⟩
  case round =>
    obtain ⟨q, t, pre, hq, ht, rfl, rfl, hsc, hJr, hSr⟩ := hrel
    have x1 := hSr.box
    have HR := Lib.hid (And.intro hsc (And.intro hJr hSr))
    clear hsc hJr c0 c1 H0
    by_cases hlt : q < L
    · have hLl := HL.out
      obtain ⟨ao2, cap2, hv2, -, hsl, -⟩ := owns_slb hSr.row
      rw [hLl] at hv2
      cases hv2
      obtain ⟨a2, hcut, hsl2, hbk2⟩ := hsl.cutLow (P := Try.prog) 23 5 Try.underlying23 Try.sizeB q (by omega)
      rw [hLl] at hcut
      have HC := Lib.hid (next_any t a2 (cap - q) (l.drop q) wr ht hsl2 (by rw [List.length_drop]; omega))
      have hdl : (l.drop q).length = L - q := by rw [List.length_drop, hLl]
      have hcs := scanR_cases q t (l.drop q)
      have hbd := fun (k : UInt8) (d : List UInt8) (n t' : Nat) (h : nextR t (l.drop q) = .ok k d n t') => nextR_ok h
      have hdd := fun (n : Nat) => (List.drop_drop : (l.drop q).drop n = l.drop (q + n))
      obtain ⟨D, hD⟩ : ∃ D, l.drop q = D := ⟨_, rfl⟩
      rw [hD] at hcut HC hdl hcs hbd hdd
      have HD := Lib.hid hD
      have HDL := Lib.hid hdl
      have p0 : (0 : Int) ≤ (q : Int) := by omega
      have p1 : (q : Int) < (L : Int) := by omega
      have p2 : q ≤ L := by omega
      have hw0 := World.size_alloc wr (.cells #[.int .u8 0, .slice none 0 0] 25)
      clear hsl hsl2 hbk2 hD hLl hdl hSr hw0
      rcases hcs with ⟨e0, he0, hsc0, -⟩ | ⟨k, d, n, t2, he0, hsc0, -⟩
      · have pe : (e0 == 0) = false := by simpa using nextR_bad he0
        have pn : (e0 != 0) = true := by rw [bne_iff_ne]; exact nextR_bad he0
        rw [he0] at HC
        have HF := Lib.hid hsc0
        clear he0 hsc0 hbd hdd
        gi_wp2
        refine ⟨trivial, fun _ => by omega, (callsIn_wide.2 HC.out).mono ?_⟩
        rintro e w1 ⟨rfl, hs1⟩
        have hs2 : Step [] wr (w1.alloc (.cells #[.int .u8 0, .slice none 0 0] 25)) := hs1.alloc _
        have HF1 := Lib.hid (HJ.out pre wr _ [] [] HR.out.2.1 hs2 (fun k hk => absurd hk List.not_mem_nil) (fun k hk => absurd hk List.not_mem_nil))
        clear hs1 hs2
        gi_wp2
        rename_i hK xx hh ww heq
        refine ⟨fun _ hf => (by cases hf), hK _ _ ?_⟩
        clear heq
        gi_wp2

        refine bodyPost_ret (results_none rfl _ _ _) rfl ?_
        refine ⟨⟨_, rfl⟩, .inl ⟨pre, [], ?_, HF1.out⟩⟩
        have h1 := HR.out.1
        rw [HD.out, HF.out, List.append_nil] at h1
        exact h1.symm
      · obtain ⟨hn0', hnl, ht2⟩ := hbd k d n t2 he0
        rw [he0] at HC
        rw [hdd n] at hsc0
        have hqn : q + n ≤ L := by have := HDL.out; omega
        have HF := Lib.hid hsc0
        have e1 : IntKind.i64.wrap ((q : Int) + (n : Int)) = (q : Int) + (n : Int) := by rw [IntKind.wrap_i64]; omega
        clear he0 hsc0 hbd hdd
        gi_wp2
        refine ⟨trivial, fun _ => by omega, (callsIn_wide.2 HC.out).mono ?_⟩
        rintro e w1 ⟨⟨v, rfl, ho⟩, hs1⟩
        have hs2 : Step [] wr (w1.alloc (.cells #[.int .u8 (k.toNat : Int), v] 25)) := hs1.alloc _
        have ho2 := owns_step ho ((Step.refl [] w1).alloc (.cells #[.int .u8 (k.toNat : Int), v] 25)) (by simp)
        have hpre : (pre ++ [(⟨q, k, d, v⟩ : Sx)]).map Sx.pr <+: scanR 0 s l := by
          have h1 := HR.out.1
          rw [HD.out, HF.out] at h1
          rw [h1, List.map_append]
          exact (List.prefix_append_right_inj _).2 ⟨_, rfl⟩
        obtain ⟨fn, tmps, asg, bd, hy, hrr⟩ := HY.out pre (⟨q, k, d, v⟩ : Sx) _ [] (HJ.out pre wr _ [] (foot v ++ []) HR.out.2.1 hs2 (fun x hx => .inr (owns_base ho x (by simpa using hx))) (fun x hx => owns_live ho2 x (by simpa using hx)))
          (fun p y he => by
            obtain ⟨h1, h2⟩ := List.append_inj' he rfl
            simp only [List.cons.injEq, and_true] at h2
            subst h2
            exact ⟨hpre, owns_low ho2 (Nat.zero_le _)⟩)
          (fun x hx hm => by
            have h1 := owns_base ho x hx
            have h2 := HR.out.2.2.live x (by simpa using hm)
            omega)
        dsimp only at hy
        have HRR := Lib.hid hrr
        have hSc2 := HR.out.2.2.step hs2 (fun k _ => List.not_mem_nil)
        have y1 := hSc2.box
        have HS2 := Lib.hid (And.intro hSc2 hpre)
        obtain ⟨gv, cv, rfl, -⟩ := owns_bytes ho
        clear hrr hs1 hs2 ho ho2 hpre hSc2 x1
        gi_wp2
        refine ⟨fun _ => by omega, HRR.out.mono ?_⟩
        rintro e B (⟨rfl, hj3, H3, s3, d3⟩ | ⟨rfl, hj3, _⟩)
        · have HG := Lib.hid (And.intro hj3 (HS2.out.1.step s3 (fun k hk => d3 k (List.mem_append_left _ hk))))
          clear hj3 s3 d3
          gi_wp2
          go_roundw
          case rel =>
            refine ⟨q + n, t2, pre ++ [⟨q, k, d, .slice gv d.length cv⟩], hqn, by omega, rfl, by go_num, ?_, HG.out.1, HG.out.2⟩
            have h1 := HR.out.1
            rw [HD.out, HF.out] at h1
            rw [h1, List.map_append, List.append_assoc]
            rfl
          case measure => simp [intOf]; omega
        · have HG := Lib.hid hj3
          clear hj3
          gi_wp2
          refine bodyPost_ret (results_none rfl _ _ _) rfl ?_
          exact ⟨⟨_, rfl⟩, .inr ⟨_, _, HS2.out.2, HG.out⟩⟩
    · obtain rfl : q = L := by omega
      have p1 : ¬ (q : Int) < (q : Int) := by omega
      clear hSr
      gi_wp2
      go_end0
      refine ⟨⟨_, rfl⟩, .inl ⟨pre, ?_, _, HR.out.2.1⟩⟩
      have h1 := HR.out.1
      have h2 : l.drop q = [] := List.drop_eq_nil_of_le (by rw [HL.out]; exact Nat.le_refl _)
      rw [h2, scanR_bad (nextR_nil t), List.append_nil] at h1
      exact h1.symm
end Go.Proofs.Ytkogchmnpffiaaa
