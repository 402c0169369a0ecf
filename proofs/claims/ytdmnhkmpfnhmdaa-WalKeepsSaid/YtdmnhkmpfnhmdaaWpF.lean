/- Several texts in one: ScanC, WalS, WalE, WalL, WalT, WalU, WalV, WalX, WalLv. -/
import Derived.Test.YtdmnhkmpfnhmdaaWpE
import Derived.Test.YtdmnhkmpfnhmdaaWpC
import Derived.RangeFuncBound
import Derived.Shelf.Abstract
import Derived.OwnWalkIn
import Derived.TacticsInMore
import Derived.LoopNIn
import Derived.LoopIn
import Derived.Test.YtdmnhkmpfnhmdaaWpD
import Derived.BigQuiet
import Derived.Lib.SlBytesConst
section
namespace Go.Proofs.Ytdmnhkmpfnhmdaa
set_option linter.unusedVariables false
set_option linter.unusedSimpArgs false
open Go.RowKit Go.Shelf
attribute [local go_sem] Oper.semAt_some

/-- what Scan's iterator keeps: the seed's box, the box of its own bytes, these -/
structure Sc (w : World) (base sb ob s : Nat) (v : Value) (l : List UInt8) : Prop where
  seed : w.cell? ⟨sb, 0, none⟩ = some (.int .u32 (s : Int))
  box : w.cell? ⟨ob, 0, none⟩ = some v
  row : w.ownsRow base 5 1 v l.length (l.map byteVal)
def footSc (sb ob : Nat) (v : Value) : List Nat := sb :: ob :: foot v
theorem Sc.step {H : List Nat} {w w' : World} {base sb ob s : Nat} {v : Value} {l : List UInt8} (h : Sc w base sb ob s v l) (hs : Step H w w') (hd : ∀ k, k ∈ footSc sb ob v → k ∉ H) : Sc w' base sb ob s v l :=
  ⟨(hs.cell (World.block_lt_of_cell? w _ h.seed) (hd sb (by simp [footSc]))).trans h.seed, (hs.cell (World.block_lt_of_cell? w _ h.box) (hd ob (by simp [footSc]))).trans h.box, owns_step h.row hs (fun k hk => hd k (by simp [footSc, hk]))⟩
theorem Sc.live {w : World} {base sb ob s : Nat} {v : Value} {l : List UInt8} (h : Sc w base sb ob s v l) : Live w (footSc sb ob v) := fun k hk => by
  simp only [footSc, List.mem_cons] at hk
  rcases hk with rfl | rfl | hk
  · exact World.block_lt_of_cell? w _ h.seed
  · exact World.block_lt_of_cell? w _ h.box
  · exact owns_live h.row k hk

def ScanPost (s : Nat) (l : List UInt8) (w : World) (e : Ending) (w' : World) : Prop :=
  ∃ sb ob v, e = .returned (.func (.func 54) #[] #[.pointer (some ⟨sb, 0, none⟩), .pointer (some ⟨ob, 0, none⟩)]) ∧ Sc w' w.heap.size sb ob s v l ∧ (∀ k, k ∈ footSc sb ob v → w.heap.size ≤ k) ∧ Step [] w w'

set_option maxHeartbeats 1000000 in
theorem scan_any (s : Nat) (a : Option Addr) (cap : Nat) (l : List UInt8) (w : World) (hn : a = none → l.length = 0 ∧ cap = 0) (hB : Bytes w a l) (hlen : l.length ≤ 1000000) :
    Calls Try.prog 47 #[.int .u32 (s : Int), .slice a l.length cap] w (ScanPost s l w) := by
  have hs0 := (Step.refl [] w).alloc (.cells #[.int .u32 (s : Int)] 67)
  have hb0 := Blk.new w #[.int .u32 (s : Int)] 67
  have HC := Lib.hid (clone_bytes a cap l (w.alloc (.cells #[.int .u32 (s : Int)] 67)) hn (hB.step hs0 (by simp)) (by omega))
  have H0 := Lib.hid (And.intro hs0 hb0)
  clear hs0 hb0 hn hB
  obtain ⟨N, hN⟩ : ∃ N, l.length = N := ⟨_, rfl⟩
  have HN := Lib.hid hN
  rw [hN] at hlen HC ⊢
  clear hN
  go_enter Try.func47, Try.ntmps47
  go_wp2_with fail
  refine HC.out.mono ?_
  rintro e w1 ⟨v, rfl, ho, hs1⟩
  have hs := H0.out.1.then hs1 (by simp)
  have hb1 := H0.out.2.step hs1 (by simp)
  have h1 := Lib.hid (And.intro hs (And.intro hb1 ho))
  rw [HN.out] at ho
  obtain ⟨g, c, rfl, -⟩ := owns_bytes ho
  clear hs1 hs hb1 ho HC
  go_wp2_with fail
  go_ret
  obtain ⟨hs, hb, ho⟩ := h1.out
  have hsz := hs.size
  have hs2 : Step [] w1 (w1.alloc (.cells #[.slice g N c] 32)) := (Step.refl [] w1).alloc _
  have hb2 := (Blk.new w1 #[.slice g N c] 32).cell 0
  have hb3 := (hb.step hs2 (by simp)).cell 0
  simp only [List.getElem?_toArray, List.getElem?_cons_zero] at hb2 hb3
  refine ⟨w.heap.size, w1.heap.size, .slice g N c, rfl, ⟨hb3, hb2, ?_⟩, fun k hk => ?_, hs.then hs2 (by simp)⟩
  · exact owns_low (owns_step ho hs2 (by simp)) (by rw [World.size_alloc]; omega)
  · simp only [footSc, List.mem_cons] at hk
    rcases hk with rfl | rfl | hk
    · exact Nat.le_refl _
    · exact hsz
    · have := owns_base ho k hk
      rw [World.size_alloc] at this
      omega

/-- what is handed over: where it begins, the kind, the data, their slice -/
structure Sx where
  p : Nat
  k : UInt8
  d : List UInt8
  v : Value
def Sx.pr (x : Sx) : Nat × UInt8 × List UInt8 := (x.p, x.k, x.d)
/-- what was told so far is a beginning; the last one's data are there -/
def VS (s : Nat) (l : List UInt8) (t : List Sx) (A : World) : Prop := ∀ pre y, t = pre ++ [y] → t.map Sx.pr <+: scanR 0 s l ∧ A.ownsRow 0 5 1 y.v y.d.length (y.d.map byteVal)

set_option maxRecDepth 20000 in
set_option maxHeartbeats 4000000 in
theorem scan1_sep (n0 : Nat) (hn0 : 3 ≤ n0) (base sb ob s : Nat) (v : Value) (l : List UInt8) (hs : s < 4294967296) (hlen : l.length ≤ 1000000) :
    SeqSepV Fence.wide n0 Try.prog 54 #[.pointer (some ⟨sb, 0, none⟩), .pointer (some ⟨ob, 0, none⟩)] (fun x : Sx => #[.int .i64 (x.p : Int), .agg #[.int .u8 (x.k.toNat : Int), x.v]]) (fun x => foot x.v) (footSc sb ob v) (VS s l) (fun xs => xs.map Sx.pr = scanR 0 s l) (fun pre => pre.map Sx.pr <+: scanR 0 s l)
      (fun W => Sc W base sb ob s v l) := by
  intro lp J Jx W hN hJ hJx hY h0
  obtain ⟨ao, cap, rfl, hal, -⟩ := owns_slb hN.row
  have c0 := hN.seed
  have c1 := hN.box
  have HN := Lib.hid hN
  have HJ := Lib.hid hJ
  have HJX := Lib.hid hJx
  have HY := Lib.hid hY
  have H0 := Lib.hid h0
  obtain ⟨L, hL⟩ : ∃ L, l.length = L := ⟨_, rfl⟩
  have HL := Lib.hid hL
  rw [hL] at hlen c1 HN HY
  clear hN hJ hJx hY h0 hL hal
  refine callsIn_of_wp Try.func54 rfl trivial ?_ rfl
  simp only [Try.ntmps54, List.size_toArray, List.length_cons, List.length_nil, Nat.reduceAdd, Nat.reduceSub, Array.replicate_succ, Array.replicate_zero, List.push_toArray, List.append_toArray, List.nil_append, List.cons_append]
  gi_wp2
  gi_loopw [4, 5] (fun sd j wr => ∃ (q t : Nat) (pre : List Sx), q ≤ L ∧ t < 4294967296 ∧ sd = .int .u32 (t : Int) ∧ j = .int .i64 (q : Int) ∧ scanR 0 s l = pre.map Sx.pr ++ scanR q t (l.drop q) ∧ J pre wr [] ∧ Sc wr base sb ob s (.slice ao L cap) l) (fun _ j _ => L - (intOf j).toNat)
  case atStart => exact ⟨0, s, [], Nat.zero_le _, hs, rfl, rfl, by simp, H0.out, HN.out⟩
  case round =>
    obtain ⟨q, t, pre, hq, ht, rfl, rfl, hsc, hJr, hSr⟩ := hrel
    have x1 := hSr.box
    have HR := Lib.hid (And.intro hsc (And.intro hJr hSr))
    clear hsc hJr c0 c1 H0
    by_cases hlt : q < L
    · have hLl := HL.out
      obtain ⟨ao2, cap2, hv2, -, hsl, -⟩ := owns_slb hSr.row
      rw [hLl] at hv2
      cases hv2
      obtain ⟨a2, hcut, hsl2, hbk2⟩ := hsl.cutLow (P := Try.prog) 32 5 Try.underlying32 Try.sizeB q (by omega)
      rw [hLl] at hcut
      have HC := Lib.hid (next_any t a2 (cap - q) (l.drop q) wr ht hsl2 (by rw [List.length_drop]; omega))
      have hdl : (l.drop q).length = L - q := by rw [List.length_drop, hLl]
      have hcs := scanR_cases q t (l.drop q)
      have hbd := fun (k : UInt8) (d : List UInt8) (n t' : Nat) (h : nextR t (l.drop q) = .ok k d n t') => nextR_ok h
      have hdd := fun (n : Nat) => (List.drop_drop : (l.drop q).drop n = l.drop (q + n))
      obtain ⟨D, hD⟩ : ∃ D, l.drop q = D := ⟨_, rfl⟩
      rw [hD] at hcut HC hdl hcs hbd hdd
      have HD := Lib.hid hD
      have HDL := Lib.hid hdl
      have p0 : (0 : Int) ≤ (q : Int) := by omega
      have p1 : (q : Int) < (L : Int) := by omega
      have p2 : q ≤ L := by omega
      have hw0 := World.size_alloc wr (.cells #[.int .u8 0, .slice none 0 0] 34)
      clear hsl hsl2 hbk2 hD hLl hdl hSr hw0
      rcases hcs with ⟨e0, he0, hsc0, -⟩ | ⟨k, d, n, t2, he0, hsc0, -⟩
      · have pe : (e0 == 0) = false := by simpa using nextR_bad he0
        have pn : (e0 != 0) = true := by rw [bne_iff_ne]; exact nextR_bad he0
        rw [he0] at HC
        have HF := Lib.hid hsc0
        clear he0 hsc0 hbd hdd
        gi_wp2
        refine ⟨trivial, fun _ => by omega, (callsIn_wide.2 HC.out).mono ?_⟩
        rintro e w1 ⟨rfl, hs1⟩
        have hs2 : Step [] wr (w1.alloc (.cells #[.int .u8 0, .slice none 0 0] 34)) := hs1.alloc _
        have HF1 := Lib.hid (HJ.out pre wr _ [] [] HR.out.2.1 hs2 (fun k hk => absurd hk List.not_mem_nil) (fun k hk => absurd hk List.not_mem_nil))
        clear hs1 hs2
        gi_wp2
        rename_i hK xx hh ww heq
        refine ⟨fun _ hf => (by cases hf), hK _ _ ?_⟩
        clear heq
        gi_wp2

        refine bodyPost_ret (results_none rfl _ _ _) rfl ?_
        refine ⟨⟨_, rfl⟩, .inl ⟨pre, [], ?_, HF1.out⟩⟩
        have h1 := HR.out.1
        rw [HD.out, HF.out, List.append_nil] at h1
        exact h1.symm
      · obtain ⟨hn0', hnl, ht2⟩ := hbd k d n t2 he0
        rw [he0] at HC
        rw [hdd n] at hsc0
        have hqn : q + n ≤ L := by have := HDL.out; omega
        have HF := Lib.hid hsc0
        have e1 : IntKind.i64.wrap ((q : Int) + (n : Int)) = (q : Int) + (n : Int) := by rw [IntKind.wrap_i64]; omega
        clear he0 hsc0 hbd hdd
        gi_wp2
        refine ⟨trivial, fun _ => by omega, (callsIn_wide.2 HC.out).mono ?_⟩
        rintro e w1 ⟨⟨v, rfl, ho⟩, hs1⟩
        have hs2 : Step [] wr (w1.alloc (.cells #[.int .u8 (k.toNat : Int), v] 34)) := hs1.alloc _
        have ho2 := owns_step ho ((Step.refl [] w1).alloc (.cells #[.int .u8 (k.toNat : Int), v] 34)) (by simp)
        have hpre : (pre ++ [(⟨q, k, d, v⟩ : Sx)]).map Sx.pr <+: scanR 0 s l := by
          have h1 := HR.out.1
          rw [HD.out, HF.out] at h1
          rw [h1, List.map_append]
          exact (List.prefix_append_right_inj _).2 ⟨_, rfl⟩
        obtain ⟨fn, tmps, asg, bd, hy, hrr⟩ := HY.out pre (⟨q, k, d, v⟩ : Sx) _ [] (HJ.out pre wr _ [] (foot v ++ []) HR.out.2.1 hs2 (fun x hx => .inr (owns_base ho x (by simpa using hx))) (fun x hx => owns_live ho2 x (by simpa using hx)))
          (fun p y he => by
            obtain ⟨h1, h2⟩ := List.append_inj' he rfl
            simp only [List.cons.injEq, and_true] at h2
            subst h2
            exact ⟨hpre, owns_low ho2 (Nat.zero_le _)⟩)
          (fun x hx hm => by
            have h1 := owns_base ho x hx
            have h2 := HR.out.2.2.live x (by simpa using hm)
            omega)
        dsimp only at hy
        have HRR := Lib.hid hrr
        have hSc2 := HR.out.2.2.step hs2 (fun k _ => List.not_mem_nil)
        have y1 := hSc2.box
        have HS2 := Lib.hid (And.intro hSc2 hpre)
        obtain ⟨gv, cv, rfl, -⟩ := owns_bytes ho
        clear hrr hs1 hs2 ho ho2 hpre hSc2 x1
        gi_wp2
        refine ⟨fun _ => by omega, HRR.out.mono ?_⟩
        rintro e B (⟨rfl, hj3, H3, s3, d3⟩ | ⟨rfl, hj3, _⟩)
        · have HG := Lib.hid (And.intro hj3 (HS2.out.1.step s3 (fun k hk => d3 k (List.mem_append_left _ hk))))
          clear hj3 s3 d3
          gi_wp2
          go_roundw
          case rel =>
            refine ⟨q + n, t2, pre ++ [⟨q, k, d, .slice gv d.length cv⟩], hqn, by omega, rfl, by go_num, ?_, HG.out.1, HG.out.2⟩
            have h1 := HR.out.1
            rw [HD.out, HF.out] at h1
            rw [h1, List.map_append, List.append_assoc]
            rfl
          case measure => simp [intOf]; omega
        · have HG := Lib.hid hj3
          clear hj3
          gi_wp2
          refine bodyPost_ret (results_none rfl _ _ _) rfl ?_
          exact ⟨⟨_, rfl⟩, .inr ⟨_, _, HS2.out.2, HG.out⟩⟩
    · obtain rfl : q = L := by omega
      have p1 : ¬ (q : Int) < (q : Int) := by omega
      clear hSr
      gi_wp2
      go_end0
      refine ⟨⟨_, rfl⟩, .inl ⟨pre, ?_, _, HR.out.2.1⟩⟩
      have h1 := HR.out.1
      have h2 : l.drop q = [] := List.drop_eq_nil_of_le (by rw [HL.out]; exact Nat.le_refl _)
      rw [h2, scanR_bad (nextR_nil t), List.append_nil] at h1
      exact h1.symm
end Go.Proofs.Ytdmnhkmpfnhmdaa
end

section
namespace Go.Proofs.Ytdmnhkmpfnhmdaa
set_option linter.unusedVariables false
open Go.RowKit
attribute [local go_sem] Oper.semAt_some

theorem lit35 (f : Nat → Value) : litN 35 f = #[f 0, f 1, f 2, f 3, f 4, f 5, f 6, f 7, f 8, f 9, f 10, f 11, f 12, f 13, f 14, f 15, f 16, f 17, f 18, f 19, f 20, f 21, f 22, f 23, f 24, f 25, f 26, f 27, f 28, f 29, f 30, f 31, f 32, f 33, f 34] := by rfl
theorem halfF_len (t : Nat) : ∀ (L : List (List UInt8)), (halfF t L).length ≤ 55 * L.length
  | [] => Nat.zero_le _
  | s :: r => by
    have h := halfF_len t r
    unfold halfF
    split
    · rw [List.length_append, List.length_take, List.length_cons]
      split
      · simp only [List.length_nil]
        omega
      · omega
    · exact Nat.zero_le _
theorem halfB_len (L : List (List UInt8)) : (halfB L).length ≤ 55 * L.length := by
  unfold halfB
  split
  · exact halfF_len _ _
  · exact Nat.zero_le _
/-- what is told of a half -/
def toldR (L : List (List UInt8)) : List (UInt8 × List UInt8) := (scanR 0 0 (halfB L)).map (·.2)
def isSeal (x : UInt8 × List UInt8) : Bool := x.1 == 255
def recsR (l : List (UInt8 × List UInt8)) : List (UInt8 × List UInt8) := l.eraseP isSeal

theorem recsR_seal {l : List (UInt8 × List UInt8)} {x : UInt8 × List UInt8} (h : l.any isSeal = false) (hx : isSeal x = true) : recsR (l ++ [x]) = recsR l ∧ (l ++ [x]).any isSeal = true := by
  have h2 : ∀ y ∈ l, ¬ isSeal y = true := fun y hy hc => by
    have : l.any isSeal = true := List.any_eq_true.2 ⟨y, hy, hc⟩
    rw [h] at this
    cases this
  unfold recsR
  refine ⟨?_, by simp [hx]⟩
  rw [List.eraseP_append_right [x] h2, List.eraseP_of_forall_not h2]
  simp [hx]
theorem recsR_more {l : List (UInt8 × List UInt8)} {x : UInt8 × List UInt8} (h : l.any isSeal = true ∨ isSeal x = false) : recsR (l ++ [x]) = recsR l ++ [x] ∧ (l ++ [x]).any isSeal = l.any isSeal := by
  unfold recsR
  cases hl : l.any isSeal with
  | true =>
    obtain ⟨y, hy, hc⟩ := List.any_eq_true.1 hl
    exact ⟨List.eraseP_append_left hc _ hy, by simp [hl]⟩
  | false =>
    have hx : isSeal x = false := h.elim (fun h => by rw [hl] at h; cases h) id
    have h2 : ∀ y ∈ l, ¬ isSeal y = true := fun y hy hc => by
      have : l.any isSeal = true := List.any_eq_true.2 ⟨y, hy, hc⟩
      rw [hl] at this
      cases this
    refine ⟨?_, by simp [hl, hx]⟩
    rw [List.eraseP_append_right [x] h2, List.eraseP_of_forall_not h2]
    simp [hx]
theorem scanF_len : ∀ (f p s : Nat) (l : List UInt8), (scanF f p s l).length ≤ l.length
  | 0, _, _, _ => Nat.zero_le _
  | f + 1, p, s, l => by
    unfold scanF
    cases hn : nextR s l with
    | bad e => exact Nat.zero_le _
    | ok k d n t =>
      obtain ⟨h0, h1, -⟩ := nextR_ok hn
      have := scanF_len f (p + n) t (l.drop n)
      simp only [List.length_cons]
      rw [List.length_drop] at this
      omega
theorem scanR_len (p s : Nat) (l : List UInt8) : (scanR p s l).length ≤ l.length := scanF_len _ p s l
theorem foot_len (a : Option Addr) (n c : Nat) : foot (.slice a n c) = footA a := by
  cases a <;> rfl
theorem rowR_snoc (l : List Rr) (k : UInt8) (a : Option Addr) (c : Nat) (d : List UInt8) : rowR (l ++ [⟨k, a, c, d⟩]) = rowR l ++ [.int .u8 (k.toNat : Int), .slice a d.length c] := by simp [rowR, Rr.sl]
theorem new_cells (w : World) (l : List Value) (T : TypeId) : ∀ j u, l[j]? = some u → (w.alloc (.cells l.toArray T)).cell? ((⟨w.heap.size, 0, none⟩ : Addr).add j) = some u := fun j u hu => by
  rw [add_plain, Nat.zero_add, (Blk.new w l.toArray T).cell j]
  simpa using hu
/-- append in a round, to a row of one's own -/
theorem wpListIn_append_sep {F : Fence} {n : Nat} {P : Program} (w : World) {ops : Array Oper} {rest : List Oper} {o : Oper} {a : Act} {Q : Exit → Act → World → Prop}
    (hg : o.guard = none) (s x : Operand) (t : TypeId) (hop : o.op = Op.call { callee := Callee.builtin Builtin.append, args := #[s, x], argTypes := #[t, t] })
    (base : Nat) (e : TypeId) (i : TypeInfo) (z : Value) (size bytes : Nat) (h1 : P.underlying t = some (.slice e)) (h2 : P.info? e = some i) (h3 : i.zero = some z) (h4 : i.size = size) (h5 : i.bytes = bytes) (h6 : z.cells.size = size) (h7 : 0 < size)
    (v : Value) (k : Nat) (xs : List Value) (hs : a.eval s = v) (hown : w.ownsRow base e size v k xs) (ad : Addr) (m c : Nat) (news : List Value) (hx : a.eval x = .slice (some ad) m c) (hn : news.length = m * size)
    (hc : ∀ j u, news[j]? = some u → w.cell? (ad.add j) = some u) (h1c : ∀ u ∈ news, u.oneCell' = true) (b1 : k + m ≤ maxLen) (b2 : (k + m) * bytes ≤ 140737488355328) (b3 : base ≤ w.heap.size)
    (hK : ∀ v' w', w'.ownsRow base e size v' (k + m) (xs ++ news) → Step (foot v) w w' → Fresh w (foot v) (foot v') → wpListIn F n P ops Q rest (a.put o.dst v') w') :
    wpListIn F n P ops Q (o :: rest) a w := by
  refine wpListIn_plain hg fun K hK' => ?_
  obtain ⟨v', w', hrun, r2, r3, _, r5⟩ := run_append_own_at (P := P) w base t o.type e i z size bytes h1 h2 h3 h4 h5 h6 h7 v k xs hown ad m c news hn hc h1c b1 b2 b3
  unfold Oper.wpIn
  refine ⟨?_, ?_⟩
  · simp [Oper.about, hop, resolve, Target.leads, Sem.run_pure]
  · rw [Oper.semAt_plain F _ _ (by rw [hop]; intro c hc'; cases hc')]
    simp [execOp, hop, resolve, invoke, builtin, hs, hx, hrun, Result.andThen]
    refine hK' _ _ (hK v' w' r2 ((Step.refl _ _).grown r3 (fun k hk => .inl (mem_foot.2 hk))) (fun k hk => ?_))
    rcases r5 with r5 | r5
    · exact .inl (by unfold foot; rw [← r5]; exact hk)
    · right
      have := mem_foot.1 hk
      rw [r5] at this
      cases this
      exact Nat.le_refl _
theorem Step.offF {F R H : List Nat} {n : Nat} {w A B : World} (h : Step F w A) (hs : Step H A B) (hd : Dj (offR R n) H) (hR : ∀ k, k ∈ R → k ∈ F) (hn : w.heap.size ≤ n) : Step F w B :=
  h.then hs (fun k hk => by
    by_cases hkR : k ∈ R
    · exact .inl (hR k hkR)
    · rcases Nat.lt_or_ge k n with hlt | hge
      · exact absurd hk (hd k (mem_offR.2 ⟨hlt, hkR⟩))
      · exact .inr (by omega))
theorem isSeal_iff (k : UInt8) (d : List UInt8) : isSeal (k, d) = decide (k.toNat = 255) := by
  unfold isSeal
  rw [Bool.eq_iff_iff]
  simp only [beq_iff_eq, decide_eq_true_eq]
  constructor
  · rintro h
    rw [h]
    rfl
  · intro h
    exact UInt8.toNat_inj.1 h
def Sx.rr (x : Sx) : UInt8 × List UInt8 := (x.k, x.d)
/-- what look keeps: the box of its half, the row of its records, their data -/
def LkC (R : List Nat) (n5 : Nat) (hv : Value) (rl : List Rr) : List Nat := offR R n5 ++ (foot hv ++ rl.flatMap fun x => footA x.a)
def LkI (w5 : World) (hb T : Nat) (R : List Nat) (xs : List Sx) (A : World) (C : List Nat) : Prop :=
  ∃ hv rl, C = LkC R w5.heap.size hv rl ∧ Step (hb :: R) w5 A ∧ Blk A hb #[.int .u64 (T : Int), hv, .bool ((xs.map Sx.rr).any isSeal)] 77 ∧ A.ownsRow w5.heap.size 34 2 hv rl.length (rowR rl)
    ∧ (∀ x ∈ rl, RecIn A x.a x.c x.d ∧ ∀ k, k ∈ footA x.a → k < A.heap.size ∧ w5.heap.size ≤ k ∧ k ∉ foot hv) ∧ rl.map Rr.pr = recsR (xs.map Sx.rr)
theorem foot_sub {C : List Nat} {R : List Nat} {n5 : Nat} {hv : Value} {rl : List Rr} {H : List Nat} (hC : C = LkC R n5 hv rl) (hd : Dj C H) : Dj (offR R n5) H ∧ (∀ k, k ∈ foot hv → k ∉ H) ∧ ∀ x ∈ rl, ∀ k, k ∈ footA x.a → k ∉ H := by
  subst hC
  refine ⟨fun k hk => hd k (List.mem_append_left _ hk), fun k hk => hd k (List.mem_append_right _ (List.mem_append_left _ hk)), fun x hx k hk => hd k (List.mem_append_right _ (List.mem_append_right _ (List.mem_flatMap.2 ⟨x, hx, hk⟩)))⟩
theorem RecIn.stepA {F : List Nat} {w w' : World} {a : Option Addr} {c : Nat} {d : List UInt8} (h : RecIn w a c d) (hs : Step F w w') (hn : ∀ k, k ∈ footA a → k ∉ F) : RecIn w' a c d :=
  ⟨h.bytes.step hs (fun b off hb => hn b (mem_footA.2 ⟨off, none, hb⟩)), h.nil, h.max⟩
theorem LkI.step {w5 : World} {hb T : Nat} {R : List Nat} {xs : List Sx} {A B : World} {C H : List Nat} (h : LkI w5 hb T R xs A C) (hst : Step H A B) (hd : Dj C H) (h5 : hb < w5.heap.size) (hR : hb ∉ R) : LkI w5 hb T R xs B C := by
  obtain ⟨hv, rl, hC, h1, h2, h3, h4, h6⟩ := h
  obtain ⟨d1, d2, d3⟩ := foot_sub hC hd
  exact ⟨hv, rl, hC, h1.offF hst d1 (fun k hk => List.mem_cons_of_mem _ hk) (Nat.le_refl _), h2.step hst (d1 hb (mem_offR.2 ⟨h5, hR⟩)), owns_step h3 hst d2,
    fun x hx => ⟨(h4 x hx).1.stepA hst (d3 x hx), fun k hk => ⟨Nat.lt_of_lt_of_le ((h4 x hx).2 k hk).1 hst.size, ((h4 x hx).2 k hk).2⟩⟩, h6⟩
theorem LkI.live {w5 : World} {hb T : Nat} {R : List Nat} {xs : List Sx} {A : World} {C : List Nat} (h : LkI w5 hb T R xs A C) : Live A C := by
  obtain ⟨hv, rl, hC, h1, h2, h3, h4, h6⟩ := h
  subst hC
  intro k hk
  rcases List.mem_append.1 hk with hk | hk
  · exact Nat.lt_of_lt_of_le (mem_offR.1 hk).1 h1.size
  · rcases List.mem_append.1 hk with hk | hk
    · exact owns_live h3 k hk
    · obtain ⟨x, hx, hk⟩ := List.mem_flatMap.1 hk
      exact ((h4 x hx).2 k hk).1
theorem LkI.dj {w5 : World} {hb T : Nat} {R : List Nat} {xs : List Sx} {A : World} {C : List Nat} (h : LkI w5 hb T R xs A C) (hR : Live w5 R) : Dj R C := by
  obtain ⟨hv, rl, hC, h1, h2, h3, h4, h6⟩ := h
  subst hC
  intro k hk hm
  have hlt := hR k hk
  rcases List.mem_append.1 hm with hm | hm
  · exact (mem_offR.1 hm).2 hk
  · rcases List.mem_append.1 hm with hm | hm
    · have := owns_base h3 k hm
      omega
    · obtain ⟨x, hx, hm⟩ := List.mem_flatMap.1 hm
      have := ((h4 x hx).2 k hm).2.1
      omega

theorem leave_look {wr : World} {b D : Nat} {U : TypeId} {tmps : Array Value} {Q : Ending → World → Prop} {x0 : Int} {a1 : Option Addr} {n1 c1 : Nat} {x2 : Bool} (hb : Blk wr b #[.int .u64 x0, .slice a1 n1 c1, .bool x2] U) (hm : wr.heap[D]? = some (.deferred (some []))) (hD : D ≠ b)
    (h2 : tmps[2]?.getD undef = .pointer (some ⟨b, 0, none⟩)) (hQ : ∀ w', Step [D] wr w' → Q (.returned (.agg #[.int .u64 x0, .slice a1 n1 c1, .bool x2])) w') :
    LeavesInM Fence.wide 3 Try.prog Try.f34 tmps Q [{ target := .collected D, args := #[] }] .returning wr := by
  refine leaves_marks [D] wr ⟨by simp, fun k hk => by simp at hk; subst hk; exact hm⟩ (fun w' hs => ?_)
  have hb' := hb.step hs (by simp; omega)
  have k0 := hb'.cell 0
  have k1 := hb'.cell 1
  have k2 := hb'.cell 2
  simp only [List.getElem?_toArray, List.getElem?_cons_zero, List.getElem?_cons_succ] at k0 k1 k2
  refine ⟨.agg #[.int .u64 x0, .slice a1 n1 c1, .bool x2], ?_, hQ w' hs⟩
  simp [results, Try.f34, go_sem, k0, k1, k2, h2]

set_option maxRecDepth 20000 in
set_option maxHeartbeats 1000000 in
theorem look_any (L : List (List UInt8)) (a : Option Addr) (cap : Nat) (w : World) (hS : SlB w a L.flatten cap) (hL : ∀ s ∈ L, s.length = 64) (h0 : 0 < L.length) (h1 : L.length ≤ 4096) :
    Calls Try.prog 34 #[.slice a (L.length * 64) cap] w fun e w' => ∃ ra rc rl, e = .returned (.agg #[.int .u64 (halfT L : Int), .slice ra rl.length rc, .bool ((toldR L).any isSeal)]) ∧ Rcs w' ra rc rl ∧ rl.map Rr.pr = recsR (toldR L) ∧ (∀ k, k ∈ footR ra rl → w.heap.size ≤ k) ∧ Step [] w w' := by
  obtain ⟨j0, hj0, hjz, hj1, hj2⟩ := info_parts Try.infoR
  have hs0 := (Step.refl [] w).alloc (.cells #[.int .u64 0, .slice none 0 0, .bool false] 77)
  have HB := Lib.hid (half_bytes L a cap (w.alloc (.cells #[.int .u64 0, .slice none 0 0, .bool false] 77)) (hS.step hs0 (by simp)) hL h0 h1)
  have hb0 := Blk.new w #[.int .u64 0, .slice none 0 0, .bool false] 77
  have H0 := Lib.hid (And.intro hs0 hb0)
  have hlen := halfB_len L
  clear hs0 hb0 hS
  refine calls_of_wp_marks Try.func34 rfl ?_
  simp only [Try.ntmps34, List.size_toArray, List.length_cons, List.length_nil, Nat.reduceAdd, Nat.reduceSub, Array.replicate_succ, Array.replicate_zero, List.push_toArray, List.append_toArray, List.nil_append, List.cons_append]
  go_wp2_with fail
  refine HB.out.mono ?_
  rintro e w1 ⟨v, rfl, hown, hs1⟩
  obtain ⟨ac, cc, rfl, hll, hsl, -, -⟩ := owns_slb hown
  have hs1' := H0.out.1.then hs1 (by simp)
  have hb1 := H0.out.2.step hs1 (by simp)
  have HC := Lib.hid (fun W' (hs : Step [] w1 W') => scan_any 0 ac cc (halfB L) W' hsl.nil (hsl.bytes.step hs (by simp)) (by omega))
  have H1 := Lib.hid (And.intro hs1' hb1)
  clear hs1' hb1 hs1 hown hsl hll
  obtain ⟨B, hB⟩ : ∃ B, halfB L = B := ⟨_, rfl⟩
  rw [hB] at HC hlen ⊢
  obtain ⟨T, hT⟩ : ∃ T, halfT L = T := ⟨_, rfl⟩
  rw [hT] at HB ⊢
  have HT := Lib.hid hT
  have HBB := Lib.hid hB
  clear hT hB
  obtain ⟨w2, hw2⟩ : ∃ w2, w1.alloc (.cells #[.int .u64 (T : Int), .slice none 0 0, .bool false] 77) = w2 := ⟨_, rfl⟩
  have hs2 : Step [] w1 w2 := by rw [← hw2]; exact (Step.refl [] w1).alloc _
  have hb2 : Blk w2 w1.heap.size #[.int .u64 (T : Int), .slice none 0 0, .bool false] 77 := by rw [← hw2]; exact Blk.new w1 _ _
  have HC2 := Lib.hid (HC.out w2 hs2)
  have H2 := Lib.hid (And.intro hs2 hb2)
  have HW2 := Lib.hid hw2
  clear hs2 hb2 hw2
  go_wp2_with fail
  rw [HW2.out]
  refine HC2.out.mono ?_
  rintro e w5 ⟨sb, ob, sv5, rfl, hSc, hFt, hs5⟩
  obtain ⟨hbx, hhb⟩ : ∃ hbx, w1.heap.size = hbx := ⟨_, rfl⟩
  have hb5 := H2.out.2.step hs5 (by simp)
  have hlt2 := H2.out.2.lt
  have hRl := hSc.live
  have hr1 := H1.out.2.lt
  have hrb := H1.out.2.step (H2.out.1.then hs5 (by simp)) (by simp)
  have hs05 := H1.out.1.then (H2.out.1.then hs5 (by simp)) (by simp)
  obtain ⟨R, hR⟩ : ∃ R, footSc sb ob sv5 = R := ⟨_, rfl⟩
  have hsep := scan1_sep 5 (by omega) w2.heap.size sb ob 0 sv5 B (by decide) (by omega)
  have hPre : ∀ X, Step [] w5 X → Sc X w2.heap.size sb ob 0 sv5 B := fun X hX => hSc.step hX (fun k _ => by simp)
  rw [hR] at hFt hRl hsep
  rw [hhb] at hb5 hlt2 hr1 ⊢
  have hb5lt := hb5.lt
  have hbR : hbx ∉ R := fun hm => by have := hFt _ hm; omega
  have hin5 : hbx ∈ offR R w5.heap.size := mem_offR.2 ⟨hb5lt, hbR⟩
  have HP := Lib.hid (And.intro hPre (And.intro hRl (And.intro hFt hsep)))
  have H5 := Lib.hid (And.intro hb5 (And.intro hrb (And.intro hs05 (And.intro hbR hin5))))
  have hrR : w.heap.size ∉ R := fun hm => by have := hFt _ hm; omega
  have hne : w.heap.size ≠ hbx := by omega
  clear hSc hs5 hsep hPre hR hb5 hrb hs05 hin5 hFt
  go_wp2_with fail
  refine (wpIn_wide (n := 6)).1 ?_
  refine wpIn_range_sepVX (gf := 54) (lb := #[.pointer (some ⟨sb, 0, none⟩), .pointer (some ⟨ob, 0, none⟩)]) rfl (by omega) rfl trivial (enters_of Try.func54 (by kernel_rfl) rfl)
    HP.out.2.2.2 HP.out.1 (fun _ => rfl) hRl
    (LkI w5 hbx T R) (fun _ _ _ _ => False)
    (fun xs A B C H h hs hd => h.step hs hd hb5lt hbR) (fun xs A C h => h.live) (fun xs A C h => h.dj hRl) (fun _ _ _ _ _ _ h _ _ => h.elim) (fun _ _ _ _ h => h.elim)
    (LkC R w5.heap.size (.slice none 0 0) []) R hRl ?hYC ?h0
    (fun pre x a' A C => a'.tmps.size = 35 ∧ a'.defers = [] ∧ a'.tmps.getD 2 undef = .pointer (some ⟨w.heap.size, 0, none⟩) ∧ a'.tmps.getD 5 undef = .pointer (some ⟨hbx, 0, none⟩) ∧ (∃ g, a'.tmps.getD 7 undef = .pointer (some ⟨g, 0, none⟩) ∧ Blk A g #[.int .u8 (x.k.toNat : Int), x.v] 34) ∧ A.ownsRow 0 5 1 x.v x.d.length (x.d.map byteVal) ∧ pre.length ≤ B.length) ?hAx ?assign ?body ?done ?stop
  case stop => exact fun D c pre B C hD hDC hp h => h.elim
  case hYC => exact LkI.dj (w5 := w5) (hb := hbx) (T := T) (xs := []) ⟨_, [], rfl, Step.refl _ _, H5.out.1, World.ownsRow_nil _ _ _ _, fun x hx => absurd hx (by simp), rfl⟩ hRl
  case h0 => exact ⟨_, [], rfl, Step.refl _ _, H5.out.1, World.ownsRow_nil _ _ _ _, fun x hx => absurd hx (by simp), rfl⟩
  case hAx =>
    rintro pre x a' A B' C bb rec ⟨q1, q2, q3, q4, ⟨g, q11, q12⟩, q13, q14⟩ hl hbC hby hst
    refine ⟨q1, q2, q3, q4, ⟨g, q11, q12.step hst (fun hm => ?_)⟩, owns_step q13 hst (fun k hk hm => ?_), q14⟩
    · simp only [List.mem_cons, List.not_mem_nil, or_false] at hm
      subst hm
      unfold Blk at q12
      rw [q12] at hl
      cases hl
    · simp only [List.mem_cons, List.not_mem_nil, or_false] at hm
      subst hm
      exact hby hk
  case assign =>
    rintro l2 pre ⟨xp, xk, xd, xv⟩ A C K hI hV _ _ _ hK
    obtain ⟨hpre, hown⟩ := hV pre ⟨xp, xk, xd, xv⟩ rfl
    simp only at hown
    obtain ⟨gx, cx, rfl, -⟩ := owns_bytes hown
    have hpl := hpre.length_le
    have hpl2 := scanR_len 0 0 B
    rw [List.length_map, List.length_append] at hpl
    have HO := Lib.hid (And.intro hown (show pre.length ≤ B.length by omega))
    clear hI hV hpre hown hpl hpl2
    gi_wp2
    refine hK _ _ ((Step.refl [] A).alloc _) ?_
    exact ⟨rfl, rfl, rfl, rfl, ⟨A.heap.size, rfl, Blk.new A _ _⟩, owns_step HO.out.1 ((Step.refl [] A).alloc _) (by simp), HO.out.2⟩
  case body =>
    rintro l2 pre ⟨xp, xk, xd, xv⟩ a' A C hrec hlC hlx hlv hdx hdr hI ⟨hsz, hdf, q3, q4, ⟨g, q11, q12⟩, q13, q14⟩
    obtain ⟨f', hf'⟩ : ∃ f' : Nat → Value, (fun k => a'.tmps.getD k undef) = f' := ⟨_, rfl⟩
    have h3 : f' 2 = _ := (congrFun hf' 2).symm.trans q3
    have h4 : f' 5 = _ := (congrFun hf' 5).symm.trans q4
    have h11 : f' 7 = _ := (congrFun hf' 7).symm.trans q11
    rw [act_lit hsz, hf', hdf, lit35, h3, h4, h11]
    dsimp only at q12 q13 hlx hlv hdx hdr ⊢
    obtain ⟨gx, cx, rfl, hdl, hdm, -, hbx2, hnx, -⟩ := owns_bytes q13
    obtain ⟨hv, rl, hC, hI1, hI2, hI3, hI4, hI6⟩ := hI
    have w50 := hI2.cell 0
    have w51 := hI2.cell 1
    have w52 := hI2.cell 2
    have f51 := hI2.free 1
    have f52 := hI2.free 2
    have w70 := q12.cell 0
    have w71 := q12.cell 1
    simp only [List.getElem?_toArray, List.getElem?_cons_zero, List.getElem?_cons_succ] at w50 w51 w52 w70 w71
    have hgR : g < A.heap.size := q12.lt
    obtain ⟨sd, hsd⟩ : ∃ sd, (pre.map Sx.rr).any isSeal = sd := ⟨_, rfl⟩
    rw [hsd] at w52
    have hsz5 := hI1.size
    have HI := Lib.hid (And.intro hC (And.intro hI1 (And.intro hI2 (And.intro hI3 (And.intro hI4 (And.intro hI6 hsd))))))
    have HX := Lib.hid (And.intro q12 (And.intro q13 (And.intro hbx2 hnx)))
    have HLv := Lib.hid (And.intro hlv (And.intro hdx hdr))
    clear hC hI1 hI2 hI3 hI4 hI6 q12 q13 hbx2 hnx hlC hlx hlv hdx hdr hrec hf' h3 h4 h11 q3 q4 q11 hsz hdf hdl
    have hrll : rl.length ≤ B.length := by
      have h1 := congrArg List.length HI.out.2.2.2.2.2.1
      rw [List.length_map] at h1
      have h2 : (recsR (pre.map Sx.rr)).length ≤ (pre.map Sx.rr).length := List.length_eraseP_le ..
      rw [List.length_map] at h2
      omega
    by_cases hk : xk.toNat = 255 ∧ sd = false
    · obtain ⟨hk, rfl⟩ := hk
      have p1 : ((xk.toNat : Int) == 255) = true := by simp; omega
      gi_wp2
      obtain ⟨hC, hI1, hI2, hI3, hI4, hI6, hsd⟩ := HI.out
      have hss := recsR_seal hsd (show isSeal (xk, xd) = true by rw [isSeal_iff]; simpa using hk)
      have hmap : (pre ++ [(⟨xp, xk, xd, .slice gx xd.length cx⟩ : Sx)]).map Sx.rr = pre.map Sx.rr ++ [(xk, xd)] := by simp [Sx.rr]
      have hst : Step [hbx] A (A.setCell ⟨hbx, 2, none⟩ (.bool true)) := (Step.refl _ A).setCell (.inl (by simp)) 2 _
      have hb1 := hI2.set 2 (.bool true)
      refine ⟨C, ⟨hv, rl, hC, hI1.setCell (.inl (by simp)) 2 _, ?_, owns_step hI3 hst (fun k hk hm => ?_), fun x hx => ⟨(hI4 x hx).1.stepA hst (fun k hk hm => ?_), fun k hk => by rw [World.size_setCell]; exact (hI4 x hx).2 k hk⟩, ?_⟩, hst.mono (fun k hk => ?_), fun k hk => .inl (List.mem_append_left _ hk)⟩
      · rw [hmap, hss.2]
        rw [hsd] at hb1
        simpa using hb1
      · have := owns_base hI3 k hk
        simp at hm
        omega
      · have := ((hI4 x hx).2 k hk).2.1
        simp at hm
        omega
      · rw [hmap, hss.1]
        exact hI6
      · simp at hk
        subst hk
        refine List.mem_append_left _ ?_
        rw [hC]
        exact List.mem_append_left _ H5.out.2.2.2.2
    · have hmore : (pre.map Sx.rr).any isSeal = true ∨ isSeal (xk, xd) = false := by
        rw [isSeal_iff, HI.out.2.2.2.2.2.2]
        by_cases h : xk.toNat = 255
        · refine .inl ?_
          cases sd
          · exact absurd ⟨h, rfl⟩ hk
          · rfl
        · exact .inr (by simpa using h)
      have hcases : (((xk.toNat : Int) == 255) = true ∧ sd = true) ∨ ((xk.toNat : Int) == 255) = false := by
        by_cases h : xk.toNat = 255
        · refine .inl ⟨by simp; omega, ?_⟩
          cases sd
          · exact absurd ⟨h, rfl⟩ hk
          · rfl
        · exact .inr (by simp; omega)
      have HMore := Lib.hid hmore
      clear hmore hk
      have hown0 := HI.out.2.2.2.1
      obtain ⟨av, cv, rfl, -⟩ := owns_shape hown0
      have HO0 := Lib.hid (fun (o : Obj) => owns_step hown0 ((Step.refl [] A).alloc o) (by simp))
      have hfb : ∀ k, k ∈ foot (.slice av rl.length cv) → w5.heap.size ≤ k := owns_base hown0
      have hne2 : hbx ∉ foot (.slice av rl.length cv) := fun hm => by have := hfb _ hm; omega
      have HNe := Lib.hid (And.intro hfb hne2)
      clear hown0 hfb hne2
      rcases hcases with ⟨p1, rfl⟩ | p1
      all_goals
        gi_wp2_with (gi_at_builtin; refine wpListIn_append_sep _ rfl (.tmp 29) (.tmp 31) 22 rfl w5.heap.size 34 j0 (.agg #[.int .u8 0, .slice none 0 0]) 2 32 Try.underlying22 hj0 hjz hj1 hj2 rfl (by decide) _ rl.length (rowR rl) rfl (HO0.out _) ⟨A.heap.size, 0, none⟩ 1 1 [.int .u8 (xk.toNat : Int), .slice gx xd.length cx] rfl rfl (new_cells A [.int .u8 (xk.toNat : Int), .slice gx xd.length cx] 34) (by simp [Value.oneCell']) (by unfold maxLen; omega) (by omega) (by rw [World.size_alloc]; omega) ?_)
      all_goals
        intro v' w' hown' hs' hf'
        have hsA : Step (foot (.slice av rl.length cv)) A w' := ((Step.refl [] A).alloc _).mono (by simp) |>.then hs' (fun k hk => .inl hk)
        have hbW : Blk w' hbx #[.int .u64 (T : Int), .slice av rl.length cv, .bool ((pre.map Sx.rr).any isSeal)] 77 := HI.out.2.2.1.step hsA (fun hm => HNe.out.2 hm)
        have f51' := hbW.free 1
        have r51' : w'.cell? ⟨hbx, 1, none⟩ = some (.slice av rl.length cv) := hbW.cell 1
        have hfA : Fresh A (foot (.slice av rl.length cv)) (foot v') := fun k hk => (hf' k hk).imp id (fun h => by rw [World.size_alloc] at h; omega)
        have HN := Lib.hid (And.intro hown' (And.intro hsA (And.intro hbW hfA)))
        obtain ⟨gv, kv, rfl, -⟩ := owns_form hown' (by omega)
        clear hown' hs' hf' hsA hbW hfA
        gi_wp2
        obtain ⟨hC, hI1, hI2, hI3, hI4, hI6, hsd⟩ := HI.out
        obtain ⟨n1, n2, n3, n4⟩ := HN.out
        obtain ⟨hlv, hdx, hdr⟩ := HLv.out
        have hss := recsR_more (l := pre.map Sx.rr) (x := (xk, xd)) HMore.out
        have hmap : (pre ++ [(⟨xp, xk, xd, .slice gx xd.length cx⟩ : Sx)]).map Sx.rr = pre.map Sx.rr ++ [(xk, xd)] := by simp [Sx.rr]
        have hst : Step [hbx] w' (w'.setCell ⟨hbx, 1, none⟩ (.slice (some ⟨gv, 0, none⟩) (rl.length + 1) kv)) := (Step.refl _ w').setCell (.inl (by simp)) 1 _
        have hb1 := n3.set 1 (.slice (some ⟨gv, 0, none⟩) (rl.length + 1) kv)
        have hzA := n2.size
        have hA2 : Step (hbx :: foot (.slice av rl.length cv)) A (w'.setCell ⟨hbx, 1, none⟩ (.slice (some ⟨gv, 0, none⟩) (rl.length + 1) kv)) := (n2.mono (fun k hk => List.mem_cons_of_mem _ hk)).then hst (fun k hk => .inl (by simp at hk; simp [hk]))
        have hoff := fun k (hk : k ∈ offR R w5.heap.size) => (show k ∈ C by rw [hC]; exact List.mem_append_left _ hk)
        have hgx : ∀ k, k ∈ footA gx → k < A.heap.size ∧ w5.heap.size ≤ k := fun k hk => by
          rw [← foot_len gx xd.length cx] at hk
          refine ⟨hlv k hk, ?_⟩
          rcases Nat.lt_or_ge k w5.heap.size with h | h
          · exfalso
            by_cases hR : k ∈ R
            · exact hdr k hR hk
            · exact hdx k (hoff k (mem_offR.2 ⟨h, hR⟩)) hk
          · exact h
        have hapart : ∀ k, w5.heap.size ≤ k → k ∉ foot (.slice av rl.length cv) → k ∉ hbx :: foot (.slice av rl.length cv) := fun k h1 h2 hm => by
          rcases List.mem_cons.1 hm with h | h
          · omega
          · exact h2 h
        have hbv : hbx ∉ foot (.slice (some ⟨gv, 0, none⟩) (rl.length + 1) kv) := fun hm => by
          rcases n4 _ hm with h | h
          · exact HNe.out.2 h
          · omega
        refine ⟨LkC R w5.heap.size (.slice (some ⟨gv, 0, none⟩) (rl.length + 1) kv) (rl ++ [⟨xk, gx, cx, xd⟩]), ⟨_, rl ++ [⟨xk, gx, cx, xd⟩], rfl, ?_, ?_, ?_, fun x hx => ?_, ?_⟩, ?_, fun k hk => ?_⟩
        · exact hI1.then hA2 (fun k hk => (List.mem_cons.1 hk).elim (fun h => .inl (by simp [h])) (fun h => .inr (HNe.out.1 k h)))
        · rw [hmap, hss.2]
          simpa using hb1
        · rw [rowR_snoc, List.length_append]
          exact owns_step n1 hst (fun k hk hm => by simp at hm; subst hm; exact hbv hk)
        · rw [World.size_setCell]
          rcases List.mem_append.1 hx with hx | hx
          · have h4 := hI4 x hx
            refine ⟨h4.1.stepA hA2 (fun k hk => hapart k ((h4.2 k hk).2.1) ((h4.2 k hk).2.2)), fun k hk => ⟨Nat.lt_of_lt_of_le (h4.2 k hk).1 hzA, (h4.2 k hk).2.1, fun hm => ?_⟩⟩
            rcases n4 k hm with h | h
            · exact (h4.2 k hk).2.2 h
            · have := (h4.2 k hk).1
              omega
          · simp only [List.mem_singleton] at hx
            subst hx
            have hnf : ∀ k, k ∈ footA gx → k ∉ foot (.slice av rl.length cv) := fun k hk hm => by
              rw [← foot_len gx xd.length cx] at hk
              exact hdx k (by rw [hC]; exact List.mem_append_right _ (List.mem_append_left _ hm)) hk
            refine ⟨(RecIn.mk HX.out.2.2.1 HX.out.2.2.2 hdm).stepA hA2 (fun k hk => hapart k (hgx k hk).2 (hnf k hk)), fun k hk => ⟨Nat.lt_of_lt_of_le (hgx k hk).1 hzA, (hgx k hk).2, fun hm => ?_⟩⟩
            rcases n4 k hm with h | h
            · exact hnf k hk h
            · have := (hgx k hk).1
              omega
        · rw [List.map_append, hI6, hmap, hss.1]
          rfl
        · refine hA2.mono (fun k hk => List.mem_append_left _ ?_)
          rcases List.mem_cons.1 hk with h | h
          · rw [h]
            exact hoff _ H5.out.2.2.2.2
          · rw [hC]
            exact List.mem_append_right _ (List.mem_append_left _ h)
        · rcases List.mem_append.1 hk with hk | hk
          · exact .inl (List.mem_append_left _ (hoff k hk))
          · rcases List.mem_append.1 hk with hk | hk
            · rcases n4 k hk with h | h
              · exact .inl (List.mem_append_left _ (by rw [hC]; exact List.mem_append_right _ (List.mem_append_left _ h)))
              · exact .inr h
            · rw [List.flatMap_append] at hk
              rcases List.mem_append.1 hk with hk | hk
              · exact .inl (List.mem_append_left _ (by rw [hC]; exact List.mem_append_right _ (List.mem_append_right _ hk)))
              · refine .inl (List.mem_append_right _ ?_)
                rw [foot_len]
                simpa using hk
  case done =>
    rintro D xs B' C hD hDC hxs ⟨hv, rl, hC, hI1, hI2, hI3, hI4, hI6⟩ hm hk
    obtain ⟨av, cv, rfl, -⟩ := owns_shape hI3
    have w50 := hI2.cell 0
    have w51 := hI2.cell 1
    have w52 := hI2.cell 2
    simp only [List.getElem?_toArray, List.getElem?_cons_zero, List.getElem?_cons_succ] at w50 w51 w52
    have hbB := H5.out.2.1.step hI1 (fun hm => (List.mem_cons.1 hm).elim (fun h => hne h) hrR)
    have f0 := hbB.free 0
    have f1 := hbB.free 1
    have f2 := hbB.free 2
    have v0 := hbB.cell 0
    have v1 := hbB.cell 1
    have v2 := hbB.cell 2
    simp only [List.getElem?_toArray, List.getElem?_cons_zero, List.getElem?_cons_succ] at v0 v1 v2
    have HI := Lib.hid (And.intro hC (And.intro hI1 (And.intro hI2 (And.intro hI3 (And.intro hI4 (And.intro hI6 (And.intro hbB (And.intro hD (And.intro hDC (And.intro hxs (And.intro hm hk)))))))))))
    clear hC hI1 hI2 hI3 hI4 hI6 hbB hD hDC hxs hm hk
    go_wp2_with fail
    obtain ⟨hC, hI1, hI2, hI3, hI4, hI6, hbB, hD, hDC, hxs, hm, hk⟩ := HI.out
    obtain ⟨B2, hB2⟩ : ∃ B2, (((B'.setCell ⟨w.heap.size, 0, none⟩ (.int .u64 (T : Int))).setCell ⟨w.heap.size, 1, none⟩ (.slice av rl.length cv)).setCell ⟨w.heap.size, 2, none⟩ (.bool (xs.any (isSeal ∘ Sx.rr)))) = B2 := ⟨_, rfl⟩
    have hs2 : Step [w.heap.size] B' B2 := by rw [← hB2]; exact (((Step.refl _ B').setCell (.inl (by simp)) 0 _).setCell (.inl (by simp)) 1 _).setCell (.inl (by simp)) 2 _
    have hbb : Blk B2 w.heap.size #[.int .u64 (T : Int), .slice av rl.length cv, .bool (xs.any (isSeal ∘ Sx.rr))] 77 := by
      have h := ((hbB.set 0 (.int .u64 (T : Int))).set 1 (.slice av rl.length cv)).set 2 (.bool (xs.any (isSeal ∘ Sx.rr)))
      rw [hB2] at h
      simpa using h
    have hDw : w.heap.size < D := by have := H5.out.2.2.1.size; have := H5.out.1.lt; omega
    have hz5 := hI1.size
    have h05 : w.heap.size < w5.heap.size := by omega
    obtain ⟨d1, d2, d3⟩ := foot_sub (H := [D]) hC (fun k hk hm => by
      simp only [List.mem_cons, List.not_mem_nil, or_false] at hm
      subst hm
      exact hDC hk)
    have e2 : ∀ k, k ∈ foot (.slice av rl.length cv) → k ∉ [D, w.heap.size] := fun k hk hm => by
      have h1 := owns_base hI3 k hk
      simp only [List.mem_cons, List.not_mem_nil, or_false] at hm
      rcases hm with h | h
      · exact d2 k hk (by simp [h])
      · omega
    have e3 : ∀ x ∈ rl, ∀ k, k ∈ footA x.a → k ∉ [D, w.heap.size] := fun x hx k hk hm => by
      have h1 := ((hI4 x hx).2 k hk).2.1
      simp only [List.mem_cons, List.not_mem_nil, or_false] at hm
      rcases hm with h | h
      · exact d3 x hx k hk (by simp [h])
      · omega
    rw [hB2]
    refine leave_look hbb ((hs2.block D (Array.getElem?_eq_some_iff.1 hm).1 (by simp; omega)).trans hm) (by omega) rfl (fun w' hs => ?_)
    have hst : Step [D, w.heap.size] B' w' := (hs2.mono (by simp)).then hs (fun k hk => .inl (by simp at hk; simp [hk]))
    have hown' := owns_step hI3 hst e2
    obtain ⟨ra, rc, hra, hRcs, hfo⟩ := Rcs.ofRow hown' (fun x hx => ⟨(hI4 x hx).1.stepA hst (e3 x hx), fun _ b off hb => Nat.lt_of_lt_of_le ((hI4 x hx).2 b (mem_footA.2 ⟨off, none, hb⟩)).1 hst.size⟩)
    have hrr : xs.map Sx.rr = toldR L := by
      unfold toldR
      rw [HBB.out, ← hxs, List.map_map]
      rfl
    rw [hra]
    refine ⟨ra, rc, rl, ?_, hRcs, by rw [hI6, hrr], fun k hk => ?_, ?_⟩
    · rw [← hrr, HT.out, List.any_map]
    · unfold footR at hk
      rcases List.mem_append.1 hk with hk | hk
      · split at hk
        · exact absurd hk (by simp)
        · rw [hfo] at hk
          have := owns_base hI3 k hk
          omega
      · obtain ⟨x, hx, hk⟩ := List.mem_flatMap.1 hk
        split at hk
        · exact absurd hk (by simp)
        · have := ((hI4 x hx).2 k hk).2.1
          omega
    · refine (H5.out.2.2.1.then hI1 (fun k hk => .inr ?_)).then hst (fun k hk => .inr ?_)
      · rcases List.mem_cons.1 hk with h | h
        · omega
        · have := HP.out.2.2.1 k h
          omega
      · simp only [List.mem_cons, List.not_mem_nil, or_false] at hk
        omega
end Go.Proofs.Ytdmnhkmpfnhmdaa
end

section
namespace Go.Proofs.Ytdmnhkmpfnhmdaa
set_option linter.unusedVariables false
open Go.RowKit

/-- the greatest turn of sectors -/
def maxT (L : List (List UInt8)) : Nat := L.foldl (fun m s => max m (turnV s)) 0
theorem maxT_snoc (L : List (List UInt8)) (s : List UInt8) : maxT (L ++ [s]) = max (maxT L) (turnV s) := by
  unfold maxT
  rw [List.foldl_append]
  rfl
set_option maxRecDepth 20000 in
set_option maxHeartbeats 1000000 in
theorem greatest_any (base db : Nat) (lv wv : Value) (S : List (List UInt8)) (W : List (Nat × List UInt8)) (w : World) (x0 : Nat) (e0 : Int) (h : Dsk w base db lv wv S W false) (h4 : 4 ≤ S.length)
    (hx : (maxT (readS W S 0 S.length) < 9223372036854775808 ∧ x0 = maxT (readS W S 0 S.length) ∧ e0 = 0) ∨ (9223372036854775808 ≤ maxT (readS W S 0 S.length) ∧ x0 = 0 ∧ e0 = 3)) :
    Calls Try.prog 28 #[.pointer (some ⟨db, 0, none⟩)] w fun e w' => e = .returned (.tuple #[.int .u64 (x0 : Int), .int .i64 e0]) ∧ Step [] w w' := by
  have HLn := Lib.hid (dlen_any base db lv wv S W false w h)
  have HDn := Lib.hid (down_any base db lv wv S W false w h)
  have HRd := Lib.hid (read_ok base db lv wv S W 0 S.length w h (by omega) (by omega))
  have hfew := h.few
  have h64 := h.read64 0 S.length
  have hln := readS_len W S 0 S.length (by omega)
  obtain ⟨T, hT⟩ : ∃ T, readS W S 0 S.length = T := ⟨_, rfl⟩
  rw [hT] at HRd h64 hln hx
  have HX0 := Lib.hid hx
  obtain ⟨NS, hNS⟩ : ∃ NS, S.length = NS := ⟨_, rfl⟩
  rw [hNS] at HLn HRd hfew h4 hln
  have H64 := Lib.hid h64
  have HLN := Lib.hid hln
  have p1 : ¬ (NS : Int) < 4 := by omega
  clear h hT hNS h64 hln hx
  go_enter Try.func28, Try.ntmps28
  go_wp2_with fail
  refine HLn.out.mono ?_
  rintro e w1 ⟨rfl, rfl⟩
  go_wp2_with fail
  refine HDn.out.mono ?_
  rintro e w1 ⟨rfl, rfl⟩
  go_wp2_with fail
  refine HLn.out.mono ?_
  rintro e w1 ⟨rfl, rfl⟩
  go_wp2_with fail
  refine HRd.out.mono ?_
  rintro e w1 ⟨v, rfl, ho, hs⟩
  rw [flatS_flat] at ho
  have hfl : T.flatten.length = NS * 64 := by rw [flatten_len T H64.out, HLN.out]
  obtain ⟨a1, c1, rfl, hl1, hsl, -, -⟩ := owns_slb ho
  rw [hfl]
  have HSl := Lib.hid hsl
  have HS1 := Lib.hid hs
  have HFl := Lib.hid hfl
  clear ho hs hl1 hsl HLn HDn HRd hfl
  go_wp2_with fail
  go_loopw [4, 6] (fun bv tv wr => ∃ (P R : List (List UInt8)) (a' : Option Addr) (c' : Nat), T = P ++ R ∧ bv = .slice a' (R.length * 64) c' ∧ tv = .int .u64 (maxT P : Int) ∧ SlB w1 a' R.flatten c' ∧ wr = w1) (fun bv _ _ => sliceLen bv)
  case atStart => exact ⟨[], T, a1, c1, rfl, by rw [HLN.out], rfl, HSl.out, rfl⟩
  case round =>
    obtain ⟨P, R, a', c', hPR, rfl, rfl, hR, rfl⟩ := hrel
    have HR := Lib.hid hR
    have HPR := Lib.hid hPR
    clear hR hPR
    cases R with
    | nil =>
      have hTP : maxT T = maxT P := by rw [HPR.out, List.append_nil]
      have HTP := Lib.hid hTP
      clear hTP
      rcases HX0.out with ⟨hlt, h2, rfl⟩ | ⟨hlt, h2, rfl⟩
      · have q1 : ¬ (9223372036854775808 : Int) ≤ (maxT P : Int) := by rw [HTP.out] at hlt; omega
        have HX2 := Lib.hid h2
        clear hlt h2
        go_wp2_with fail
        go_ret2
        rw [HX2.out, HTP.out]
        exact ⟨rfl, HS1.out⟩
      · have q1 : (9223372036854775808 : Int) ≤ (maxT P : Int) := by rw [HTP.out] at hlt; omega
        have HX2 := Lib.hid h2
        clear hlt h2
        go_wp2_with fail
        go_ret2
        rw [HX2.out]
        exact ⟨rfl, HS1.out⟩
    | cons s r =>
      have hs64 : s.length = 64 := H64.out s (by rw [HPR.out]; simp)
      have hfr := flatten_len (s :: r) (fun x hx => H64.out x (by rw [HPR.out]; simp only [List.mem_append]; exact .inr hx))
      have htv : turnV (s :: r).flatten = turnV s := by
        unfold turnV
        rw [List.flatten_cons, List.take_append_of_le_length (by omega)]
      have hTu := turnOf_any a' ((r.length + 1) * 64) c' (s :: r).flatten wr HR.out.bytes (by rw [hfr]; simp) (by omega)
      rw [htv] at hTu
      have HTu := Lib.hid hTu
      have hrl : r.length + 1 ≤ 4096 := by
        have := congrArg List.length HPR.out
        rw [HLN.out, List.length_append, List.length_cons] at this
        omega
      obtain ⟨a10, hlow, hslR, -⟩ := HR.out.cutLow (P := Try.prog) 32 5 Try.underlying32 Try.sizeB 64 (by rw [hfr]; simp; omega)
      have hdr : (s :: r).flatten.drop 64 = r.flatten := by
        rw [List.flatten_cons, List.drop_left' hs64]
      rw [hdr, flatten_len r (fun x hx => H64.out x (by rw [HPR.out]; simp [hx])), hfr] at hlow
      have hlow' : ∀ W : World, (Instr.slice 32 (.slice a' ((r.length + 1) * 64) c') (some (.int .i64 64)) none none).run Try.prog W = .ok (.slice a10 (r.length * 64) (c' - 64)) W := hlow
      rw [hdr] at hslR
      have HSR := Lib.hid hslR
      have hmx := maxT_snoc P s
      obtain ⟨x, hx⟩ : ∃ x, turnV s = x := ⟨_, rfl⟩
      rw [hx] at HTu hmx
      have HMx := Lib.hid hmx
      have g0 : (0 : Int) < ((r.length : Int) + 1) * 64 := by omega
      clear hTu hfr htv hlow hslR hmx hx hdr
      rcases Nat.lt_trichotomy (maxT P) x with hl | hl | hl
      · have q1 : (maxT P : Int) < (x : Int) := by omega
        have q2 : ¬ (x : Int) ≤ (maxT P : Int) := by omega
        have q3 : max (maxT P : Int) (x : Int) = (x : Int) := by omega
        have q4 : max (maxT P) x = x := by omega
        go_wp2_with fail
        refine HTu.out.mono ?_
        rintro e w2 ⟨rfl, rfl⟩
        go_wp2_with fail
        go_roundw
        case rel => exact ⟨P ++ [s], r, a10, c' - 64, by rw [HPR.out]; simp, rfl, by rw [HMx.out, q4], HSR.out, trivial⟩
        case measure => simp [sliceLen]
      · subst hl
        have q3 : max (maxT P : Int) (maxT P : Int) = (maxT P : Int) := by omega
        have q4 : max (maxT P) (maxT P) = maxT P := by omega
        go_wp2_with fail
        refine HTu.out.mono ?_
        rintro e w2 ⟨rfl, rfl⟩
        go_wp2_with fail
        go_roundw
        case rel => exact ⟨P ++ [s], r, a10, c' - 64, by rw [HPR.out]; simp, rfl, by rw [HMx.out, q4], HSR.out, trivial⟩
        case measure => simp [sliceLen]
      · have q1 : (x : Int) < (maxT P : Int) := by omega
        have q2 : ¬ (maxT P : Int) ≤ (x : Int) := by omega
        have q3 : max (maxT P : Int) (x : Int) = (maxT P : Int) := by omega
        have q4 : max (maxT P) x = maxT P := by omega
        go_wp2_with fail
        refine HTu.out.mono ?_
        rintro e w2 ⟨rfl, rfl⟩
        go_wp2_with fail
        go_roundw
        case rel => exact ⟨P ++ [s], r, a10, c' - 64, by rw [HPR.out]; simp, rfl, by rw [HMx.out, q4], HSR.out, trivial⟩
        case measure => simp [sliceLen]
end Go.Proofs.Ytdmnhkmpfnhmdaa
end

section
namespace Go.Proofs.Ytdmnhkmpfnhmdaa
set_option linter.unusedVariables false
open Go.RowKit

/-! a sector as it stands -/
theorem sec_turn (t : Nat) (p : List UInt8) (h : t < 18446744073709551616) : turnV (pad (secL t p)) = t := secL_turn t p _ h
theorem sec_len (t : Nat) (p : List UInt8) : (pad (secL t p)).getD 8 0 = UInt8.ofNat p.length := by
  unfold pad secL
  rw [List.append_assoc]
  simp [List.getD, leNlen]
theorem sec_part (t : Nat) (p : List UInt8) : ((pad (secL t p)).drop 9).take p.length = p := by
  unfold pad secL
  have h : (leN 8 t ++ UInt8.ofNat p.length :: p).drop 9 = p := by
    rw [List.drop_append, List.drop_of_length_le (by rw [leNlen]; omega), leNlen]
    rfl
  rw [List.drop_append_of_le_length (by simp [leNlen]; omega), h, List.take_left]

/-- a half: each sector is older, or holds a piece -/
def HalfI (t : Nat) (C0 C : List UInt8) (L : List (List UInt8)) : Prop :=
  C0 <+: C ∧ ∀ j s, L[j]? = some s → (turnV s < t ∧ C0.length ≤ 55 * j) ∨ ∃ p, s = pad (secL t p) ∧ chunk C0 j <+: p ∧ p <+: chunk C j ∧ 55 * j < C.length
theorem chunk_zero (C : List UInt8) : chunk C 0 = C.take 55 := by simp [chunk]
theorem chunk_succ (C : List UInt8) (j : Nat) : chunk C (j + 1) = chunk (C.drop 55) j := by
  unfold chunk
  rw [List.drop_drop]
  congr 2
  omega
theorem prefix_len_eq {p q : List UInt8} (h : p <+: q) (hl : q.length ≤ p.length) : p = q := h.eq_of_length (Nat.le_antisymm h.length_le hl)
theorem half_read (t : Nat) (ht : t < 18446744073709551616) : ∀ (L : List (List UInt8)) (C0 C : List UInt8), HalfI t C0 C L → C.length ≤ 55 * L.length → C0 <+: halfF t L ∧ halfF t L <+: C
  | [], C0, C, ⟨h0, h1⟩, h2 => by
    have hc : C = [] := List.eq_nil_of_length_eq_zero (by simpa using h2)
    subst hc
    exact ⟨h0, List.nil_prefix⟩
  | s :: r, C0, C, ⟨h0, h1⟩, h2 => by
    rcases h1 0 s rfl with ⟨ha, hb⟩ | ⟨p, rfl, hc, hd, he⟩
    · have hc : C0 = [] := List.eq_nil_of_length_eq_zero (by omega)
      subst hc
      unfold halfF
      rw [if_neg (by omega)]
      exact ⟨List.nil_prefix, List.nil_prefix⟩
    · rw [chunk_zero] at hc hd
      have hp : p.length ≤ 55 := by
        have := hd.length_le
        rw [List.length_take] at this
        omega
      unfold halfF
      rw [if_pos (sec_turn t p ht), sec_len, UInt8.toNat_ofNat_of_lt' (show p.length < 2 ^ 8 by omega), Nat.min_eq_left hp, sec_part]
      by_cases hq : p.length < 55
      · rw [if_pos hq, List.append_nil]
        have hs : C0.take 55 = C0 := by
          have := hc.length_le
          rw [List.length_take] at this
          exact List.take_of_length_le (by omega)
        rw [hs] at hc
        exact ⟨hc, hd.trans (List.take_prefix _ _)⟩
      · rw [if_neg hq]
        have hpe : p = C.take 55 := prefix_len_eq hd (by rw [List.length_take]; omega)
        have hi : HalfI t (C0.drop 55) (C.drop 55) r := by
          refine ⟨?_, fun j x hx => ?_⟩
          · obtain ⟨z, rfl⟩ := h0
            rw [List.drop_append]
            exact List.prefix_append _ _
          · have h3 := h1 (j + 1) x (by simpa using hx)
            rw [chunk_succ, chunk_succ] at h3
            rcases h3 with ⟨h4, h5⟩ | ⟨p2, h4, h5, h6, h7⟩
            · exact .inl ⟨h4, by rw [List.length_drop]; omega⟩
            · exact .inr ⟨p2, h4, h5, h6, by rw [List.length_drop]; omega⟩
        obtain ⟨h3, h4⟩ := half_read t ht r (C0.drop 55) (C.drop 55) hi (by rw [List.length_drop]; simp at h2; omega)
        refine ⟨?_, ?_⟩
        · by_cases hz : C0.length < 55
          · rw [List.take_of_length_le (by omega)] at hc
            exact hc.trans (List.prefix_append _ _)
          · have he0 : C0.take 55 = p := prefix_len_eq hc (by rw [List.length_take]; omega)
            conv => lhs; rw [← List.take_append_drop 55 C0, he0]
            exact (List.prefix_append_right_inj p).2 h3
        · conv => rhs; rw [← List.take_append_drop 55 C, ← hpe]
          exact (List.prefix_append_right_inj p).2 h4
theorem half_turn {t : Nat} (ht : t < 18446744073709551616) {L : List (List UInt8)} {C0 C : List UInt8} (h : HalfI t C0 C L) (h0 : 0 < C0.length) (hl : C.length ≤ 55 * L.length) : halfT L = t := by
  cases L with
  | nil =>
    have h1 := h.1.length_le
    rw [List.length_nil] at hl
    omega
  | cons s r =>
    rcases h.2 0 s rfl with ⟨_, hb⟩ | ⟨p, rfl, -⟩
    · omega
    · exact sec_turn t p ht

/-! writings -/
theorem setl_app (kp : Nat → Bool) (W V : List (Nat × List UInt8)) (S : List (List UInt8)) : ∀ k, k ≤ W.length → setl kp (W ++ V) S k = setl kp W S k
  | 0, _ => rfl
  | k + 1, h => by
    have h1 : (W ++ V)[k]? = some W[k] := by rw [List.getElem?_append_left (by omega), List.getElem?_eq_getElem (by omega)]
    have h2 : W[k]? = some W[k] := List.getElem?_eq_getElem (by omega)
    rw [setl_next kp _ S k _ h1, setl_next kp _ S k _ h2, setl_app kp W V S k (by omega)]
theorem syncS_snoc (W : List (Nat × List UInt8)) (x : Nat × List UInt8) (S : List (List UInt8)) : syncS (W ++ [x]) S = (syncS W S).set x.1 x.2 := by
  unfold syncS
  rw [List.length_append, List.length_cons, List.length_nil, setl_next _ _ _ _ x (by simp), if_pos rfl, setl_app _ _ _ _ _ (Nat.le_refl _)]
theorem syncS_nil (S : List (List UInt8)) : syncS [] S = S := rfl
theorem syncS_len (W : List (Nat × List UInt8)) (S : List (List UInt8)) : (syncS W S).length = S.length := setl_len _ _ _ _
theorem list_snoc_ind {α : Type} {p : List α → Prop} (h0 : p []) (h1 : ∀ l x, p l → p (l ++ [x])) (l : List α) : p l := by
  have h : ∀ n (l : List α), l.length = n → p l := by
    intro n
    induction n with
    | zero => intro l h; rw [List.eq_nil_of_length_eq_zero h]; exact h0
    | succ n ih =>
      intro l h
      have hne : l ≠ [] := by intro e; subst e; simp at h
      rw [← List.dropLast_concat_getLast hne]
      exact h1 _ _ (ih _ (by simp [h]))
  exact h l.length l rfl
theorem syncS_app (W V : List (Nat × List UInt8)) (S : List (List UInt8)) : syncS (W ++ V) S = syncS V (syncS W S) := by
  induction V using list_snoc_ind with
  | h0 => rw [List.append_nil, syncS_nil]
  | h1 l x ih => rw [← List.append_assoc, syncS_snoc, ih, syncS_snoc]
/-- a crash leaves in each sector what was there, or one of what was written -/
theorem setl_pick (kp : Nat → Bool) (W : List (Nat × List UInt8)) (S : List (List UInt8)) : ∀ (k i : Nat) (s : List UInt8), (setl kp W S k)[i]? = some s → S[i]? = some s ∨ (i, s) ∈ W
  | 0, i, s, h => .inl h
  | k + 1, i, s, h => by
    unfold setl at h
    cases hx : W[k]? with
    | none =>
      rw [hx] at h
      exact setl_pick kp W S k i s h
    | some x =>
      rw [hx] at h
      simp only at h
      by_cases hk : kp k
      · rw [if_pos hk, List.getElem?_set] at h
        by_cases hi : x.1 = i
        · rw [if_pos hi] at h
          split at h
          · cases h
            refine .inr ?_
            have := List.mem_of_getElem? hx
            obtain ⟨x1, x2⟩ := x
            simp only at hi
            subst hi
            exact this
          · cases h
        · rw [if_neg hi] at h
          exact setl_pick kp W S k i s h
      · rw [if_neg hk] at h
        exact setl_pick kp W S k i s h
/-- sectors written one behind the other -/
theorem syncS_row (W : List (Nat × List UInt8)) (S : List (List UInt8)) (a : Nat) (v : Nat → List UInt8) : ∀ (m : Nat), a + m ≤ S.length → ∀ i, (syncS (W ++ (List.range m).map fun j => (a + j, v j)) S)[i]? = if a ≤ i ∧ i < a + m then some (v (i - a)) else (syncS W S)[i]?
  | 0, h, i => by
    rw [if_neg (by omega)]
    simp
  | m + 1, h, i => by
    rw [List.range_succ, List.map_append, ← List.append_assoc]
    show (syncS (_ ++ [(a + m, v m)]) S)[i]? = _
    rw [syncS_snoc]
    show ((syncS _ S).set (a + m) (v m))[i]? = _
    rw [List.getElem?_set, syncS_len]
    by_cases hi : a + m = i
    · rw [if_pos hi, if_pos (by omega), if_pos (by omega)]
      congr 2
      omega
    · rw [if_neg hi, syncS_row W S a v m (by omega) i]
      by_cases h1 : a ≤ i ∧ i < a + m
      · rw [if_pos h1, if_pos (by omega)]
      · rw [if_neg h1, if_neg (by omega)]

/-- a log on its disk: its synced chain, its chain; all else is older -/
structure LogI (n h t : Nat) (C0 C : List UInt8) (S : List (List UInt8)) (W : List (Nat × List UInt8)) : Prop where
  half : h ≤ 1
  fits : 2 * n ≤ S.length
  most : C.length ≤ 55 * n
  pre : C0 <+: C
  there : ∀ j, 55 * j < C0.length → S[h * n + j]? = some (pad (secL t (chunk C0 j)))
  old : ∀ i s, S[i]? = some s → (∀ j, i = h * n + j → C0.length ≤ 55 * j) → turnV s < t
  pend : ∀ x ∈ W, ∃ j p, x = (h * n + j, pad (secL t p)) ∧ chunk C0 j <+: p ∧ p <+: chunk C j ∧ 55 * j < C.length
  last : ∀ j, 55 * j < C.length → (syncS W S)[h * n + j]? = some (pad (secL t (chunk C j)))
theorem chunk_mono {C D : List UInt8} (h : C <+: D) (j : Nat) : chunk C j <+: chunk D j := by
  obtain ⟨z, rfl⟩ := h
  unfold chunk
  rw [List.drop_append, List.take_append]
  exact List.prefix_append _ _
theorem chunk_full {C D : List UInt8} (h : C <+: D) (j : Nat) (hj : 55 * j + 55 ≤ C.length) : chunk C j = chunk D j :=
  prefix_len_eq (chunk_mono h j) (by rw [chunk_len, chunk_len]; omega)
theorem half_le {h n j m : Nat} (h1 : h ≤ 1) (hj : j < n) (hm : 2 * n ≤ m) : h * n + j < m := by
  have := Nat.mul_le_mul_right n h1
  omega
theorem LogI.more {n h t : Nat} {C0 C : List UInt8} {S : List (List UInt8)} {W : List (Nat × List UInt8)} (H : LogI n h t C0 C S W) (b : List UInt8) (hb : (C ++ b).length ≤ 55 * n) : LogI n h t C0 (C ++ b) S (W ++ putW n h t C (C ++ b)) := by
  have hp : C <+: C ++ b := List.prefix_append _ _
  have hhn : h * n ≤ n := by
    have := Nat.mul_le_mul_right n H.half
    omega
  have hf := H.fits
  have hl : (C ++ b).length = C.length + b.length := List.length_append
  refine ⟨H.half, H.fits, hb, H.pre.trans hp, H.there, H.old, fun x hx => ?_, fun j hj => ?_⟩
  · rcases List.mem_append.1 hx with hx | hx
    · obtain ⟨j, p, h1, h2, h3, h4⟩ := H.pend x hx
      exact ⟨j, p, h1, h2, h3.trans (chunk_mono hp j), by omega⟩
    · simp only [putW, List.mem_map, List.mem_range] at hx
      obtain ⟨i, hi, rfl⟩ := hx
      unfold putN at hi
      exact ⟨C.length / 55 + i, chunk (C ++ b) (C.length / 55 + i), rfl, chunk_mono (H.pre.trans hp) _, List.prefix_refl _, by omega⟩
  · have hr := syncS_row W S (h * n + C.length / 55) (fun i => pad (secL t (chunk (C ++ b) (C.length / 55 + i)))) (putN C (C ++ b)) (by unfold putN; omega) (h * n + j)
    have he : putW n h t C (C ++ b) = (List.range (putN C (C ++ b))).map fun i => (h * n + C.length / 55 + i, pad (secL t (chunk (C ++ b) (C.length / 55 + i)))) := by
      unfold putW secAt
      refine List.map_congr_left fun i _ => ?_
      rw [Nat.add_assoc]
    rw [he, hr]
    by_cases hq : C.length / 55 ≤ j
    · rw [if_pos (by unfold putN; omega)]
      congr 4
      omega
    · rw [if_neg (by omega), H.last j (by omega), chunk_full hp j (by omega)]
theorem LogI.sync {n h t : Nat} {C0 C : List UInt8} {S : List (List UInt8)} {W : List (Nat × List UInt8)} (H : LogI n h t C0 C S W) : LogI n h t C C (syncS W S) [] := by
  have hp := H.pre.length_le
  refine ⟨H.half, by rw [syncS_len]; exact H.fits, H.most, List.prefix_refl _, H.last, fun i s hs hi => ?_, fun x hx => absurd hx (by simp), H.last⟩
  rcases setl_pick _ W S _ i s hs with h1 | h1
  · exact H.old i s h1 (fun j hj => by have := hi j hj; omega)
  · obtain ⟨j, p, h2, -, -, h3⟩ := H.pend _ h1
    simp only [Prod.mk.injEq] at h2
    have := hi j h2.1
    omega
/-- a log that has nothing yet -/
theorem LogI.new {n h t : Nat} {S : List (List UInt8)} (hh : h ≤ 1) (hf : 2 * n ≤ S.length) (ht : ∀ s ∈ S, turnV s < t) : LogI n h t [] [] S [] :=
  ⟨hh, hf, Nat.zero_le _, List.prefix_refl _, fun j hj => by simp at hj, fun i s hs _ => ht s (List.mem_of_getElem? hs), fun x hx => absurd hx (by simp), fun j hj => by simp at hj⟩

/-- what a crash leaves of it, or what is read -/
structure CrI (n h t : Nat) (C0 C : List UInt8) (V : List (List UInt8)) : Prop where
  half : h ≤ 1
  fits : 2 * n ≤ V.length
  most : C.length ≤ 55 * n
  mine : HalfI t C0 C (cutS V (h * n) n)
  other : ∀ s ∈ cutS V ((1 - h) * n) n, turnV s < t
  all : ∀ s ∈ V, turnV s ≤ t
theorem cutS_at (V : List (List UInt8)) (a n j : Nat) : (cutS V a n)[j]? = if j < n then V[a + j]? else none := by
  unfold cutS
  rw [List.getElem?_take]
  split
  · rw [List.getElem?_drop]
  · rfl
theorem LogI.crash {n h t : Nat} {C0 C : List UInt8} {S : List (List UInt8)} {W : List (Nat × List UInt8)} (H : LogI n h t C0 C S W) (ht : t < 18446744073709551616) (kp : Nat → Bool) (k : Nat) : CrI n h t C0 C (setl kp W S k) := by
  have key : ∀ i s, (setl kp W S k)[i]? = some s → (turnV s < t ∧ ∀ j, i = h * n + j → C0.length ≤ 55 * j) ∨ ∃ j p, i = h * n + j ∧ s = pad (secL t p) ∧ chunk C0 j <+: p ∧ p <+: chunk C j ∧ 55 * j < C.length := fun i s hs => by
    rcases setl_pick _ W S _ i s hs with h1 | h1
    · by_cases hi : ∀ j, i = h * n + j → C0.length ≤ 55 * j
      · exact .inl ⟨H.old i s h1 hi, hi⟩
      · simp only [Classical.not_forall] at hi
        obtain ⟨j, hj, hlt⟩ := hi
        have h2 := H.there j (by omega)
        rw [hj] at h1
        rw [h1] at h2
        cases h2
        exact .inr ⟨j, _, hj, rfl, List.prefix_refl _, chunk_mono H.pre j, by have := H.pre.length_le; omega⟩
    · obtain ⟨j, p, h2, h3, h4, h5⟩ := H.pend _ h1
      simp only [Prod.mk.injEq] at h2
      exact .inr ⟨j, p, h2.1, h2.2, h3, h4, h5⟩
  refine ⟨H.half, by rw [setl_len]; exact H.fits, H.most, ⟨H.pre, fun j s hs => ?_⟩, fun s hs => ?_, fun s hs => ?_⟩
  · rw [cutS_at] at hs
    split at hs
    · rcases key _ s hs with ⟨h1, h2⟩ | ⟨j', p, h1, h2, h3, h4, h5⟩
      · exact .inl ⟨h1, h2 j rfl⟩
      · obtain rfl : j = j' := by omega
        exact .inr ⟨p, h2, h3, h4, h5⟩
    · cases hs
  · obtain ⟨j, hj⟩ := List.mem_iff_getElem?.1 hs
    rw [cutS_at] at hj
    split at hj
    · next hlt =>
      rcases key _ s hj with ⟨h1, h2⟩ | ⟨j', p, h1, h2, h3, h4, h5⟩
      · exact h1
      · exfalso
        have := H.most
        have hh := H.half
        obtain rfl | rfl : h = 0 ∨ h = 1 := by omega
        · simp at h1
          omega
        · simp at h1
          omega
    · cases hj
  · obtain ⟨j, hj⟩ := List.mem_iff_getElem?.1 hs
    rcases key _ s hj with ⟨h1, h2⟩ | ⟨j', p, h1, h2, h3, h4, h5⟩
    · omega
    · rw [h2, sec_turn t p ht]
      exact Nat.le_refl _
theorem maxT_le (L : List (List UInt8)) (m : Nat) (h : ∀ s ∈ L, turnV s ≤ m) : maxT L ≤ m := by
  induction L using list_snoc_ind with
  | h0 => exact Nat.zero_le _
  | h1 l x ih =>
    rw [maxT_snoc]
    have h1 := ih (fun s hs => h s (by simp [hs]))
    have h2 := h x (by simp)
    omega
theorem le_maxT (L : List (List UInt8)) : ∀ s ∈ L, turnV s ≤ maxT L := by
  induction L using list_snoc_ind with
  | h0 => intro s hs; simp at hs
  | h1 l x ih =>
    intro s hs
    rw [maxT_snoc]
    rcases List.mem_append.1 hs with h | h
    · have := ih s h
      omega
    · simp at h
      subst h
      omega
/-- what is read of it -/
theorem CrI.read {n h t : Nat} {C0 C : List UInt8} {V : List (List UInt8)} (H : CrI n h t C0 C V) (ht : t < 18446744073709551616) (h0 : 0 < C0.length) :
    halfT (cutS V (h * n) n) = t ∧ (∃ R, halfB (cutS V (h * n) n) = R ∧ C0 <+: R ∧ R <+: C) ∧ (0 < n → halfT (cutS V ((1 - h) * n) n) < t) ∧ maxT V = t ∧ 0 < t := by
  have hl : (cutS V (h * n) n).length = n := cutS_len (by
    have := H.half
    have := H.fits
    obtain rfl | rfl : h = 0 ∨ h = 1 := by omega
    · omega
    · omega)
  have hT := half_turn ht H.mine h0 (by rw [hl]; exact H.most)
  have hp := H.mine.1.length_le
  have hn : 0 < n := by have := H.most; omega
  have hoth : halfT (cutS V ((1 - h) * n) n) < t := by
    have hl2 : (cutS V ((1 - h) * n) n).length = n := cutS_len (by
      have := H.half
      have := H.fits
      obtain rfl | rfl : h = 0 ∨ h = 1 := by omega
      · omega
      · omega)
    obtain ⟨L, hL⟩ : ∃ L, cutS V ((1 - h) * n) n = L := ⟨_, rfl⟩
    have ho := H.other
    rw [hL] at ho hl2 ⊢
    cases L with
    | nil => simp at hl2; omega
    | cons s r => exact ho s (by simp)
  have h0t : 0 < t := by omega
  refine ⟨hT, ⟨_, rfl, ?_⟩, fun _ => hoth, ?_, h0t⟩
  · unfold halfB
    rw [hT, if_pos h0t]
    exact half_read t ht _ _ _ H.mine (by rw [hl]; exact H.most)
  · refine Nat.le_antisymm (maxT_le _ _ H.all) ?_
    obtain ⟨L, hL⟩ : ∃ L, cutS V (h * n) n = L := ⟨_, rfl⟩
    rw [hL] at hT hl
    cases L with
    | nil => simp at hl; omega
    | cons s r =>
      have h1 : s ∈ cutS V (h * n) n := by rw [hL]; simp
      have h2 := le_maxT V s (by unfold cutS at h1; exact List.mem_of_mem_drop (List.mem_of_mem_take h1))
      have h3 : halfT (s :: r) = turnV s := rfl
      omega
end Go.Proofs.Ytdmnhkmpfnhmdaa
end

section
namespace Go.Proofs.Ytdmnhkmpfnhmdaa
set_option linter.unusedVariables false
open Go.RowKit

theorem half_in {i N m : Nat} (hi : i < 2) (h : 2 * N ≤ m) : i * N + N ≤ m := by
  have := Nat.mul_le_mul_right N (show i ≤ 1 by omega)
  omega
/-- a half as it is read -/
def hlf (S : List (List UInt8)) (W : List (Nat × List UInt8)) (i : Nat) : List (List UInt8) := readS W S (i * (S.length / 2)) (S.length / 2)
def sealB (S : List (List UInt8)) (W : List (Nat × List UInt8)) (i : Nat) : Bool := (toldR (hlf S W i)).any isSeal
/-- the half that Open has picked behind i of them -/
def pick (S : List (List UInt8)) (W : List (Nat × List UInt8)) : Nat → Option Nat
  | 0 => none
  | i + 1 => match pick S W i with
    | none => if sealB S W i then some i else none
    | some j => if sealB S W i ∧ halfT (hlf S W j) < halfT (hlf S W i) then some i else some j
theorem pick_none {S : List (List UInt8)} {W : List (Nat × List UInt8)} {i : Nat} (h : pick S W i = none) : pick S W (i + 1) = if sealB S W i then some i else none := by
  unfold pick
  rw [h]
theorem pick_some {S : List (List UInt8)} {W : List (Nat × List UInt8)} {i j : Nat} (h : pick S W i = some j) : pick S W (i + 1) = if sealB S W i ∧ halfT (hlf S W j) < halfT (hlf S W i) then some i else some j := by
  conv => lhs; unfold pick
  rw [h]
def whichV : Option Nat → Int
  | none => -1
  | some j => (j : Int)
theorem scanF_data : ∀ (f p s : Nat) (l : List UInt8), ∀ x ∈ scanF f p s l, x.2.2.length ≤ 1024
  | 0, _, _, _ => fun x hx => by simp [scanF] at hx
  | f + 1, p, s, l => fun x hx => by
    unfold scanF at hx
    cases hn : nextR s l with
    | bad e => rw [hn] at hx; simp at hx
    | ok k d n t =>
      rw [hn] at hx
      rcases List.mem_cons.1 hx with rfl | h
      · exact nextR_data hn
      · exact scanF_data f _ _ _ x h
theorem told_data (L : List (List UInt8)) : ∀ x ∈ recsR (toldR L), x.2.length ≤ 1024 := fun x hx => by
  have h1 : x ∈ toldR L := List.mem_of_mem_eraseP hx
  unfold toldR at h1
  obtain ⟨y, hy, rfl⟩ := List.mem_map.1 h1
  exact scanF_data _ _ _ _ y hy
/-- the box of the best half -/
structure BestI (S : List (List UInt8)) (W : List (Nat × List UInt8)) (base bb : Nat) (o : Option Nat) (w : World) : Prop where
  low : base ≤ bb
  ok : (o = none ∧ Blk w bb #[.int .u64 0, .slice none 0 0, .bool false] 77) ∨ ∃ j a c rl, o = some j ∧ Blk w bb #[.int .u64 (halfT (hlf S W j) : Int), .slice a rl.length c, .bool true] 77 ∧ Rcs w a c rl ∧ rl.map Rr.pr = recsR (toldR (hlf S W j)) ∧ ∀ k, k ∈ footR a rl → base ≤ k ∧ k ≠ bb
theorem BestI.step {S : List (List UInt8)} {W : List (Nat × List UInt8)} {base bb : Nat} {o : Option Nat} {w w' : World} (h : BestI S W base bb o w) (hs : Step [] w w') : BestI S W base bb o w' := by
  refine ⟨h.low, ?_⟩
  rcases h.ok with ⟨h1, h2⟩ | ⟨j, a, c, rl, h1, h2, h3, h4, h5⟩
  · exact .inl ⟨h1, h2.step hs (by simp)⟩
  · exact .inr ⟨j, a, c, rl, h1, h2.step hs (by simp), h3.stepF hs (by simp), h4, h5⟩

set_option maxRecDepth 20000 in
set_option maxHeartbeats 1000000 in
theorem open_any (base db : Nat) (lv wv : Value) (S : List (List UInt8)) (W : List (Nat × List UInt8)) (w : World) (x0 : Nat) (e0 : Int) (h : Dsk w base db lv wv S W false) (h4 : 4 ≤ S.length) (hbase : base ≤ w.heap.size)
    (hx : (maxT (readS W S 0 S.length) < 9223372036854775808 ∧ x0 = maxT (readS W S 0 S.length) ∧ e0 = 0) ∨ (9223372036854775808 ≤ maxT (readS W S 0 S.length) ∧ x0 = 0 ∧ e0 = 3))
    (P : Ending → World → Prop)
    (hnone : pick S W 2 = none → ∀ w', Step [] w w' → P (.returned (.tuple #[.pointer none, .slice none 0 0, .int .i64 7])) w')
    (hsome : ∀ j, pick S W 2 = some j → e0 = 0 ∧ ∀ w' bb a c rl, Step [] w w' → w.heap.size ≤ bb → Blk w' bb #[.int .u64 (halfT (hlf S W j) : Int), .slice a rl.length c, .bool true] 77 → Rcs w' a c rl → rl.map Rr.pr = recsR (toldR (hlf S W j)) → (∀ k, k ∈ footR a rl → w.heap.size ≤ k ∧ k ≠ bb) →
      Calls Try.prog 29 #[.pointer (some ⟨db, 0, none⟩), .int .i64 (1 - (j : Int)), .int .u64 ((x0 + 1 : Nat) : Int), .slice a rl.length c] w' fun e w'' => ∃ lb, e = .returned (.tuple #[.pointer (some ⟨lb, 0, none⟩), .int .i64 0]) ∧ w''.cell? ⟨bb, 1, none⟩ = some (.slice a rl.length c) ∧ ∀ w3, Step [] w'' w3 → P (.returned (.tuple #[.pointer (some ⟨lb, 0, none⟩), .slice a rl.length c, .int .i64 0])) w3) :
    Calls Try.prog 14 #[.pointer (some ⟨db, 0, none⟩)] w P := by
  have HG := Lib.hid (greatest_any base db lv wv S W w x0 e0 h h4 hx)
  have HLn := Lib.hid (fun W' (hs : Step [] w W') => dlen_any base db lv wv S W false W' (h.step hs (by simp)))
  have hx0 : x0 < 9223372036854775808 := by rcases hx with ⟨h1, h2, h3⟩ | ⟨h1, h2, h3⟩ <;> omega
  have he0 : e0 = 0 ∨ e0 = 3 := by rcases hx with ⟨h1, h2, h3⟩ | ⟨h1, h2, h3⟩ <;> simp [h3]
  have hfew := h.few
  obtain ⟨N, hN⟩ : ∃ N, S.length / 2 = N := ⟨_, rfl⟩
  have hN2 : 2 * N ≤ S.length := by omega
  have hN0 : 0 < N := by omega
  have HRd := Lib.hid (fun (i : Nat) (hi : i < 2) W' (hs : Step [] w W') => read_ok base db lv wv S W (i * N) N W' (h.step hs (by simp)) hN0 (half_in hi hN2))
  have h64 := fun i => h.read64 (i * N) N
  have hrl := fun (i : Nat) (hi : i < 2) => readS_len W S (i * N) N (half_in hi hN2)
  have HR := Lib.hid (And.intro h64 hrl)
  have HNo := Lib.hid hnone
  have HSo := Lib.hid hsome
  have HN := Lib.hid hN
  have e2 : IntKind.i64.wrap ((S.length : Int) / 2) = (N : Int) := by rw [wrap_id _ (by omega) (by omega)]; omega
  have e3 : (S.length : Int) / 2 = (N : Int) := by omega
  clear h hx h64 hrl hnone hsome hN
  have e1 : (e0 == 1) = false := by rcases he0 with rfl | rfl <;> rfl
  have e19 : (e0 == 19) = false := by rcases he0 with rfl | rfl <;> rfl
  go_enter Try.func14, Try.ntmps14
  go_wp2_with fail
  refine HG.out.mono ?_
  rintro e w1 ⟨rfl, hs1⟩
  have HS1 := Lib.hid hs1
  have hz1 := hs1.size
  clear hs1
  go_wp2_with fail
  refine (HLn.out w1 HS1.out).mono ?_
  rintro e w2 ⟨rfl, rfl⟩
  have hB := BestI.mk (S := S) (W := W) (base := w.heap.size) (bb := w1.heap.size) (o := none) hz1 (.inl ⟨rfl, Blk.new w1 #[.int .u64 0, .slice none 0 0, .bool false] 77⟩)
  have HB := Lib.hid hB
  clear hB
  go_wp2_with fail
  go_loopw [9, 31] (fun wv j wr => ∃ i : Nat, i ≤ 2 ∧ wv = .int .i64 (whichV (pick S W i)) ∧ j = .int .i64 (i : Int) ∧ Step [] w wr ∧ BestI S W w.heap.size w1.heap.size (pick S W i) wr) (fun _ j _ => 2 - (intOf j).toNat)
  case atStart => exact ⟨0, by omega, rfl, rfl, HS1.out.alloc _, HB.out⟩
  case round =>
    obtain ⟨i, hi, rfl, rfl, hs, hb⟩ := hrel
    have HS := Lib.hid hs
    have HB := Lib.hid hb
    clear hs hb
    by_cases hlt : i < 2
    · have p1 : (i : Int) < 2 := by omega
      have HRi := Lib.hid (HRd.out i hlt)
      have h64 := HR.out.1 i
      have hrl := HR.out.2 i hlt
      have hhf : hlf S W i = readS W S (i * N) N := by unfold hlf; rw [HN.out]
      obtain ⟨F, hF⟩ : ∃ F, i * N = F := ⟨_, rfl⟩
      have hh : i * N ≤ 1 * N := Nat.mul_le_mul_right N (by omega)
      have e5 : (i : Int) * (N : Int) = (F : Int) := by rw [← hF, Int.natCast_mul]
      have e4 : IntKind.i64.wrap ((i : Int) * (N : Int)) = (F : Int) := by rw [e5]; exact wrap_id _ (by omega) (by omega)
      rw [hF] at HRi h64 hrl hhf
      obtain ⟨L, hL⟩ : ∃ L, readS W S F N = L := ⟨_, rfl⟩
      rw [hL] at HRi h64 hrl hhf
      have HL := Lib.hid (And.intro h64 (And.intro hrl hhf))
      clear hh hF hL h64 hrl hhf e5
      go_wp2_with fail
      refine (HRi.out _ HS.out).mono ?_
      rintro e w3 ⟨v, rfl, ho3, hs3⟩
      rw [flatS_flat] at ho3
      obtain ⟨ra, rc, rfl, hll, hsl, -, -⟩ := owns_slb ho3
      have HLk := Lib.hid (look_any L ra rc w3 hsl HL.out.1 (by rw [HL.out.2.1]; exact hN0) (by rw [HL.out.2.1]; omega))
      rw [HL.out.2.1] at HLk
      rw [hll]
      have HS3 := Lib.hid (HS.out.then hs3 (by simp))
      have HB3 := Lib.hid (HB.out.step hs3)
      clear ho3 hs3 hll hsl
      go_wp2_with fail
      refine HLk.out.mono ?_
      rintro e w4 ⟨la, lc, rl, rfl, hrc, hrp, hrf, hs4⟩
      have hB4 := HB3.out.step hs4
      have HS4 := Lib.hid (HS3.out.then hs4 (by simp))
      have hz3 := HS3.out.size
      have hz4 := hs4.size
      have hsb : (toldR L).any isSeal = sealB S W i := by unfold sealB; rw [HL.out.2.2]
      have hTL : halfT L = halfT (hlf S W i) := by rw [HL.out.2.2]
      rw [hsb]
      have hblt3 : w1.heap.size < w3.heap.size := by
        rcases HB3.out.ok with ⟨h1, h2⟩ | ⟨j, a, c, rl, h1, h2, -⟩
        · exact h2.lt
        · exact h2.lt
      obtain ⟨sb, hsbe⟩ : ∃ sb, sealB S W i = sb := ⟨_, rfl⟩
      obtain ⟨TL, hTLe⟩ : ∃ TL, halfT L = TL := ⟨_, rfl⟩
      rw [hsbe, hTLe]
      have hrp2 : rl.map Rr.pr = recsR (toldR (hlf S W i)) := by rw [HL.out.2.2]; exact hrp
      have hbl : w1.heap.size < w4.heap.size ∧ ∃ a c, ∃ (n : Nat) (b : Bool) (t : Nat), Blk w4 w1.heap.size #[.int .u64 (t : Int), .slice a n c, .bool b] 77 ∧ ((pick S W i = none ∧ t = 0) ∨ ∃ j, pick S W i = some j ∧ t = halfT (hlf S W j)) := by
        rcases hB4.ok with ⟨h1, h2⟩ | ⟨j, a, c, rl, h1, h2, h3, h5, h6⟩
        · exact ⟨h2.lt, none, 0, 0, false, 0, h2, .inl ⟨h1, rfl⟩⟩
        · exact ⟨h2.lt, a, c, rl.length, true, _, h2, .inr ⟨j, h1, rfl⟩⟩
      obtain ⟨hblt, ba, bc, bn, bbl, bt, hblk, hbp⟩ := hbl
      have HK := Lib.hid (And.intro hrc (And.intro hrp2 (And.intro hrf (And.intro hsbe (And.intro (hTLe.symm.trans hTL) (And.intro hB4 (And.intro hbp hblk)))))))
      have c0 := (hblk.cell 0)
      have c1 := (hblk.cell 1)
      have c2 := (hblk.cell 2)
      simp only [List.getElem?_toArray, List.getElem?_cons_zero, List.getElem?_cons_succ] at c0 c1 c2
      have f0 := (hblk.free 0)
      have f1 := (hblk.free 1)
      have f2 := (hblk.free 2)
      have hne : w4.heap.size ≠ w1.heap.size := by omega
      have hne' : w1.heap.size ≠ w4.heap.size := by omega
      clear hB4 hs4 hsb hTL hsbe hTLe hrp hrp2 hrc hrf hblk hbp
      obtain ⟨wh, hwh⟩ : ∃ wh, whichV (pick S W i) = wh := ⟨_, rfl⟩
      have hnext : (sb = false ∧ pick S W (i + 1) = pick S W i) ∨ (sb = true ∧ wh < 0 ∧ pick S W (i + 1) = some i) ∨ (sb = true ∧ 0 ≤ wh ∧ bt < TL ∧ pick S W (i + 1) = some i) ∨ (sb = true ∧ 0 ≤ wh ∧ ¬ bt < TL ∧ pick S W (i + 1) = pick S W i) := by
        obtain ⟨-, -, -, hsbe, hTLe, -, hbp, -⟩ := HK.out
        rcases hbp with ⟨h1, h2⟩ | ⟨j, h1, h2⟩
        · rw [h1] at hwh ⊢
          rw [pick_none h1, hsbe]
          cases sb
          · exact .inl ⟨rfl, by simp⟩
          · exact .inr (.inl ⟨rfl, by rw [← hwh]; simp [whichV], by simp⟩)
        · rw [h1] at hwh ⊢
          rw [pick_some h1, hsbe, ← h2, ← hTLe]
          have hw0 : 0 ≤ wh := by rw [← hwh]; simp [whichV]
          cases sb
          · exact .inl ⟨rfl, by simp⟩
          · by_cases hlt : bt < TL
            · exact .inr (.inr (.inl ⟨rfl, hw0, hlt, by simp [hlt]⟩))
            · exact .inr (.inr (.inr ⟨rfl, hw0, hlt, by simp [hlt]⟩))
      have HNx := Lib.hid (And.intro hnext hwh)
      rw [hwh]
      have HWh := Lib.hid hwh
      clear hwh
      rcases hnext with ⟨rfl, hn⟩ | ⟨rfl, q1, hn⟩ | ⟨rfl, q1, q2, hn⟩ | ⟨rfl, q1, q2, hn⟩
      · have HP := Lib.hid hn
        clear hn HNx
        go_wp2_with fail
        go_roundw
        case rel =>
          refine ⟨i + 1, by omega, by rw [HP.out, HWh.out], by go_num, HS4.out.alloc _, ?_⟩
          rw [HP.out]
          exact HK.out.2.2.2.2.2.1.step ((Step.refl [] w4).alloc _)
        case measure => simp [intOf]; omega
      · have HP := Lib.hid hn
        clear hn HNx
        go_wp2_with fail
        go_roundw
        case rel =>
          obtain ⟨hrc, hrp2, hrf, hsbe, hTLe, -, -, hblk⟩ := HK.out
          refine ⟨i + 1, by omega, by rw [HP.out]; rfl, by go_num, (((HS4.out.setCell (.inr hz1) 0 _).setCell (.inr hz1) 1 _).setCell (.inr hz1) 2 _).alloc _, ?_⟩
          rw [HP.out]
          refine ⟨hz1, .inr ⟨i, la, lc, rl, rfl, ?_, ?_, hrp2, fun k hk => ?_⟩⟩
          · have h := (((hblk.set 0 (.int .u64 (TL : Int))).set 1 (.slice la rl.length lc)).set 2 (.bool true)).alloc (.cells #[.int .u64 (TL : Int), .slice la rl.length lc, .bool true] 77)
            rw [← hTLe]
            simpa using h
          · refine hrc.stepF (F := [w1.heap.size]) (((((Step.refl _ w4).setCell (.inl (by simp)) 0 _).setCell (.inl (by simp)) 1 _).setCell (.inl (by simp)) 2 _).alloc _) (fun k hk hm => ?_)
            have := hrf k hk
            simp at hm
            omega
          · have := hrf k hk
            omega
        case measure => simp [intOf]; omega
      · have HP := Lib.hid hn
        clear hn HNx
        have q3 : (bt : Int) < (TL : Int) := by omega
        go_wp2_with fail
        go_roundw
        case rel =>
          obtain ⟨hrc, hrp2, hrf, hsbe, hTLe, -, -, hblk⟩ := HK.out
          refine ⟨i + 1, by omega, by rw [HP.out]; rfl, by go_num, (((HS4.out.setCell (.inr hz1) 0 _).setCell (.inr hz1) 1 _).setCell (.inr hz1) 2 _).alloc _, ?_⟩
          rw [HP.out]
          refine ⟨hz1, .inr ⟨i, la, lc, rl, rfl, ?_, ?_, hrp2, fun k hk => ?_⟩⟩
          · have h := (((hblk.set 0 (.int .u64 (TL : Int))).set 1 (.slice la rl.length lc)).set 2 (.bool true)).alloc (.cells #[.int .u64 (TL : Int), .slice la rl.length lc, .bool true] 77)
            rw [← hTLe]
            simpa using h
          · refine hrc.stepF (F := [w1.heap.size]) (((((Step.refl _ w4).setCell (.inl (by simp)) 0 _).setCell (.inl (by simp)) 1 _).setCell (.inl (by simp)) 2 _).alloc _) (fun k hk hm => ?_)
            have := hrf k hk
            simp at hm
            omega
          · have := hrf k hk
            omega
        case measure => simp [intOf]; omega
      · have HP := Lib.hid hn
        clear hn HNx
        have q3 : ¬ (bt : Int) < (TL : Int) := by omega
        go_wp2_with fail
        go_roundw
        case rel =>
          refine ⟨i + 1, by omega, by rw [HP.out, HWh.out], by go_num, HS4.out.alloc _, ?_⟩
          rw [HP.out]
          exact HK.out.2.2.2.2.2.1.step ((Step.refl [] w4).alloc _)
        case measure => simp [intOf]; omega
    · obtain rfl : i = 2 := by omega
      have p1 : ¬ ((2 : Nat) : Int) < 2 := by omega
      cases hp : pick S W 2 with
      | none =>
        have hno := HNo.out hp
        have HNn := Lib.hid hno
        clear hno
        simp only [whichV]
        go_wp2_with fail
        go_ret3
        exact HNn.out _ HS.out
      | some j =>
        obtain ⟨rfl, hso⟩ := HSo.out j hp
        have hb := HB.out
        rw [hp] at hb
        rcases hb.ok with ⟨h1, -⟩ | ⟨j', a, c, rl, h1, h2, h3, h5, h6⟩
        · cases h1
        obtain rfl : j = j' := by simpa using h1
        have HFr := Lib.hid (fun W' (hs : Step [] wr W') => hso W' w1.heap.size a c rl (HS.out.then hs (by simp)) hz1 (h2.step hs (by simp)) (h3.stepF hs (by simp)) h5 h6)
        have c1 := h2.cell 1
        simp only [List.getElem?_toArray, List.getElem?_cons_zero, List.getElem?_cons_succ] at c1
        have hj : j ≤ 1 := by
          cases hq : pick S W 1 with
          | none =>
            rw [pick_none hq] at hp
            split at hp
            · cases hp; omega
            · cases hp
          | some q =>
            have hq0 : q = 0 := by
              have h0 : pick S W 1 = if sealB S W 0 then some 0 else none := pick_none rfl
              rw [h0] at hq
              split at hq
              · cases hq; rfl
              · cases hq
            rw [pick_some hq] at hp
            split at hp
            · cases hp; omega
            · cases hp; omega
        have q0 : ¬ (j : Int) < 0 := by omega
        have q2 : IntKind.u64.wrap ((x0 : Int) + 1) = (((x0 + 1 : Nat)) : Int) := by rw [IntKind.wrap_u64]; omega
        have q4 : IntKind.i64.wrap (1 - (j : Int)) = 1 - (j : Int) := wrap_id _ (by omega) (by omega)
        clear hso hb h1 h2 h3 h5 h6
        simp only [whichV]
        go_wp2_with fail
        rw [show ((x0 : Int) + 1) = ((x0 + 1 : Nat) : Int) from rfl]
        refine (HFr.out wr (Step.refl [] wr)).mono ?_
        rintro e w4 ⟨lb, rfl, hc, hk⟩
        have HKk := Lib.hid hk
        clear hk
        go_wp2_with fail
        go_quiet (fail)
        go_wp2_with fail
        go_ret3
        exact HKk.out _ ((Step.refl [] w4).drewN _)
end Go.Proofs.Ytdmnhkmpfnhmdaa
end

section
namespace Go.Proofs.Ytdmnhkmpfnhmdaa
set_option linter.unusedVariables false
open Go.RowKit

theorem chainE_map : ∀ (rs : List (UInt8 × List UInt8)) (p s : Nat), (chainE p s rs).map (·.2) = rs
  | [], _, _ => rfl
  | r :: rs, p, s => by
    show r :: (chainE _ _ rs).map (·.2) = r :: rs
    rw [chainE_map rs]
theorem take_prefix_of {α : Type} {a b : List α} (h : a <+: b) (k : Nat) (hk : a.length ≤ k) : a <+: b.take k := by
  obtain ⟨z, rfl⟩ := h
  rw [List.take_append]
  rw [List.take_of_length_le hk]
  exact List.prefix_append _ _
theorem prefix_take {α : Type} {a b : List α} (h : a <+: b) : a = b.take a.length := by
  obtain ⟨z, rfl⟩ := h
  rw [List.take_left']
  rfl
theorem chainB_mono {a b : List (UInt8 × List UInt8)} (h : a <+: b) (s : Nat) : chainB s a <+: chainB s b := by
  obtain ⟨z, rfl⟩ := h
  rw [chainB_app]
  exact List.prefix_append _ _
/-- what is told of a beginning of a chain that holds another chain -/
theorem told_cut {rs0 rs : List (UInt8 × List UInt8)} {R : List UInt8} (hp : rs0 <+: rs) (h0 : chainB 0 rs0 <+: R) (h1 : R <+: chainB 0 rs) (hd : ∀ r ∈ rs, r.2.length ≤ 1024) :
    ∃ k, rs0.length ≤ k ∧ k ≤ rs.length ∧ (scanR 0 0 R).map (·.2) = rs.take k ∧ (chainB 0 (rs.take k)).length ≤ R.length := by
  have hR := prefix_take h1
  obtain ⟨hc1, hc2⟩ := scan_cut rs 0 0 R.length hd
  rw [← hR] at hc1 hc2
  obtain ⟨k, hk⟩ : ∃ k, (scanR 0 0 R).length = k := ⟨_, rfl⟩
  rw [hk] at hc1 hc2
  have hle : (chainB 0 (rs.take k)).length ≤ R.length := by
    rcases Nat.eq_zero_or_pos k with h | h
    · subst h
      simp [chainB]
    · have := (hc2 (k - 1) (by omega)).1 (by omega)
      rwa [show k - 1 + 1 = k by omega] at this
  have hpre : chainB 0 (rs.take k) <+: R := by
    rw [hR]
    exact take_prefix_of (chainB_mono (List.take_prefix _ _) 0) _ hle
  obtain ⟨rest, hrest⟩ := hpre
  have hsc := (scan_chain (rs.take k) 0 0 rest (fun r hr => hd r (List.mem_of_mem_take hr))).1
  rw [hrest] at hsc
  have hl := congrArg List.length hsc
  rw [hk, List.length_append, chainE_len, List.length_take, Nat.min_eq_left hc1] at hl
  have hnil : scanR (0 + (chainB 0 (rs.take k)).length) (chainS 0 (rs.take k)) rest = [] := List.eq_nil_of_length_eq_zero (by omega)
  rw [hnil, List.append_nil] at hsc
  refine ⟨k, ?_, hc1, by rw [hsc, chainE_map], hle⟩
  rcases Nat.eq_zero_or_pos rs0.length with h | h
  · omega
  · have hl0 := hp.length_le
    have h2 := (hc2 (rs0.length - 1) (by omega)).2 (by
      rw [show rs0.length - 1 + 1 = rs0.length by omega, ← prefix_take hp]
      exact h0.length_le)
    omega
/-- how long a record's frame is -/
def flen (r : UInt8 × List UInt8) : Nat := (headB r.1 r.2).length + 4
def flens (rs : List (UInt8 × List UInt8)) : Nat := (rs.map flen).sum
theorem chain_len : ∀ (rs : List (UInt8 × List UInt8)) (s : Nat), (chainB s rs).length = flens rs
  | [], _ => rfl
  | r :: rs, s => by
    show (frameB s r.1 r.2 ++ chainB _ rs).length = _
    rw [List.length_append, chain_len rs, frame_len]
    simp [flens, flen]
theorem flens_app (a b : List (UInt8 × List UInt8)) : flens (a ++ b) = flens a + flens b := by simp [flens]
theorem flen_seal : flen (255, []) = 7 := by
  have h := headB_len 255 []
  unfold flen
  rw [h]
  rfl
theorem flen_least (r : UInt8 × List UInt8) : 7 ≤ flen r := by
  have h := headB_len r.1 r.2
  have h2 := numB_len r.2.length
  unfold flen
  omega
theorem flens_erase : ∀ (rs : List (UInt8 × List UInt8)), rs.any isSeal = true → flens (recsR rs) + 7 ≤ flens rs
  | [], h => by simp at h
  | r :: rs, h => by
    unfold recsR
    rw [List.eraseP_cons]
    by_cases hr : isSeal r = true
    · rw [hr, cond_true]
      have := flen_least r
      simp only [flens, List.map_cons, List.sum_cons]
      omega
    · simp only [Bool.not_eq_true] at hr
      rw [hr, cond_false]
      have h2 := flens_erase rs (by simpa [hr] using h)
      unfold recsR at h2
      simp only [flens, List.map_cons, List.sum_cons] at h2 ⊢
      omega
theorem flens_most (rs : List (UInt8 × List UInt8)) (h : rs.any isSeal = true) : (chainB 0 (recsR rs ++ [(255, [])])).length ≤ (chainB 0 rs).length := by
  rw [chain_len, chain_len, flens_app]
  have h1 := flens_erase rs h
  have h2 : flens [((255 : UInt8), ([] : List UInt8))] = 7 := by simp [flens, flen_seal]
  omega
theorem any_mono {a b : List (UInt8 × List UInt8)} (h : a <+: b) (ha : a.any isSeal = true) : b.any isSeal = true := by
  obtain ⟨z, rfl⟩ := h
  simp [ha]
/-- records of a base, its seal, and those behind -/
theorem recs_sealed (b l : List (UInt8 × List UInt8)) (hb : ∀ x ∈ b, x.1.toNat ≠ 255) : recsR (b ++ [(255, [])] ++ l) = b ++ l := by
  have hb2 : ∀ x ∈ b, ¬ isSeal x = true := fun x hx hc => by
    have h1 := isSeal_iff x.1 x.2
    have h2 := hb x hx
    have h3 : isSeal x = isSeal (x.1, x.2) := rfl
    rw [h3, h1] at hc
    simp at hc
    exact h2 hc
  unfold recsR
  rw [List.append_assoc, List.eraseP_append_right _ hb2]
  simp [isSeal]
theorem readS_all (S : List (List UInt8)) (W : List (Nat × List UInt8)) : readS W S 0 S.length = syncS W S := by
  unfold readS cutS
  rw [List.drop_zero, List.take_of_length_le (by rw [syncS_len]; exact Nat.le_refl _)]
/-- which half Open picks, and what it tells -/
theorem CrI.pick {h t : Nat} {rs0 rs : List (UInt8 × List UInt8)} {S : List (List UInt8)} {W : List (Nat × List UInt8)} (H : CrI (S.length / 2) h t (chainB 0 rs0) (chainB 0 rs) (syncS W S)) (ht : t < 18446744073709551616) (hp : rs0 <+: rs) (hs : rs0.any isSeal = true) (hd : ∀ r ∈ rs, r.2.length ≤ 1024) :
    pick S W 2 = some h ∧ halfT (hlf S W h) = t ∧ maxT (readS W S 0 S.length) = t ∧ 0 < t ∧ ∃ k, rs0.length ≤ k ∧ k ≤ rs.length ∧ toldR (hlf S W h) = rs.take k ∧ (rs.take k).any isSeal = true ∧ (chainB 0 (recsR (rs.take k) ++ [(255, [])])).length ≤ S.length / 2 * 55 := by
  have hpos : 0 < (chainB 0 rs0).length := by
    cases rs0 with
    | nil => simp at hs
    | cons r l =>
      rw [chain_len]
      have := flen_least r
      simp only [flens, List.map_cons, List.sum_cons]
      omega
  obtain ⟨h1, ⟨R, h2, h3, h4⟩, h5, h6, h7⟩ := H.read ht hpos
  obtain ⟨k, k1, k2, k3, k4⟩ := told_cut hp h3 h4 hd
  have hn : 0 < S.length / 2 := by
    have := H.most
    have := H.mine.1.length_le
    omega
  have h5' := h5 hn
  have hT : hlf S W h = cutS (syncS W S) (h * (S.length / 2)) (S.length / 2) := rfl
  have hO : hlf S W (1 - h) = cutS (syncS W S) ((1 - h) * (S.length / 2)) (S.length / 2) := rfl
  rw [← hT] at h1 h2
  rw [← hO] at h5'
  have htold : toldR (hlf S W h) = rs.take k := by
    unfold toldR
    rw [h2, k3]
  have hsl : (rs.take k).any isSeal = true := any_mono (take_prefix_of hp k k1) hs
  have hsb : sealB S W h = true := by
    unfold sealB
    rw [htold, hsl]
  have hhalf := H.half
  refine ⟨?_, h1, by rw [readS_all]; exact h6, h7, k, k1, k2, htold, hsl, ?_⟩
  · obtain rfl | rfl : h = 0 ∨ h = 1 := by omega
    · have p1 : Proofs.Ytdmnhkmpfnhmdaa.pick S W 1 = some 0 := by rw [pick_none (i := 0) rfl, if_pos hsb]
      rw [pick_some p1, if_neg]
      rintro ⟨-, hlt⟩
      simp only [Nat.sub_zero] at h5'
      omega
    · simp only [Nat.sub_self] at h5'
      cases hq : Proofs.Ytdmnhkmpfnhmdaa.pick S W 1 with
      | none => rw [pick_none hq, if_pos hsb]
      | some j =>
        have h0 : j = 0 := by
          rw [pick_none (i := 0) rfl] at hq
          split at hq
          · cases hq; rfl
          · cases hq
        subst h0
        rw [pick_some hq, if_pos ⟨hsb, by omega⟩]
  · have := flens_most _ hsl
    have := h4.length_le
    have := H.most
    omega
end Go.Proofs.Ytdmnhkmpfnhmdaa
end

section
namespace Go.Proofs.Ytdmnhkmpfnhmdaa
set_option linter.unusedVariables false
open Go.RowKit

/-- a log in memory, on its disk -/
structure Wl (w : World) (base db lb : Nat) (lv wv tv : Value) (S : List (List UInt8)) (W : List (Nat × List UInt8)) (h t : Nat) (rs0 rs : List (UInt8 × List UInt8)) : Prop where
  lg : Lg w base lb db tv h t (chainB 0 rs) (chainS 0 rs)
  dk : Dsk w base db lv wv S W false
  ap : ∀ x, x ∈ footL lb tv → x ∉ footD db lv wv
  li : LogI (S.length / 2) h t (chainB 0 rs0) (chainB 0 rs) S W
  pre : rs0 <+: rs
  sealed : rs0.any isSeal = true
  data : ∀ r ∈ rs, r.2.length ≤ 1024
  four : 4 ≤ S.length
  turn : t < 4611686018427387904
def footW (lb db : Nat) (lv wv tv : Value) : List Nat := footL lb tv ++ footD db lv wv
theorem Wl.step {F : List Nat} {w w' : World} {base db lb : Nat} {lv wv tv : Value} {S : List (List UInt8)} {W : List (Nat × List UInt8)} {h t : Nat} {rs0 rs : List (UInt8 × List UInt8)} (H : Wl w base db lb lv wv tv S W h t rs0 rs) (hs : Step F w w') (hn : ∀ k, k ∈ footW lb db lv wv tv → k ∉ F) : Wl w' base db lb lv wv tv S W h t rs0 rs :=
  ⟨H.lg.step hs (fun k hk => hn k (List.mem_append_left _ hk)), H.dk.step hs (fun k hk => hn k (List.mem_append_right _ hk)), H.ap, H.li, H.pre, H.sealed, H.data, H.four, H.turn⟩
theorem Wl.live {w : World} {base db lb : Nat} {lv wv tv : Value} {S : List (List UInt8)} {W : List (Nat × List UInt8)} {h t : Nat} {rs0 rs : List (UInt8 × List UInt8)} (H : Wl w base db lb lv wv tv S W h t rs0 rs) : ∀ k, k ∈ footW lb db lv wv tv → k < w.heap.size := fun k hk => by
  rcases List.mem_append.1 hk with hk | hk
  · exact H.lg.live k hk
  · exact H.dk.live k hk

/-! what puts leave on the disk -/
theorem LogI.puts {n h t : Nat} {V : List (List UInt8)} {rs : List (UInt8 × List UInt8)} (hh : h ≤ 1) (hf : 2 * n ≤ V.length) (ht : ∀ s ∈ V, turnV s < t) (hl : (chainB 0 rs).length ≤ n * 55) : ∀ k, k ≤ rs.length → LogI n h t [] (chainB 0 (rs.take k)) V (putsK n h t rs k)
  | 0, _ => LogI.new hh hf ht
  | k + 1, hk => by
    have h1 := LogI.puts hh hf ht hl k (by omega)
    have h2 := chainB_take (s := 0) (rs := rs) (i := k) (by omega)
    rw [putsK_next, h2]
    refine h1.more _ ?_
    rw [← h2]
    have h3 := (chainB_mono (List.take_prefix (k + 1) rs) 0).length_le
    omega
theorem fresh_li {h t : Nat} {S : List (List UInt8)} {W : List (Nat × List UInt8)} {rs : List (UInt8 × List UInt8)} (hh : h ≤ 1) (ht : ∀ s ∈ syncS W S, turnV s < t) (hl : (chainB 0 rs).length ≤ S.length / 2 * 55) :
    LogI (S.length / 2) h t (chainB 0 rs) (chainB 0 rs) (syncS (W ++ putsK (S.length / 2) h t rs rs.length) S) [] := by
  have h1 := LogI.puts (V := syncS W S) hh (by rw [syncS_len]; omega) ht hl rs.length (Nat.le_refl _)
  rw [List.take_of_length_le (Nat.le_refl _)] at h1
  rw [syncS_app]
  exact h1.sync
theorem Dsk.len64 {w : World} {base db : Nat} {lv wv : Value} {S : List (List UInt8)} {W : List (Nat × List UInt8)} {d : Bool} (h : Dsk w base db lv wv S W d) : S.length ≤ 4096 := h.few
theorem allR_data {l : List Rr} (hd : ∀ x ∈ l, x.d.length ≤ 1024) : ∀ r ∈ allR l, r.2.length ≤ 1024 := fun r hr => by
  unfold allR at hr
  rcases List.mem_append.1 hr with h | h
  · obtain ⟨x, hx, rfl⟩ := List.mem_map.1 h
    exact hd x hx
  · simp at h
    subst h
    exact Nat.zero_le _

/-- a fresh half -/
theorem wl_fresh (base db half t : Nat) (lv wv : Value) (S : List (List UInt8)) (W : List (Nat × List UInt8)) (a : Option Addr) (cap : Nat) (l : List Rr) (w : World)
    (hD : Dsk w base db lv wv S W false) (h4 : 4 ≤ S.length) (hR : Rcs w a cap l) (hsep : ∀ k, k ∈ footR a l → k ∉ footD db lv wv) (hh : half ≤ 1) (ht : t < 4611686018427387904) (hl : l.length ≤ 300) (hd : ∀ x ∈ l, x.d.length ≤ 1024) (hbase : base ≤ w.heap.size) (hW : W.length + S.length / 2 + l.length + 2 ≤ 950) (hT : ∀ s ∈ syncS W S, turnV s < t) :
    Calls Try.prog 29 #[.pointer (some ⟨db, 0, none⟩), .int .i64 (half : Int), .int .u64 (t : Int), .slice a l.length cap] w fun e w' =>
      (S.length / 2 * 55 < (chainB 0 (allR l)).length ∧ e = .returned (.tuple #[.pointer none, .int .i64 6]) ∧ Step [] w w') ∨
      ((chainB 0 (allR l)).length ≤ S.length / 2 * 55 ∧ ∃ lb tv S', e = .returned (.tuple #[.pointer (some ⟨lb, 0, none⟩), .int .i64 0]) ∧ Wl w' base db lb lv (.slice none 0 0) tv S' [] half t (allR l) (allR l) ∧ S'.length = S.length
        ∧ (∀ x, x ∈ footL lb tv → w.heap.size ≤ x) ∧ Step (footD db lv wv) w w') := by
  refine (fresh_any base db half t lv wv S W a cap l w hD hR hsep hh (by omega) hl hd hbase hW).mono ?_
  rintro e w' (h | ⟨h1, lb, tv, rfl, h2, h3, h5, h6⟩)
  · exact .inl h
  · have hrl : (allR l).length = l.length + 1 := by simp [allR]
    have hli := fresh_li (rs := allR l) hh hT h1
    rw [hrl] at hli
    have hlen : (syncS (W ++ putsK (S.length / 2) half t (allR l) (l.length + 1)) S).length = S.length := syncS_len _ _
    refine .inr ⟨h1, lb, tv, _, rfl, ⟨h2, h3, fun x hx hm => ?_, by rw [hlen]; exact hli, List.prefix_refl _, by simp [allR, isSeal], allR_data hd, by rw [hlen]; exact h4, ht⟩, hlen, h5, h6⟩
    have h7 := h5 x hx
    have h8 : x ∈ footD db lv wv := by
      simp only [footD, List.mem_cons, List.mem_append] at hm ⊢
      rcases hm with h | h | h
      · exact .inl h
      · exact .inr (.inl h)
      · simp [foot, Value.ownBlock] at h
    have := hD.live x h8
    omega

theorem chainB_snoc (rs : List (UInt8 × List UInt8)) (k : UInt8) (d : List UInt8) : chainB 0 (rs ++ [(k, d)]) = chainB 0 rs ++ frameB (chainS 0 rs) k d := by
  rw [chainB_app]
  show _ ++ (frameB _ k d ++ []) = _
  rw [List.append_nil]
theorem chainS_snoc (rs : List (UInt8 × List UInt8)) (k : UInt8) (d : List UInt8) : chainS 0 (rs ++ [(k, d)]) = moreN (chainS 0 rs) (headB k d) := by
  rw [chainS_app]
  rfl
/-- a record is appended -/
theorem wl_append (base db lb : Nat) (lv wv tv : Value) (S : List (List UInt8)) (W : List (Nat × List UInt8)) (h t : Nat) (rs0 rs : List (UInt8 × List UInt8)) (k : UInt8) (a : Option Addr) (cap : Nat) (d : List UInt8) (w : World)
    (H : Wl w base db lb lv wv tv S W h t rs0 rs) (hR : RecIn w a cap d) (hk : k.toNat ≠ 255) (hd : d.length ≤ 1024) (hroom : (chainB 0 rs).length + flen (k, d) ≤ S.length / 2 * 55) (hW : W.length ≤ 950) (hbase : base ≤ w.heap.size) :
    Calls Try.prog 11 #[.pointer (some ⟨lb, 0, none⟩), .agg #[.int .u8 (k.toNat : Int), .slice a d.length cap]] w fun e w' => e = .returned (.int .i64 0) ∧ ∃ tv' wv' W', Wl w' base db lb lv wv' tv' S W' h t rs0 (rs ++ [(k, d)]) ∧ W'.length ≤ W.length + (flen (k, d) + 108) / 55
      ∧ Step (footW lb db lv wv tv) w w' ∧ Fresh w (footW lb db lv wv tv) (footW lb db lv wv' tv') := by
  have hfl : (frameB (chainS 0 rs) k d).length = flen (k, d) := frame_len _ _ _
  refine (lappend_ok base db lb h t (chainS 0 rs) tv lv wv S W (chainB 0 rs) k a cap d w H.lg H.dk H.ap H.li.half (by have := H.turn; omega) (chainS_lt rs 0 (by decide)) hR hk hd (by rw [hfl]; exact hroom) hW hbase).mono ?_
  rintro e w' ⟨rfl, tv', wv', h1, h2, h3, h4, h5, h6⟩
  refine ⟨rfl, tv', wv', _, ⟨?_, h2, h3, ?_, H.pre.trans (List.prefix_append _ _), H.sealed, fun r hr => ?_, H.four, H.turn⟩, ?_, h4, fun x hx => ?_⟩
  · rw [chainB_snoc, chainS_snoc]
    exact h1
  · rw [chainB_snoc]
    exact H.li.more _ (by rw [List.length_append, hfl]; omega)
  · rcases List.mem_append.1 hr with hr | hr
    · exact H.data r hr
    · simp at hr
      subst hr
      exact hd
  · rw [List.length_append, putW_len]
    unfold putN
    rw [List.length_append, hfl]
    omega
  · unfold footW at hx ⊢
    rcases List.mem_append.1 hx with hx | hx
    · rcases List.mem_cons.1 hx with rfl | hx
      · exact .inl (by simp [footL])
      · exact .inr (h6 x hx)
    · simp only [footD, List.mem_cons, List.mem_append] at hx ⊢
      rcases hx with hx | hx | hx
      · exact .inl (.inr (.inl hx))
      · exact .inl (.inr (.inr (.inl hx)))
      · exact (h5 x hx).imp (fun h => .inr (.inr (.inr h))) id
/-- all is synced -/
theorem wl_sync (base db lb : Nat) (lv wv tv : Value) (S : List (List UInt8)) (W : List (Nat × List UInt8)) (h t : Nat) (rs0 rs : List (UInt8 × List UInt8)) (w : World) (H : Wl w base db lb lv wv tv S W h t rs0 rs) :
    Calls Try.prog 12 #[.pointer (some ⟨lb, 0, none⟩)] w fun e w' => e = .returned (.int .i64 0) ∧ ∃ S', Wl w' base db lb lv (.slice none 0 0) tv S' [] h t rs rs ∧ S'.length = S.length ∧ Step (footD db lv wv) w w' := by
  refine (lsync_any base db lb h t (chainB 0 rs).length (chainS 0 rs) tv lv wv S W w H.lg.blk H.dk).mono ?_
  rintro e w' ⟨rfl, h1, h2⟩
  have hl : (syncS W S).length = S.length := syncS_len _ _
  refine ⟨rfl, _, ⟨H.lg.step h2 (fun k hk hm => H.ap k hk hm), h1, fun x hx hm => H.ap x hx ?_, by rw [hl]; exact H.li.sync, List.prefix_refl _, any_mono H.pre H.sealed, H.data, by rw [hl]; exact H.four, H.turn⟩, hl, h2⟩
  simp only [footD, List.mem_cons, List.mem_append] at hm ⊢
  rcases hm with h | h | h
  · exact .inl h
  · exact .inr (.inl h)
  · simp [foot, Value.ownBlock] at h
theorem wl_room (base db lb : Nat) (lv wv tv : Value) (S : List (List UInt8)) (W : List (Nat × List UInt8)) (h t : Nat) (rs0 rs : List (UInt8 × List UInt8)) (w : World) (H : Wl w base db lb lv wv tv S W h t rs0 rs) :
    Calls Try.prog 21 #[.pointer (some ⟨lb, 0, none⟩)] w fun e w' => e = .returned (.int .i64 ((S.length / 2 * 55 - flens rs : Nat) : Int)) ∧ ∃ n, w' = w.drewN n := by
  have := H.li.most
  have h2 := lroom_any base db lb h t (chainB 0 rs).length (chainS 0 rs) tv lv wv S W false w H.lg.blk H.dk (by omega)
  rw [chain_len] at h2
  exact h2
theorem wl_turn (base db lb : Nat) (lv wv tv : Value) (S : List (List UInt8)) (W : List (Nat × List UInt8)) (h t : Nat) (rs0 rs : List (UInt8 × List UInt8)) (w : World) (H : Wl w base db lb lv wv tv S W h t rs0 rs) :
    Calls Try.prog 20 #[.pointer (some ⟨lb, 0, none⟩)] w fun e w' => e = .returned (.int .u64 (t : Int)) ∧ w = w' := turn_any db lb h t _ _ tv w H.lg.blk

/-- what Open finds: a synced chain that is sealed, and some of what is behind it -/
theorem wl_open (base db : Nat) (lv wv : Value) (S : List (List UInt8)) (W : List (Nat × List UInt8)) (h t : Nat) (rs0 rs : List (UInt8 × List UInt8)) (w : World) (hD : Dsk w base db lv wv S W false) (h4 : 4 ≤ S.length) (hC : CrI (S.length / 2) h t (chainB 0 rs0) (chainB 0 rs) (syncS W S))
    (hp : rs0 <+: rs) (hsl : rs0.any isSeal = true) (hd : ∀ r ∈ rs, r.2.length ≤ 1024) (ht : t + 1 < 4611686018427387904) (hl : rs.length ≤ 300) (hW : W.length + S.length / 2 + rs.length + 2 ≤ 950) (hbase : base ≤ w.heap.size) :
    Calls Try.prog 14 #[.pointer (some ⟨db, 0, none⟩)] w fun e w' => ∃ lb tv S' a c rl k, e = .returned (.tuple #[.pointer (some ⟨lb, 0, none⟩), .slice a rl.length c, .int .i64 0]) ∧ rs0.length ≤ k ∧ k ≤ rs.length ∧ rl.map Rr.pr = recsR (rs.take k) ∧ Rcs w' a c rl
      ∧ Wl w' base db lb lv (.slice none 0 0) tv S' [] (1 - h) (t + 1) (allR rl) (allR rl) ∧ S'.length = S.length ∧ (∀ x, x ∈ footR a rl → w.heap.size ≤ x ∧ x ∉ footL lb tv) ∧ (∀ x, x ∈ footL lb tv → w.heap.size ≤ x) ∧ Step (footD db lv wv) w w' := by
  obtain ⟨hpk, hhT, hmx, h0t, k, k1, k2, htold, hany, hroom⟩ := hC.pick (by omega) hp hsl hd
  refine open_any base db lv wv S W w t 0 hD h4 hbase (.inl ⟨by omega, hmx.symm, rfl⟩) _ (fun hn => by rw [hpk] at hn; cases hn) (fun j hj => ?_)
  rw [hpk] at hj
  cases hj
  refine ⟨rfl, fun w' bb a c rl hs hbb hblk hrc hrp hrf => ?_⟩
  rw [htold] at hrp
  have hh := hC.half
  have hall : allR rl = recsR (rs.take k) ++ [(255, [])] := by unfold allR; rw [hrp]
  have hrl : rl.length ≤ rs.length := by
    have h1 := congrArg List.length hrp
    rw [List.length_map] at h1
    have h2 : (recsR (rs.take k)).length ≤ (rs.take k).length := List.length_eraseP_le ..
    rw [List.length_take] at h2
    omega
  have hD' := hD.step hs (by simp)
  have he : (1 : Int) - (h : Int) = ((1 - h : Nat) : Int) := by omega
  rw [he]
  refine (wl_fresh base db (1 - h) (t + 1) lv wv S W a c rl w' hD' h4 hrc (fun x hx hm => ?_) (by omega) ht (by omega) (fun x hx => ?_) (Nat.le_trans hbase hs.size) (by omega) (fun s hs2 => ?_)).mono ?_
  · have h1 := (hrf x hx).1
    have h2 := hD.live x hm
    omega
  · have h1 : x.pr ∈ rl.map Rr.pr := List.mem_map.2 ⟨x, hx, rfl⟩
    rw [hrp] at h1
    exact hd _ (List.mem_of_mem_take (List.mem_of_mem_eraseP h1))
  · have := hC.all s hs2
    omega
  · rintro e w2 (⟨h1, -, -⟩ | ⟨-, lb, tv, S', rfl, h2, h3, h5, h6⟩)
    · rw [hall] at h1
      omega
    · have hz := hs.size
      have hbD : bb ∉ footD db lv wv := fun hm => by
        have := hD.live bb hm
        omega
      refine ⟨lb, rfl, ((hblk.step h6 hbD).cell 1).trans rfl, fun w3 hs3 => ⟨lb, tv, S', a, c, rl, k, rfl, k1, k2, hrp, ?_, h2.step hs3 (by simp), h3, fun x hx => ⟨(hrf x hx).1, fun hm => ?_⟩, fun x hx => ?_, ?_⟩⟩
      · exact (hrc.stepF h6 (fun x hx hm => by
          have h1 := (hrf x hx).1
          have h2 := hD.live x hm
          omega)).stepF hs3 (by simp)
      · have h1 := hrc.recs.live x hx
        have h2 := h5 x hm
        omega
      · have := h5 x hx
        omega
      · exact ((hs.mono (by simp)).then h6 (fun x hx => .inl hx)).then hs3 (by simp)
end Go.Proofs.Ytdmnhkmpfnhmdaa
end

section
namespace Go.Proofs.Ytdmnhkmpfnhmdaa
set_option linter.unusedVariables false
open Go.RowKit

theorem rcs_none (w : World) : Rcs w none 0 [] := ⟨⟨fun i hi => absurd hi (Nat.not_lt_zero _), Nat.le_refl _, fun _ => ⟨rfl, rfl⟩, fun x hx => absurd hx (by simp)⟩, (fun ad h => (by cases h)), Nat.zero_le _⟩
theorem footR_none : footR none [] = [] := rfl
theorem seal_len : (chainB 0 (allR [])).length = 7 := by
  rw [chain_len]
  simp [allR, flens, flen_seal]

/-- a disk is formatted -/
theorem wl_format (base db : Nat) (lv wv : Value) (S : List (List UInt8)) (W : List (Nat × List UInt8)) (w : World) (hD : Dsk w base db lv wv S W false) (h4 : 4 ≤ S.length) (ht : maxT (syncS W S) + 1 < 4611686018427387904) (hW : W.length + S.length / 2 + 2 ≤ 950) (hbase : base ≤ w.heap.size) :
    Calls Try.prog 10 #[.pointer (some ⟨db, 0, none⟩)] w fun e w' => ∃ lb tv S', e = .returned (.tuple #[.pointer (some ⟨lb, 0, none⟩), .int .i64 0])
      ∧ Wl w' base db lb lv (.slice none 0 0) tv S' [] 0 (maxT (syncS W S) + 1) [(255, [])] [(255, [])] ∧ S'.length = S.length ∧ (∀ x, x ∈ footL lb tv → w.heap.size ≤ x) ∧ Step (footD db lv wv) w w' := by
  obtain ⟨t, hT⟩ : ∃ t, maxT (syncS W S) = t := ⟨_, rfl⟩
  have HG := Lib.hid (greatest_any base db lv wv S W w t 0 hD h4 (.inl ⟨by rw [readS_all, hT]; omega, by rw [readS_all, hT], rfl⟩))
  have HF := Lib.hid (fun W' (hs : Step [] w W') => wl_fresh base db 0 (t + 1) lv wv S W none 0 [] W' (hD.step hs (by simp)) h4 (rcs_none W') (by rw [footR_none]; simp) (by omega) (by omega) (by simp) (by simp) (Nat.le_trans hbase hs.size) (by simp; omega) (fun s hs2 => by have := le_maxT _ s hs2; omega))
  have q2 : IntKind.u64.wrap ((t : Int) + 1) = (t : Int) + 1 := by rw [IntKind.wrap_u64]; omega
  rw [hT]
  clear hD hT
  go_enter Try.func10, Try.ntmps10
  go_wp2_with fail
  refine HG.out.mono ?_
  rintro e w1 ⟨rfl, hs1⟩
  have HF1 := Lib.hid (HF.out w1 hs1)
  have HS1 := Lib.hid hs1
  clear hs1
  go_wp2_with fail
  refine Calls.mono HF1.out ?_
  rintro e w2 (⟨h1, -, -⟩ | ⟨-, lb, tv, S', rfl, h2, h3, h5, h6⟩)
  · rw [seal_len] at h1
    omega
  have HK := Lib.hid (And.intro h2 (And.intro h3 (And.intro h5 h6)))
  clear h2 h3 h5 h6
  go_wp2_with fail
  go_ret2
  obtain ⟨h2, h3, h5, h6⟩ := HK.out
  exact ⟨lb, tv, S', rfl, h2, h3, fun x hx => Nat.le_trans HS1.out.size (h5 x hx), (HS1.out.mono (by simp)).then h6 (fun x hx => .inl hx)⟩

set_option maxRecDepth 20000 in
set_option maxHeartbeats 1000000 in
/-- a log is rewritten with a base -/
theorem wl_rewrite (base db lb : Nat) (lv wv tv : Value) (S : List (List UInt8)) (W : List (Nat × List UInt8)) (h t : Nat) (rs0 rs : List (UInt8 × List UInt8)) (a : Option Addr) (cap : Nat) (l : List Rr) (w : World)
    (H : Wl w base db lb lv wv tv S W h t rs0 rs) (hR : Rcs w a cap l) (hsep : ∀ k, k ∈ footR a l → k ∉ footW lb db lv wv tv) (hk : ∀ x ∈ l, x.k.toNat ≠ 255) (hd : ∀ x ∈ l, x.d.length ≤ 1024) (hl : l.length ≤ 300) (hW : W.length + S.length / 2 + l.length + 2 ≤ 950) (ht : t + 1 < 4611686018427387904) (hbase : base ≤ w.heap.size) :
    Calls Try.prog 23 #[.pointer (some ⟨lb, 0, none⟩), .slice a l.length cap] w fun e w' =>
      (S.length / 2 * 55 < (chainB 0 (allR l)).length ∧ e = .returned (.int .i64 6) ∧ Step [] w w') ∨
      ((chainB 0 (allR l)).length ≤ S.length / 2 * 55 ∧ e = .returned (.int .i64 0) ∧ ∃ tv' S', Wl w' base db lb lv (.slice none 0 0) tv' S' [] (1 - h) (t + 1) (allR l) (allR l) ∧ S'.length = S.length ∧ (∀ x, x ∈ foot tv' → w.heap.size ≤ x) ∧ Step (footW lb db lv wv tv) w w') := by
  have hh := H.li.half
  have hT := (H.li.crash (by have := H.turn; omega) (fun _ => true) W.length).all
  have HF := Lib.hid (fun W' (hs : Step [] w W') => wl_fresh base db (1 - h) (t + 1) lv wv S W a cap l W' (H.dk.step hs (by simp)) H.four (hR.stepF hs (by simp)) (fun k hk hm => hsep k hk (List.mem_append_right _ hm)) (by omega) ht hl hd (Nat.le_trans hbase hs.size) hW (fun s hs2 => by have := hT s hs2; omega))
  have HH := Lib.hid H
  have HR := Lib.hid hR
  have HKd := Lib.hid (And.intro hk hd)
  obtain ⟨NN, hNN⟩ : ∃ NN, l.length = NN := ⟨_, rfl⟩
  rw [hNN] at HF ⊢
  have HNN := Lib.hid hNN
  have hltb := H.lg.blk.lt
  have d0 := H.lg.blk.cell 0
  have d1 := H.lg.blk.cell 1
  have d2 := H.lg.blk.cell 2
  simp only [logC, List.getElem?_toArray, List.getElem?_cons_zero, List.getElem?_cons_succ] at d0 d1 d2
  have hNN3 : NN ≤ 300 := by omega
  clear H hR hT hk hd hsep hNN
  go_enter Try.func23, Try.ntmps23
  go_wp2_with fail
  go_loopw [14] (fun j wr => ∃ i : Nat, i ≤ NN ∧ j = .int .i64 (i : Int) ∧ Step [] w wr) (fun j _ => NN - (intOf j).toNat)
  case atStart => exact ⟨0, by omega, rfl, Step.refl _ _⟩
  case round =>
    obtain ⟨i, hi, rfl, hs⟩ := hrel
    have HS := Lib.hid hs
    clear hs
    by_cases hlt : i < NN
    · have p1 : (i : Int) < (NN : Int) := by omega
      have p0 : (0 : Int) ≤ (i : Int) := by omega
      obtain ⟨b, off, rfl, hblt, c0, c1⟩ := (HR.out.recs.step HS.out).cells i (by rw [HNN.out]; exact hlt)
      have hx : l.getD i rr0 ∈ l := by rw [List.getD_eq_getElem?_getD, List.getElem?_eq_getElem (by rw [HNN.out]; exact hlt)]; exact List.getElem_mem _
      have hxk := HKd.out.1 _ hx
      have hxd := HKd.out.2 _ hx
      obtain ⟨x, hxe⟩ : ∃ x, l.getD i rr0 = x := ⟨_, rfl⟩
      rw [hxe] at c0 c1 hxk hxd
      simp only [Rr.sl] at c1
      have HRi := Lib.hid (fun W' => right_any x.k x.a x.d.length x.c 0 W' (.inr (.inr ⟨hxk, hxd, rfl⟩)))
      clear hx hxe
      go_wp2_with fail
      refine (HRi.out _).mono ?_
      rintro e w4 ⟨rfl, hs4⟩
      have HS4 := Lib.hid ((HS.out.alloc _).then hs4 (by simp))
      clear hs4
      go_wp2_with fail
      go_roundw
      case rel => exact ⟨i + 1, by omega, by go_num, HS4.out⟩
      case measure => simp [intOf]; omega
    · obtain rfl : i = NN := by omega
      have p1 : ¬ (i : Int) < (i : Int) := by omega
      have e0 := (HS.out.cell hltb (by simp)).trans d0
      have e1 := (HS.out.cell hltb (by simp)).trans d1
      have e2 := (HS.out.cell hltb (by simp)).trans d2
      have q2 : IntKind.u64.wrap ((t : Int) + 1) = (t : Int) + 1 := by rw [IntKind.wrap_u64]; omega
      have q4 : IntKind.i64.wrap (1 - (h : Int)) = 1 - (h : Int) := wrap_id _ (by omega) (by omega)
      have hltr := Nat.lt_of_lt_of_le hltb HS.out.size
      clear d0 d1 d2
      go_wp2_with fail
      have hnn : Nonempty (ClsW (Step [] wr.drew)) := ⟨⟨_, Step.refl _ _⟩⟩
      have x0 : ∀ y : ClsW (Step [] wr.drew), y.val.cell? ⟨lb, 0, none⟩ = some (.pointer (some ⟨db, 0, none⟩)) := fun y => (y.ok.cell hltr (by simp)).trans e0
      have x1 : ∀ y : ClsW (Step [] wr.drew), y.val.cell? ⟨lb, 1, none⟩ = some (.int .i64 (h : Int)) := fun y => (y.ok.cell hltr (by simp)).trans e1
      have x2 : ∀ y : ClsW (Step [] wr.drew), y.val.cell? ⟨lb, 2, none⟩ = some (.int .u64 (t : Int)) := fun y => (y.ok.cell hltr (by simp)).trans e2
      refine wp_region_ph [[0, 1, 2, 3, 4, 5, 6, 7, 8, 9, 10, 11, 12, 13, 14], [15], [16, 17, 19, 18, 20]] (by kernel_rfl) (by kernel_rfl) ?_
      refine .inl ⟨Step [], SpV undef, spV_law undef, ?_⟩
      simp only [opsAt, List.getElem?_cons_zero, List.getElem?_cons_succ, Option.toList, List.cons_append, List.nil_append]
      refine wpR_pre (spV_law undef) anti_norm 15 _ _ _ ?_ rfl
      simp only [List.take_succ_cons, List.take_zero, List.drop_succ_cons, List.drop_zero]
      repeat (go_big_quiet_step (fail))
      refine wpQuiet_nil ?_
      unfold wpR
      intro w7 hs7 _
      have hs07 : Step [] w w7 := HS.out.then ((Step.refl [] wr).drew.then hs7 (by simp)) (by simp)
      have HF7 := Lib.hid (HF.out w7 hs07)
      have HS7 := Lib.hid hs07
      have hen : (1 : Int) - (h : Int) = ((1 - h : Nat) : Int) := by omega
      have het : (t : Int) + 1 = ((t + 1 : Nat) : Int) := rfl
      refine .inr ⟨15, _, rfl, rfl, by rfl, ?_⟩
      refine ph_call 29 _ _ rfl Try.func29 (by kernel_rfl) (by kernel_rfl) #[.pointer (some ⟨db, 0, none⟩), .int .i64 ((1 - h : Nat) : Int), .int .u64 ((t + 1 : Nat) : Int), .slice a i cap] (by rw [← hen, ← het]; simp [Act.eval]) HF7.out ?_
      clear x0 x1 x2 hnn hs7 hs07 hen het
      rintro e w8 (⟨h1, rfl, hs8⟩ | ⟨h1, nb, tv', S', rfl, h2, h3, h5, h6⟩)
      · have HS8 := Lib.hid (HS7.out.then hs8 (by simp))
        clear hs8
        refine ⟨_, rfl, ?_⟩
        have hnn : Nonempty (ClsW (Step [] w8)) := ⟨⟨_, Step.refl _ _⟩⟩
        refine .inl ⟨Step [], SpV undef, spV_law undef, ?_⟩
        simp only [opsAt, List.getElem?_cons_zero, List.getElem?_cons_succ, Option.toList, List.cons_append, List.nil_append]
        refine wpR_pre (spV_law undef) anti_norm 5 _ _ _ ?_ rfl
        simp only [List.take_succ_cons, List.take_zero, List.drop_succ_cons, List.drop_zero]
        go_simp
        repeat (go_big_quiet_step (fail))
        refine wpQuiet_nil ?_
        unfold wpR
        intro w9 hs9 _
        unfold wpPh
        clear hnn
        have HS9 := Lib.hid (HS8.out.then hs9 (by simp))
        clear hs9
        go_wp2_with fail
        go_ret
        exact .inl ⟨h1, rfl, HS9.out⟩
      · have HK := Lib.hid (And.intro h2 (And.intro h3 (And.intro h5 h6)))
        clear h2 h3 h5 h6
        refine ⟨_, rfl, ?_⟩
        have hnn : Nonempty (ClsW (Step [] w8)) := ⟨⟨_, Step.refl _ _⟩⟩
        refine .inl ⟨Step [], SpV undef, spV_law undef, ?_⟩
        simp only [opsAt, List.getElem?_cons_zero, List.getElem?_cons_succ, Option.toList, List.cons_append, List.nil_append]
        refine wpR_pre (spV_law undef) anti_norm 5 _ _ _ ?_ rfl
        simp only [List.take_succ_cons, List.take_zero, List.drop_succ_cons, List.drop_zero]
        go_simp
        repeat (go_big_quiet_step (fail))
        refine wpQuiet_nil ?_
        unfold wpR
        intro w9 hs9 _
        unfold wpPh
        clear hnn
        obtain ⟨h2, h3, h5, h6⟩ := HK.out
        have h9 := h2.step hs9 (by simp)
        obtain ⟨ta, tc, rfl, hsl⟩ := h9.lg.tail
        have hz7 := HS7.out.size
        have hz9 := hs9.size
        have hlbD : lb ∉ footD db lv wv := HH.out.ap lb (by simp [footL])
        have hbl : Blk w9 lb (logC db h t (chainB 0 rs).length (chainS 0 rs) tv) 69 := ((HH.out.lg.blk.step HS7.out (by simp)).step h6 hlbD).step hs9 (by simp)
        have hnb : w7.heap.size ≤ nb := h5 nb (by simp [footL])
        have hne : nb ≠ lb := by omega
        have hne2 : lb ≠ nb := by omega
        have HB := Lib.hid (And.intro h9 (And.intro hsl (And.intro hbl (And.intro hlbD hs9))))
        have hnbl := h9.lg.blk
        obtain ⟨h', hh'⟩ : ∃ h', 1 - h = h' := ⟨_, rfl⟩
        obtain ⟨t', ht'⟩ : ∃ t', t + 1 = t' := ⟨_, rfl⟩
        obtain ⟨E, hE⟩ : ∃ E, (chainB 0 (allR l)).length = E := ⟨_, rfl⟩
        obtain ⟨sm, hsm⟩ : ∃ sm, chainS 0 (allR l) = sm := ⟨_, rfl⟩
        obtain ⟨TL, hTL⟩ : ∃ TL, (tailC (chainB 0 (allR l))).length = TL := ⟨_, rfl⟩
        rw [hh', ht', hE, hsm, hTL] at hnbl
        have HEq := Lib.hid (And.intro hh' (And.intro ht' (And.intro hE (And.intro hsm hTL))))
        have k0 := hnbl.cell 0
        have k1 := hnbl.cell 1
        have k2 := hnbl.cell 2
        have k3 := hnbl.cell 3
        have k4 := hnbl.cell 4
        have k5 := hnbl.cell 5
        have m0 := hbl.cell 0
        have m1 := hbl.cell 1
        have m2 := hbl.cell 2
        have m3 := hbl.cell 3
        have m4 := hbl.cell 4
        obtain ⟨tva, tvc, htv, -⟩ := HH.out.lg.tail
        rw [htv] at hbl
        have m5 := hbl.cell 5
        have f0 := hbl.free 0
        have f1 := hbl.free 1
        have f2 := hbl.free 2
        have f3 := hbl.free 3
        have f4 := hbl.free 4
        have f5 := hbl.free 5
        simp only [logC, List.getElem?_toArray, List.getElem?_cons_zero, List.getElem?_cons_succ] at k0 k1 k2 k3 k4 k5 m0 m1 m2 m3 m4 m5
        clear h2 h3 h5 h6 h9 hsl hbl hs9 hnbl hh' ht' hE hsm hTL htv hlbD
        go_wp2_with fail
        go_ret
        obtain ⟨h9, hsl, hbl, hlbD, hs9⟩ := HB.out
        obtain ⟨hh', ht', hE, hsm, hTL⟩ := HEq.out
        obtain ⟨h2, h3, h5, h6⟩ := HK.out
        obtain ⟨w10, hw10⟩ : ∃ w10, (((((w9.setCell ⟨lb, 0, none⟩ (.pointer (some ⟨db, 0, none⟩))).setCell ⟨lb, 1, none⟩ (.int .i64 (h' : Int))).setCell ⟨lb, 2, none⟩ (.int .u64 (t' : Int))).setCell ⟨lb, 3, none⟩ (.int .i64 (E : Int))).setCell ⟨lb, 4, none⟩ (.int .u32 (sm : Int))).setCell ⟨lb, 5, none⟩ (.slice ta TL tc) = w10 := ⟨_, rfl⟩
        rw [hw10]
        have hst : Step [lb] w9 w10 := by rw [← hw10]; exact ((((((Step.refl _ w9).setCell (.inl (by simp)) 0 _).setCell (.inl (by simp)) 1 _).setCell (.inl (by simp)) 2 _).setCell (.inl (by simp)) 3 _).setCell (.inl (by simp)) 4 _).setCell (.inl (by simp)) 5 _
        have hb10 : Blk w10 lb (logC db (1 - h) (t + 1) (chainB 0 (allR l)).length (chainS 0 (allR l)) (.slice ta (tailC (chainB 0 (allR l))).length tc)) 69 := by
          have hx := (((((hbl.set 0 (.pointer (some ⟨db, 0, none⟩))).set 1 (.int .i64 (h' : Int))).set 2 (.int .u64 (t' : Int))).set 3 (.int .i64 (E : Int))).set 4 (.int .u32 (sm : Int))).set 5 (.slice ta TL tc)
          rw [hw10] at hx
          rw [hh', ht', hE, hsm, hTL]
          simpa [logC] using hx
        have htf : lb ∉ foot (.slice ta (tailC (chainB 0 (allR l))).length tc) := fun hm => by
          have := h5 lb (List.mem_cons_of_mem _ hm)
          omega
        have hDn : ∀ x, x ∈ footD db lv (.slice none 0 0) → x ∈ footD db lv wv := fun x hx => by
          simp only [footD, List.mem_cons, List.mem_append] at hx ⊢
          rcases hx with h | h | h
          · exact .inl h
          · exact .inr (.inl h)
          · simp [foot, Value.ownBlock] at h
        refine .inr ⟨h1, rfl, _, S', ⟨⟨hb10, ⟨ta, tc, rfl, hsl.step hst (fun b hb hm => ?_)⟩, fun k hk => ⟨(h9.lg.tlow k hk).1, Nat.lt_of_lt_of_le (h9.lg.tlow k hk).2 hst.size⟩, HH.out.lg.low, htf⟩, h9.dk.step hst (fun k hk hm => ?_), fun x hx hm => ?_, h9.li, h9.pre, h9.sealed, h9.data, h9.four, h9.turn⟩, h3, fun x hx => ?_, ?_⟩
        · simp at hm
          subst hm
          exact htf (blkOf_foot _ _ _ _ hb)
        · simp at hm
          subst hm
          exact hlbD (hDn _ hk)
        · rcases List.mem_cons.1 hx with h | h
          · subst h
            exact hlbD (hDn _ hm)
          · exact h9.ap x (List.mem_cons_of_mem _ h) hm
        · have := h5 x (List.mem_cons_of_mem _ hx)
          omega
        · refine (((HS7.out.mono (by simp)).then h6 (fun x hx => .inl (List.mem_append_right _ hx))).then hs9 (by simp)).then hst (fun x hx => .inl ?_)
          simp at hx
          subst hx
          exact List.mem_append_left _ (by simp [footL])
end Go.Proofs.Ytdmnhkmpfnhmdaa
end

section
namespace Go.Proofs.Ytdmnhkmpfnhmdaa
set_option linter.unusedVariables false
open Go.RowKit

theorem one_byte (w : World) (b : UInt8) (T : TypeId) (fr : Nat × Nat) : Bytes (w.alloc (.cells #[.int .u8 (b.toNat : Int)] T fr)) (some ⟨w.heap.size, 0, none⟩) [b] := by
  intro i hi
  refine ⟨w.heap.size, 0, rfl, by simp, ?_⟩
  match i, hi with
  | 0, _ => exact World.cell?_alloc_mark w _ T fr 0
theorem turn_zero : turnV zeroS = 0 := by decide
theorem maxT_zero (n : Nat) : maxT (List.replicate n zeroS) = 0 := Nat.le_zero.1 (maxT_le _ _ (fun s hs => by
  rw [List.eq_of_mem_replicate hs, turn_zero]
  exact Nat.le_refl _))
theorem flen_most (r : UInt8 × List UInt8) : flen r ≤ r.2.length + 16 := by
  have h := headB_len r.1 r.2
  have h2 := numB_len r.2.length
  unfold flen
  omega
theorem flens_seal : flens [(255, [])] = 7 := by simp [flens, flen_seal]
theorem Wl.low {w : World} {base db lb : Nat} {lv wv tv : Value} {S : List (List UInt8)} {W : List (Nat × List UInt8)} {h t : Nat} {rs0 rs : List (UInt8 × List UInt8)} (H : Wl w base db lb lv wv tv S W h t rs0 rs) : ∀ k, k ∈ footW lb db lv wv tv → base ≤ k := fun k hk => by
  rcases List.mem_append.1 hk with hk | hk
  · rcases List.mem_cons.1 hk with rfl | hk
    · exact H.lg.low
    · exact (H.lg.tlow k hk).1
  · exact H.dk.base k hk
/-- a crash that keeps nothing -/
theorem LogI.none {n h t : Nat} {C0 C : List UInt8} {S : List (List UInt8)} {W : List (Nat × List UInt8)} (H : LogI n h t C0 C S W) : LogI n h t C0 C0 S [] :=
  ⟨H.half, H.fits, Nat.le_trans H.pre.length_le H.most, List.prefix_refl _, H.there, H.old, fun x hx => absurd hx (by simp), H.there⟩
theorem Step.base {F : List Nat} {w w1 w2 : World} (h : Step [] w w1) (hs : Step F w1 w2) (hb : ∀ k, k ∈ F → w.heap.size ≤ k) : Step [] w w2 := h.then hs (fun k hk => .inr (hb k hk))
/-- a blank disk is formatted -/
theorem wl_format_new (base db n : Nat) (lv wv : Value) (w : World) (hD : Dsk w base db lv wv (List.replicate n zeroS) [] false) (h4 : 4 ≤ n) (hn : n ≤ 1000) (hbase : base ≤ w.heap.size) :
    Calls Try.prog 10 #[.pointer (some ⟨db, 0, none⟩)] w fun e w' => ∃ lb tv S', e = .returned (.tuple #[.pointer (some ⟨lb, 0, none⟩), .int .i64 0])
      ∧ Wl w' base db lb lv (.slice none 0 0) tv S' [] 0 1 [(255, [])] [(255, [])] ∧ S'.length = n ∧ (∀ x, x ∈ footL lb tv → w.heap.size ≤ x) ∧ Step (footD db lv wv) w w' := by
  have h0 : maxT (syncS [] (List.replicate n zeroS)) = 0 := by rw [syncS_nil, maxT_zero]
  have h := wl_format base db lv wv (List.replicate n zeroS) [] w hD (by simpa using h4) (by rw [h0]; omega) (by simp; omega) hbase
  rw [h0] at h
  simpa using h

set_option maxRecDepth 20000 in
set_option maxHeartbeats 2000000 in
theorem lives_any (w : World) : Calls Try.prog 8 #[] w fun e w' => e = .returned (.bool true) ∧ Step [] w w' := by
  have kc := fun (W : World) (C : Array Value) => Lib.run_convert_bytes_const (P := Try.prog) W 32 5 C 1 1 Try.underlying32 Try.underlying5
  go_enter Try.func8, Try.ntmps8
  go_wp2_with fail
  refine (new_any 16 w (by decide) (by decide)).mono ?_
  rintro e w1 ⟨db, lv, rfl, hD1, hs1⟩
  have HC1 := Lib.hid (wl_format_new w.heap.size db 16 lv _ w1 hD1 (by decide) (by decide) hs1.size)
  have HS1 := Lib.hid (And.intro hs1 hD1.base)
  clear hD1 hs1
  go_wp2_with fail
  refine HC1.out.mono ?_
  rintro e w2 ⟨lb, tv2, S2, rfl, h2, hS2, -, hs2⟩
  have HS2 := Lib.hid (HS1.out.1.base hs2 HS1.out.2)
  have hz2 := HS2.out.size
  have HC2 := Lib.hid (wl_append _ _ _ _ _ _ _ _ _ _ _ _ 1 (some ⟨w2.heap.size, 0, none⟩) 1 [97] _ (h2.step ((Step.refl [] w2).alloc (.cells #[.int .u8 97] 5 (1, 2))) (by simp)) ⟨one_byte w2 97 _ _, (by intro h; cases h), by decide⟩ (by decide) (by decide) (by
    rw [chain_len, flens_seal, hS2]
    have := flen_most (1, [97])
    simp only [List.length_cons, List.length_nil] at this
    omega) (by decide) (by rw [World.size_alloc]; omega))
  have HL2 := Lib.hid (And.intro h2.low hS2)
  clear h2 hs2 hS2
  go_wp2_with fail
  refine HC2.out.mono ?_
  rintro e w3 ⟨rfl, tv3, wv3, W3, h3, -, hs3, -⟩
  have HS3 := Lib.hid ((HS2.out.alloc (.cells #[.int .u8 97] 5 (1, 2))).base hs3 HL2.out.1)
  have HC3 := Lib.hid (wl_sync _ _ _ _ _ _ _ _ _ _ _ _ _ h3)
  have HL3 := Lib.hid h3.dk.base
  clear h3 hs3
  go_wp2_with fail
  refine HC3.out.mono ?_
  rintro e w4 ⟨rfl, S4, h4, hS4, hs4⟩
  have HS4 := Lib.hid (HS3.out.base hs4 HL3.out)
  have hz4 := HS4.out.size
  have HC4 := Lib.hid (wl_append _ _ _ _ _ _ _ _ _ _ _ _ 2 (some ⟨w4.heap.size, 0, none⟩) 1 [98] _ (h4.step ((Step.refl [] w4).alloc (.cells #[.int .u8 98] 5 (1, 2))) (by simp)) ⟨one_byte w4 98 _ _, (by intro h; cases h), by decide⟩ (by decide) (by decide) (by
    rw [chain_len, flens_app, flens_seal, hS4, HL2.out.2]
    have h1 := flen_most (2, [98])
    have h2 := flen_most (1, [97])
    simp only [List.length_cons, List.length_nil, flens, List.map_cons, List.map_nil, List.sum_cons, List.sum_nil] at h1 h2 ⊢
    omega) (by decide) (by rw [World.size_alloc]; omega))
  have HL4 := Lib.hid (And.intro h4.low hS4)
  clear h4 hs4 hS4
  go_wp2_with fail
  refine HC4.out.mono ?_
  rintro e w5 ⟨rfl, tv5, wv5, W5, h5, -, hs5, -⟩
  have HS5 := Lib.hid ((HS4.out.alloc (.cells #[.int .u8 98] 5 (1, 2))).base hs5 HL4.out.1)
  have HC5 := Lib.hid (crash_nil _ _ _ _ _ _ _ _ h5.dk)
  have HL5 := Lib.hid (And.intro h5.dk.base h5.li)
  clear h5 hs5
  go_wp2_with fail
  refine HC5.out.mono ?_
  rintro e w6 ⟨rfl, hD6, hs6⟩
  have HS6 := Lib.hid (HS5.out.base hs6 HL5.out.1)
  have HD6 := Lib.hid hD6
  clear hD6 hs6
  go_wp2_with fail
  refine (up_any _ _ _ _ _ _ _ _ HD6.out).mono ?_
  rintro e w7 ⟨rfl, hD7, hs7⟩
  have HS7 := Lib.hid (HS6.out.base hs7 (fun k hk => by simp at hk; subst hk; exact HD6.out.low))
  have hz7 := HS7.out.size
  have hS7 : S4.length = 16 := by rw [HL4.out.2, HL2.out.2]
  have HC7 := Lib.hid (wl_open w.heap.size db lv _ S4 [] 0 1 ([(255, [])] ++ [(1, [97])]) ([(255, [])] ++ [(1, [97])]) w7 hD7 (by omega) (by
    rw [syncS_nil]
    have h := (HL5.out.2.none).crash (by decide) (fun _ => false) 0
    exact h) (List.prefix_refl _) (by decide) (by decide) (by decide) (by decide) (by simp [hS7]) hz7)
  have HL7 := Lib.hid hD7.base
  clear hD7 hs7
  go_wp2_with fail
  refine HC7.out.mono ?_
  rintro e w8 ⟨lb8, tv8, S8, a, c, rl, k, rfl, k1, k2, hrp, hrc, -, -, -, -, hs8⟩
  have hk : k = 2 := by simp at k1 k2; omega
  subst hk
  have hrp2 : rl.map Rr.pr = [(1, [97])] := by rw [hrp]; decide
  obtain ⟨x, rfl⟩ : ∃ x, rl = [x] := by
    cases rl with
    | nil => simp at hrp2
    | cons x r =>
      cases r with
      | nil => exact ⟨x, rfl⟩
      | cons y r => simp at hrp2
  have hxd : x.d = [97] := by
    simp only [List.map_cons, List.map_nil, List.cons.injEq, and_true, Rr.pr, Prod.mk.injEq] at hrp2
    exact hrp2.2
  obtain ⟨b, off, rfl, hblt, c0, c1⟩ := hrc.recs.cells 0 (by simp)
  obtain ⟨hxr, -⟩ := hrc.recs.data x (by simp)
  have hst := hxr.bytes.str (P := Try.prog) (fun h => (hxr.nil h).1) x.c 32 9 5 Try.underlying32 Try.underlying5 Try.underlying9
  rw [hxd] at hst
  have hst2 : (convert 32 9 (.slice x.a 1 x.c)).run Try.prog w8 = .ok (.string { data := #[97] }) w8 := hst
  have c1' : w8.cell? ⟨b, off + 1, none⟩ = some (.slice x.a 1 x.c) := by
    have h : ([x] : List Rr).getD 0 rr0 = x := rfl
    rw [h] at c1
    unfold Rr.sl at c1
    rw [hxd] at c1
    exact c1
  have HS8 := Lib.hid (HS7.out.base hs8 HL7.out)
  clear hst c0 c1 hrc hrp hrp2 hs8 hxr HC7 HC5 HC4 HC3 HC2 HC1
  go_wp2_with fail
  go_ret
  exact ⟨rfl, HS8.out⟩
end Go.Proofs.Ytdmnhkmpfnhmdaa
end
