/- entry: the walks of known, clone, and of the law's row. -/
import Derived.Test.YtjepglbolkbldaaEntC
import Derived.Deep.AppendLies
namespace Go.Proofs.Ytjepglbolkbldaa
set_option linter.unusedVariables false
open Go.RowKit

/-- how many stand there already -/
def knownN (ix tm : Nat) (ts : List Nat) : List En → Nat
  | [] => 0
  | x :: r => if termAt ix tm ts x.ix = (x.tm, 0) then knownN ix tm ts r + 1 else 0
theorem knownN_le (ix tm : Nat) (ts : List Nat) : ∀ l, knownN ix tm ts l ≤ l.length
  | [] => Nat.le_refl _
  | x :: r => by
    unfold knownN
    have := knownN_le ix tm ts r
    split
    · simp; omega
    · simp

set_option maxHeartbeats 1000000 in
theorem known_any (base lb : Nat) (a : Option Addr) (cap ix tm : Nat) (ts : List Nat) (ea : Option Addr) (ec : Nat) (l : List En) (w : World) (h : Log w base lb a cap ix tm ts) (hE : Ents w ea l) (hl : l.length < 1000000) :
    Calls Try.prog 21 #[.pointer (some ⟨lb, 0, none⟩), .slice ea l.length ec] w fun e w' => e = .returned (.int .i64 ((knownN ix tm ts l : Nat) : Int)) ∧ Step [] w w' := by
  obtain ⟨r0, hr0⟩ : ∃ r, knownN ix tm ts l = r := ⟨_, rfl⟩
  rw [hr0]
  have HR := Lib.hid hr0
  have HE := Lib.hid hE
  have HL := Lib.hid h
  clear hr0 hE h
  go_enter Try.func21, Try.ntmps21
  go_wp2_with fail
  go_loopw [5, 7, 8, 9, 12] (fun n _ _ _ j wr => ∃ (k : Nat), k ≤ l.length ∧ n = .int .i64 k ∧ j = .int .i64 k ∧ k + knownN ix tm ts (l.drop k) = r0 ∧ Step [] w wr) (fun _ _ _ _ j _ => l.length - (intOf j).toNat)
  case atStart => exact ⟨0, Nat.zero_le _, rfl, rfl, by simpa using HR.out, Step.refl _ _⟩
  case round =>
    obtain ⟨k, hk, rfl, rfl, hF, hs⟩ := hrel
    have HF := Lib.hid hF
    have HS := Lib.hid hs
    clear hF hs
    by_cases hkl : k < l.length
    · obtain ⟨b1, off, rfl, hlt, c0, c1, c2, c3⟩ := HE.out.step HS.out (by simp) k hkl
      have hkm : (k : Int) < (l.length : Int) := by omega
      have hd := drop_cons hkl
      rw [hd] at HF
      clear hd
      generalize l.getD k en0 = x at *
      obtain ⟨xi, xt, xc, xa, xn, xk⟩ := x
      simp only at c0 c1 c2 c3
      have HF2 := Lib.hid (show k + (if termAt ix tm ts xi = (xt, 0) then knownN ix tm ts (l.drop (k + 1)) + 1 else 0) = r0 from HF.out)
      have HC := Lib.hid (term_any base lb a cap ix tm ts xi (wr.alloc (.cells #[.int .u64 (xi : Int), .int .u64 (xt : Int), .bool xc, .slice xa xn xk] 42)) (HL.out.step0 (HS.out.alloc _)))
      clear HF
      obtain ⟨⟨T, e⟩, hTe⟩ : ∃ p, termAt ix tm ts xi = p := ⟨_, rfl⟩
      rw [hTe] at HC HF2
      clear hTe
      go_wp2_with fail
      refine HC.out.mono ?_
      rintro e7 w7 ⟨rfl, hs7⟩
      have hB := (Blk.new wr #[.int .u64 (xi : Int), .int .u64 (xt : Int), .bool xc, .slice xa xn xk] 42).step hs7 (by simp)
      have b0 := hB.cell 0
      have b1 := hB.cell 1
      simp only [List.getElem?_toArray, List.getElem?_cons_zero, List.getElem?_cons_succ] at b0 b1
      have HS7 := Lib.hid ((HS.out.alloc _).then hs7 (by simp))
      clear hs7 hB HC
      by_cases q1 : e = 0
      · subst q1
        by_cases q2 : T = xt
        · subst q2
          have hr := Lib.hid ((congrArg (k + ·) (if_pos rfl)).symm.trans HF2.out)
          clear HF2
          go_wp2_with fail
          go_roundw
          case rel => exact ⟨k + 1, by omega, by go_num, by go_num, by have := hr.out; omega, HS7.out⟩
          case measure => simp [intOf]; omega
        · have p2 : ((T : Int) == (xt : Int)) = false := by simp; omega
          have hr := Lib.hid ((congrArg (k + ·) (if_neg (by simpa using q2))).symm.trans HF2.out)
          clear HF2
          go_wp2_with fail
          go_ret
          cases hr.out
          exact ⟨rfl, HS7.out⟩
      · have p1 : (e == 0) = false := by simpa using q1
        have hr := Lib.hid ((congrArg (k + ·) (if_neg (by simp [q1]))).symm.trans HF2.out)
        clear HF2
        go_wp2_with fail
        go_ret
        cases hr.out
        exact ⟨rfl, HS7.out⟩
    · have hke : k = l.length := by omega
      have hr : k = r0 := by
        have := HF.out
        rw [hke, List.drop_length] at this
        rw [hke]
        exact this
      have hr2 := Lib.hid hr
      clear hr HF
      have hkm : ¬ (k : Int) < (l.length : Int) := by omega
      go_wp2_with fail
      go_ret
      exact ⟨by rw [← hr2.out, hke]; rfl, HS.out⟩

/-- whatever the data is, it can be read -/
def DataOk (w : World) (x : En) : Prop := ∃ l : List UInt8, l.length = x.dn ∧ Bytes w x.da l ∧ (x.da = none → x.dn = 0 ∧ x.dc = 0)
theorem DataOk.step {w w' : World} {x : En} (h : DataOk w x) (hs : Step [] w w') : DataOk w' x := by
  obtain ⟨l, h1, h2, h3⟩ := h
  exact ⟨l, h1, h2.step hs (by simp), h3⟩

set_option maxHeartbeats 1000000 in
theorem cloneE_any (x : En) (w : World) (hx : DataOk w x) (hn : x.dn ≤ 900) :
    Calls Try.prog 22 #[.agg #[.int .u64 (x.ix : Int), .int .u64 (x.tm : Int), .bool x.cf, .slice x.da x.dn x.dc]] w fun e w' => (∃ a n c, e = .returned (.agg #[.int .u64 (x.ix : Int), .int .u64 (x.tm : Int), .bool x.cf, .slice a n c])) ∧ Step [] w w' := by
  obtain ⟨l, hl, hb, hnil⟩ := hx
  obtain ⟨xi, xt, xc, xa, xn, xk⟩ := x
  simp only at hl hb hnil hn ⊢
  subst hl
  have HB := Lib.hid hb
  clear hb
  go_enter Try.func22, Try.ntmps22
  go_wp2_with fail
  refine (clone_bytes xa xk l _ hnil (HB.out.step (((Step.refl [] w).alloc _).alloc _) (by simp)) (by omega)).mono ?_
  rintro e w1 ⟨v, rfl, hown, hs⟩
  obtain ⟨a1, cap1, rfl, -, -, -, -, -, -⟩ := owns_bytes hown
  have HB1 := Lib.hid (((Blk.new w #[.int .u64 (xi : Int), .int .u64 (xt : Int), .bool xc, .slice xa l.length xk] 42).alloc (.cells #[.int .u64 0, .int .u64 0, .bool false, .slice none 0 0] 42)).step hs (by simp))
  have hB2 := (Blk.new (w.alloc (.cells #[.int .u64 (xi : Int), .int .u64 (xt : Int), .bool xc, .slice xa l.length xk] 42)) #[.int .u64 0, .int .u64 0, .bool false, .slice none 0 0] 42).step hs (by simp)
  rw [World.size_alloc] at hB2
  have HB2 := Lib.hid hB2
  have HS := Lib.hid ((((Step.refl [] w).alloc _).alloc _).then hs (by simp))
  clear hown hs hB2
  obtain ⟨b1, hb1⟩ : ∃ b, w.heap.size = b := ⟨_, rfl⟩
  rw [hb1] at HB1 HB2 ⊢
  have p0 := HB1.out.cell 0
  have p1 := HB1.out.cell 1
  have p2 := HB1.out.cell 2
  have p3 := HB1.out.cell 3
  have pf := HB1.out.free 3
  have q0 := HB2.out.cell 0
  have q1 := HB2.out.cell 1
  have q2 := HB2.out.cell 2
  have q3 := HB2.out.cell 3
  have qf0 := HB2.out.free 0
  have qf1 := HB2.out.free 1
  have qf2 := HB2.out.free 2
  have qf3 := HB2.out.free 3
  simp only [List.getElem?_toArray, List.getElem?_cons_zero, List.getElem?_cons_succ] at p0 p1 p2 p3 q0 q1 q2 q3
  go_wp2_with fail
  have hne : b1 + 1 ≠ b1 := by omega
  have hfin := (((((HB2.out.set_ne b1 3 (.slice a1 l.length cap1) hne).set 0 (.int .u64 (xi : Int))).set 1 (.int .u64 (xt : Int))).set 2 (.bool xc)).set 3 (.slice a1 l.length cap1))
  have hst : Step [] w (((((w1.setCell ⟨b1, 3, none⟩ (.slice a1 l.length cap1)).setCell ⟨b1 + 1, 0, none⟩ (.int .u64 (xi : Int))).setCell ⟨b1 + 1, 1, none⟩ (.int .u64 (xt : Int))).setCell ⟨b1 + 1, 2, none⟩ (.bool xc)).setCell ⟨b1 + 1, 3, none⟩ (.slice a1 l.length cap1)) :=
    ((((HS.out.setCell (.inr (by omega)) 3 _).setCell (.inr (by omega)) 0 _).setCell (.inr (by omega)) 1 _).setCell (.inr (by omega)) 2 _).setCell (.inr (by omega)) 3 _
  refine bodyPost_ret (v := .agg #[.int .u64 (xi : Int), .int .u64 (xt : Int), .bool xc, .slice a1 l.length cap1]) (results_cell_row rfl _ _ (b1 + 1) 42 _ (0, 0) _ rfl hfin Try.underlying42 rfl (by kernel_rfl)) rfl ⟨⟨_, _, _, rfl⟩, hst⟩

theorem Try.infoE : (Try.prog.info? 42).map (fun i => (i.zero, i.size, i.bytes)) = some (some (.agg #[.int .u64 0, .int .u64 0, .bool false, .slice none 0 0]), 4, 48) := by kernel_rfl

/-- the law's row: entries from an index on, of a term -/
def rowL (i t n : Nat) : List En := (List.range n).map fun k => ⟨i + k, t, false, none, 0, 0⟩
theorem rowL_len (i t n : Nat) : (rowL i t n).length = n := by simp [rowL]
theorem rowL_succ (i t n : Nat) : rowL i t (n + 1) = rowL i t n ++ [⟨i + n, t, false, none, 0, 0⟩] := by simp [rowL, List.range_succ]

def RowNew (i t n : Nat) (w : World) (e : Ending) (w' : World) : Prop :=
  ∃ a cap, e = .returned (.slice a n cap) ∧ Ents w' a (rowL i t n) ∧ Step [] w w' ∧ n ≤ cap ∧ (a = none ∧ cap = 0 ∨ ∃ b off, a = some ⟨b, off, none⟩ ∧ w.heap.size ≤ b)

set_option maxHeartbeats 1000000 in
theorem row_any (i t n : Nat) (w : World) (hi : i + n < 4611686018427387904) (hn : n ≤ 2000) :
    Calls Try.prog 12 #[.int .u64 (i : Int), .int .u64 (t : Int), .int .i64 (n : Int)] w (RowNew i t n w) := by
  obtain ⟨i0, hi0, hz0, hz1, hz2⟩ := info_parts Try.infoE
  go_enter Try.func12, Try.ntmps12
  go_wp2_with fail
  go_loopw [7, 8, 10] (fun v _ j wr => ∃ (k : Nat), k ≤ n ∧ j = .int .i64 k ∧ wr.ownsRow w.heap.size 42 4 v k (cellsL (rowL i t k)) ∧ Step [] w wr) (fun _ _ j _ => n - (intOf j).toNat)
  case atStart => exact ⟨0, Nat.zero_le _, rfl, World.ownsRow_nil _ _ _ _, Step.refl _ _⟩
  case round =>
    obtain ⟨k, hk, rfl, hown, hs⟩ := hrel
    have HO := Lib.hid hown
    have HS := Lib.hid hs
    clear hown hs
    by_cases hkl : k < n
    · have hkm : (k : Int) < (n : Int) := by omega
      have e1 : IntKind.u64.wrap (k : Int) = (k : Int) := u64_self _ (by omega) (by omega)
      have e2 : IntKind.u64.wrap ((i : Int) + (k : Int)) = ((i + k : Nat) : Int) := by rw [u64_self _ (by omega) (by omega)]; omega
      have hsz := HS.out.size
      have hL : (cellsL (rowL i t k)) ++ [.int .u64 ((i : Int) + (k : Int)), .int .u64 (t : Int), .bool false, .slice none 0 0] = cellsL (rowL i t (k + 1)) := by
        rw [rowL_succ, cellsL_app]
        simp [cellsL, enCells]
      have HLL := Lib.hid hL
      clear hL
      go_wp2_with (at_builtin; refine wpList_append_sep rfl (.tmp 13) (.tmp 20) 23 rfl w.heap.size 42 i0 _ 4 48 Try.underlying23 hi0 hz0 hz1 hz2 rfl (by decide) _ k (cellsL (rowL i t k)) rfl (HO.out.alloc _) (some ⟨wr.heap.size, 0, none⟩) 1 1 [.int .u64 ((i : Int) + (k : Int)), .int .u64 (t : Int), .bool false, .slice none 0 0] rfl (by intro h; cases h) rfl (fun ad h => by cases h; exact World.news_of_block (Go.heap_alloc_new _ _)) (by intro u hu; simp at hu; rcases hu with rfl | rfl | rfl | rfl <;> rfl) (by unfold maxLen; omega) (by omega) (by simp; omega) ?_)
      intro v2 w2 hown2 hg2 hf2
      rw [HLL.out] at hown2
      have hs2 : Step [] w w2 := (HS.out.alloc _).grown hg2 (fun r hr => .inr (owns_base HO.out r (mem_foot.2 hr)))
      have HO2 := Lib.hid hown2
      have HS2 := Lib.hid hs2
      clear hown2 hg2 hf2 hs2
      go_wp2_with fail
      go_roundw
      case rel => exact ⟨k + 1, by omega, by go_num, HO2.out, HS2.out⟩
      case measure => simp [intOf]; omega
    · have hke : k = n := by omega
      subst hke
      go_wp2_with fail
      go_ret
      rcases HO.out.2 with ⟨rfl, h0⟩ | ⟨g, cap, cur, rfl, hg, hh, hcap, -⟩
      · refine ⟨none, 0, by rw [h0]; rfl, fun j hj => ?_, HS.out, by omega, .inl ⟨rfl, rfl⟩⟩
        rw [rowL_len] at hj
        omega
      · exact ⟨_, _, rfl, owns_ents HO.out, HS.out, hcap, .inr ⟨g, 0, rfl, hg⟩⟩
end Go.Proofs.Ytjepglbolkbldaa
