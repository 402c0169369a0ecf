/- Several texts in one: WalA, WalB, FrameC, WalC. -/
import Derived.Test.YtdmnhkmpfnhmdaaWpA
import Derived.Test.YtdmnhkmpfnhmdaaWpB
import Derived.BigQuiet
import Derived.Deep.RegionHeld3
import Derived.Laws.ResultCell
import Derived.Laws.Rows
import Derived.Deep.RegionLaw
import Derived.Deep.DrawnRows
import Derived.Test.YtdmnhkmpfnhmdaaWpC
section
namespace Go.Proofs.Ytdmnhkmpfnhmdaa
set_option linter.unusedVariables false
open Go.RowKit

theorem shr_byte (t k : Nat) : UInt8.ofNat (t / 256 ^ k % 256) = UInt8.ofNat (t / 2 ^ (8 * k)) := by
  rw [show (256 : Nat) = 2 ^ 8 from rfl, ← Nat.pow_mul]
  apply UInt8.toNat_inj.1
  simp

set_option maxRecDepth 100000 in
set_option maxHeartbeats 1000000 in
theorem sector_any (t : Nat) (a : Option Addr) (cap : Nat) (p : List UInt8) (w : World) (ht : t < 18446744073709551616) (hn : a = none → p.length = 0 ∧ cap = 0) (hB : Bytes w a p) (hlen : p.length ≤ 255) :
    Calls Try.prog 45 #[.int .u64 (t : Int), .slice a p.length cap] w (NewBytes (secL t p) w) := by
  obtain ⟨i0, hi, hz0, hz1, hz2⟩ := info_parts Try.infoB
  have HB := Lib.hid hB
  have HN := Lib.hid hn
  clear hB hn
  go_enter Try.func45, Try.ntmps45
  go_wp2_with fail
  go_loopw [5, 7] (fun b j wr => ∃ k : Nat, k ≤ 8 ∧ j = .int .i64 (k : Int) ∧ wr.ownsRow w.heap.size 5 1 b k ((leN k t).map byteVal) ∧ Step [] w wr) (fun _ j _ => 8 - (intOf j).toNat)
  case atStart => exact ⟨0, by omega, rfl, ⟨rfl, .inl ⟨rfl, rfl⟩⟩, Step.refl _ _⟩
  case round =>
    obtain ⟨k, hk, rfl, ho, hs⟩ := hrel
    have HO := Lib.hid ho
    have HS := Lib.hid hs
    clear ho hs
    by_cases hk8 : k < 8
    · have q1 : (k : Int) < 8 := by omega
      have q2 : (8 : Int) * (k : Int) < 64 := by omega
      have hv : [Value.int .u8 ((t : Int) / 2 ^ (8 * k) % 256)] = [UInt8.ofNat (t / 256 ^ k % 256)].map byteVal := by
        rw [shr_byte]
        simp [byteVal]
      have HV := Lib.hid hv
      clear hv
      go_wp2_with (at_builtin; refine wpList_append_sep rfl (.tmp 10) (.tmp 16) 32 rfl w.heap.size 5 i0 (.int .u8 0) 1 1 Try.underlying32 hi hz0 hz1 hz2 rfl (by decide) _ k ((leN k t).map byteVal) rfl (HO.out.alloc _) (some ⟨wr.heap.size, 0, none⟩) 1 1 [.int .u8 ((t : Int) / 2 ^ (8 * k) % 256)] rfl (by intro h; cases h) rfl (fun ad h => by cases h; exact cell_one_new _ _ _) (by intro u hu; simp at hu; subst hu; rfl) (by unfold maxLen; omega) (by omega) (by have h1 := HS.out.size; simp; omega) ?_)
      intro v2 w2 hown2 hg2 hf2
      have hs2 : Step [] w w2 := (HS.out.alloc (.cells #[.int .u8 ((t : Int) / 2 ^ (8 * k) % 256)] 5)).grown hg2 (fun r hr => .inr (owns_base HO.out r (mem_foot.2 hr)))
      rw [HV.out, ← List.map_append, ← leN_snoc] at hown2
      have HO2 := Lib.hid hown2
      have HS2 := Lib.hid hs2
      obtain ⟨g, cg, rfl, -⟩ := owns_form hown2 (by omega)
      clear hown2 hs2 hg2 hf2
      go_wp2_with fail
      go_roundw
      case rel => exact ⟨k + 1, by omega, by go_num, HO2.out, HS2.out⟩
      case measure => simp [intOf]; omega
    · obtain rfl : k = 8 := by omega
      have hsz := HS.out.size
      have hv : [Value.int .u8 (p.length : Int)] = [UInt8.ofNat p.length].map byteVal := by
        simp [byteVal]
        omega
      have HV := Lib.hid hv
      have hpl : IntKind.u8.wrap (p.length : Int) = (p.length : Int) := by rw [IntKind.wrap_u8, Int.emod_eq_of_lt (by omega) (by omega)]
      clear hv
      go_wp2_with (at_builtin; refine wpList_append_sep rfl (.tmp 19) (.tmp 23) 32 rfl w.heap.size 5 i0 (.int .u8 0) 1 1 Try.underlying32 hi hz0 hz1 hz2 rfl (by decide) _ 8 ((leN 8 t).map byteVal) rfl (HO.out.alloc _) (some ⟨wr.heap.size, 0, none⟩) 1 1 [.int .u8 (p.length : Int)] rfl (by intro h; cases h) rfl (fun ad h => by cases h; exact cell_one_new _ _ _) (by intro u hu; simp at hu; subst hu; rfl) (by unfold maxLen; omega) (by omega) (by simp; omega) ?_)
      intro v2 w2 hown2 hg2 hf2
      have hs2 : Step [] w w2 := (HS.out.alloc (.cells #[.int .u8 (p.length : Int)] 5)).grown hg2 (fun r hr => .inr (owns_base HO.out r (mem_foot.2 hr)))
      rw [HV.out, ← List.map_append] at hown2
      have HO2 := Lib.hid hown2
      have HS2 := Lib.hid hs2
      have hsz2 := hs2.size
      obtain ⟨g, cg, rfl, -⟩ := owns_form hown2 (by omega)
      have hB2 := HB.out.step hs2 (by simp)
      have HB2 := Lib.hid hB2
      clear hown2 hs2 hg2 hf2 hB2
      go_wp2_with (at_builtin; refine wpList_append_sep rfl (.tmp 24) (.tmp 25) 32 rfl w.heap.size 5 i0 (.int .u8 0) 1 1 Try.underlying32 hi hz0 hz1 hz2 rfl (by decide) _ 9 _ rfl HO2.out a p.length cap (p.map byteVal) rfl HN.out (by simp) HB2.out.news (byteVals_cell _) (by unfold maxLen; omega) (by omega) (by omega) ?_)
      intro v3 w3 hown3 hg3 hf3
      have hs3 : Step [] w w3 := HS2.out.grown hg3 (fun r hr => .inr (owns_base HO2.out r (mem_foot.2 hr)))
      have HO3 := Lib.hid hown3
      have HS3 := Lib.hid hs3
      clear hown3 hs3 hg3 hf3
      go_wp2_with fail
      go_ret
      refine ⟨v3, rfl, ?_, HS3.out⟩
      have h := HO3.out
      rw [secL_len]
      unfold secL
      rw [List.map_append]
      exact h

theorem turn_join (a c k : Nat) (hk : k < 8) (ha : a < 256 ^ k) (hc : c < 256) : bits .or .u64 (a : Int) (IntKind.u64.wrap ((c : Int) * 2 ^ (8 * k))) = ((a + c * 256 ^ k : Nat) : Int) := by
  have e : (256 : Nat) ^ k = 2 ^ (8 * k) := by rw [show (256 : Nat) = 2 ^ 8 from rfl, ← Nat.pow_mul]
  rw [e] at ha ⊢
  have h1 : (2 : Nat) ^ (8 * (k + 1)) ≤ 2 ^ 64 := Nat.pow_le_pow_right (by decide) (by omega)
  have h2 : (2 : Nat) ^ (8 * (k + 1)) = 2 ^ (8 * k) * 256 := by rw [Nat.mul_add, Nat.pow_add]
  have h3 : a + c * 2 ^ (8 * k) < 2 ^ (8 * k) * 256 := by
    have h4 : c * 2 ^ (8 * k) ≤ 255 * 2 ^ (8 * k) := Nat.mul_le_mul_right _ (by omega)
    omega
  exact join_val' a c (8 * k) ha (by omega)

set_option maxHeartbeats 1000000 in
theorem turnOf_any (a : Option Addr) (n cap : Nat) (l : List UInt8) (w : World) (hB : Bytes w a l) (hl : l.length = n) (h8 : 8 ≤ n) :
    Calls Try.prog 43 #[.slice a n cap] w fun e w' => e = .returned (.int .u64 (turnV l : Int)) ∧ w = w' := by
  have HB := Lib.hid hB
  have HL := Lib.hid hl
  clear hB
  go_enter Try.func43, Try.ntmps43
  go_wp2_with fail
  go_loopw [3, 5] (fun x j wr => ∃ k : Nat, k ≤ 8 ∧ x = .int .u64 (leV (l.take k) : Int) ∧ j = .int .i64 (k : Int) ∧ w = wr) (fun _ j _ => 8 - (intOf j).toNat)
  case atStart => exact ⟨0, by omega, rfl, rfl, rfl⟩
  case round =>
    obtain ⟨k, hk, rfl, rfl, rfl⟩ := hrel
    by_cases hk8 : k < 8
    · have q1 : (k : Int) < 8 := by omega
      have q2 : (8 : Int) * (k : Int) < 64 := by omega
      have q3 : (k : Int) < (n : Int) := by omega
      have q0 : (0 : Int) ≤ (k : Int) := by omega
      obtain ⟨b, off, rfl, _, c1⟩ := HB.out k (by omega)
      have h1 := leV_lt (l.take k)
      rw [List.length_take_of_le (by omega)] at h1
      have hs : leV (l.take (k + 1)) = leV (l.take k) + (l.getD k 0).toNat * 256 ^ k := by
        rw [List.take_succ_eq_append_getElem (by omega), leV_snoc, List.length_take_of_le (by omega)]
        simp [List.getD, show k < l.length by omega]
      have HS := Lib.hid hs
      have hj := turn_join (leV (l.take k)) (l.getD k 0).toNat k hk8 h1 (l.getD k 0).toNat_lt
      have hm : ((l.getD k 0).toNat : Int) % 18446744073709551616 = ((l.getD k 0).toNat : Int) := by
        have := (l.getD k 0).toNat_lt
        omega
      clear hs
      generalize l.getD k 0 = y at *
      generalize leV (l.take k) = x at *
      go_wp2_with fail
      go_roundw
      case rel =>
        refine ⟨k + 1, by omega, ?_, by go_num, by trivial⟩
        rw [HS.out]
        simp_all
      case measure => simp [intOf]; omega
    · obtain rfl : k = 8 := by omega
      go_wp2_with fail
      go_ret
      exact ⟨rfl, rfl⟩

theorem dlen_any (base db : Nat) (lv wv : Value) (S : List (List UInt8)) (W : List (Nat × List UInt8)) (d : Bool) (w : World) (h : Dsk w base db lv wv S W d) :
    Calls Try.prog 15 #[.pointer (some ⟨db, 0, none⟩)] w fun e w' => e = .returned (.int .i64 (S.length : Int)) ∧ w = w' := by
  obtain ⟨la, lcap, rfl, -⟩ := owns_shape h.own1
  have c0 : w.cell? ⟨db, 0, none⟩ = some (.slice la S.length lcap) := h.blk.cell 0
  clear h
  go_enter Try.func15, Try.ntmps15
  go_wp2_with fail
  go_ret
  exact ⟨rfl, rfl⟩

end Go.Proofs.Ytdmnhkmpfnhmdaa
end

section
namespace Go.Proofs.Ytdmnhkmpfnhmdaa
set_option linter.unusedVariables false
open Go.RowKit

/-- a log's block -/
def logC (db half t en sm : Nat) (tv : Value) : Array Value := #[.pointer (some ⟨db, 0, none⟩), .int .i64 (half : Int), .int .u64 (t : Int), .int .i64 (en : Int), .int .u32 (sm : Int), tv]

theorem sectors_any (base db lb half t en sm : Nat) (tv lv wv : Value) (S : List (List UInt8)) (W : List (Nat × List UInt8)) (d : Bool) (w : World) (hb : Blk w lb (logC db half t en sm tv) 69) (h : Dsk w base db lv wv S W d) :
    Calls Try.prog 38 #[.pointer (some ⟨lb, 0, none⟩)] w fun e w' => e = .returned (.int .i64 ((S.length / 2 : Nat) : Int)) ∧ w = w' := by
  have HL := Lib.hid (dlen_any base db lv wv S W d w h)
  have c0 : w.cell? ⟨lb, 0, none⟩ = some (.pointer (some ⟨db, 0, none⟩)) := hb.cell 0
  have hfew := h.few
  clear h hb
  go_enter Try.func38, Try.ntmps38
  go_wp2_with fail
  refine HL.out.mono ?_
  rintro e w1 ⟨rfl, rfl⟩
  go_wp2_with fail
  go_ret
  refine ⟨?_, by trivial⟩
  show Ending.returned (.int .i64 ((S.length : Int) / 2)) = _
  rw [Int.natCast_ediv]
  rfl

theorem lroom_any (base db lb half t en sm : Nat) (tv lv wv : Value) (S : List (List UInt8)) (W : List (Nat × List UInt8)) (d : Bool) (w : World) (hb : Blk w lb (logC db half t en sm tv) 69) (h : Dsk w base db lv wv S W d) (he : en ≤ S.length / 2 * 55) :
    Calls Try.prog 21 #[.pointer (some ⟨lb, 0, none⟩)] w fun e w' => e = .returned (.int .i64 ((S.length / 2 * 55 - en : Nat) : Int)) ∧ ∃ n, w' = w.drewN n := by
  have HS := Lib.hid (fun W' (hs : Step [] w W') => sectors_any base db lb half t en sm tv lv wv S W d W' (hb.step hs (by simp)) (h.step hs (by simp)))
  have c3 : w.cell? ⟨lb, 3, none⟩ = some (.int .i64 (en : Int)) := hb.cell 3
  have hfew := h.few
  have e1 : IntKind.i64.wrap (((S.length / 2 : Nat) : Int) * 55) = ((S.length / 2 : Nat) : Int) * 55 := wrap_id _ (by omega) (by omega)
  have e2 : IntKind.i64.wrap (((S.length / 2 : Nat) : Int) * 55 - (en : Int)) = ((S.length / 2 * 55 - en : Nat) : Int) := by rw [wrap_id _ (by omega) (by omega)]; omega
  clear h hb
  generalize S.length / 2 = N at *
  go_enter Try.func21, Try.ntmps21
  go_wp2_with fail
  go_quiet ((go_at_call 38; exact quiet_same (HS.out _ ((Step.refl [] w).drewN _))))
  go_wp2_with fail
  go_ret
  exact ⟨rfl, _, rfl⟩

theorem turn_any (db lb half t en sm : Nat) (tv : Value) (w : World) (hb : Blk w lb (logC db half t en sm tv) 69) :
    Calls Try.prog 20 #[.pointer (some ⟨lb, 0, none⟩)] w fun e w' => e = .returned (.int .u64 (t : Int)) ∧ w = w' := by
  have c0 : w.cell? ⟨lb, 2, none⟩ = some (.int .u64 (t : Int)) := hb.cell 2
  clear hb
  go_enter Try.func20, Try.ntmps20
  go_wp2_with fail
  go_ret
  exact ⟨rfl, rfl⟩

/-- the bytes that count of the sector in which a chain ends -/
def tailC (C : List UInt8) : List UInt8 := C.drop (C.length / 55 * 55)
theorem tailC_len (C : List UInt8) : (tailC C).length = C.length % 55 := by
  simp [tailC]
  omega
/-- a piece of a chain: as much as a sector takes -/
def chunk (C : List UInt8) (j : Nat) : List UInt8 := (C.drop (55 * j)).take 55
theorem chunk_len (C : List UInt8) (j : Nat) : (chunk C j).length = min 55 (C.length - 55 * j) := by
  simp [chunk]
/-- a sector of a chain, where it stands -/
def secAt (n half t : Nat) (C : List UInt8) (j : Nat) : Nat × List UInt8 := (half * n + j, pad (secL t (chunk C j)))
/-- what put writes: the sectors from the one in which the chain ended -/
def putN (C C' : List UInt8) : Nat := (C'.length - C.length / 55 * 55 + 54) / 55
def putW (n half t : Nat) (C C' : List UInt8) : List (Nat × List UInt8) := (List.range (putN C C')).map fun i => secAt n half t C' (C.length / 55 + i)

/-- a log -/
structure Lg (w : World) (base lb db : Nat) (tv : Value) (half t : Nat) (C : List UInt8) (sm : Nat) : Prop where
  blk : Blk w lb (logC db half t C.length sm tv) 69
  tail : ∃ ta tc, tv = .slice ta (tailC C).length tc ∧ SlB w ta (tailC C) tc
  tlow : ∀ k, k ∈ foot tv → base ≤ k ∧ k < w.heap.size
  low : base ≤ lb
  ap : lb ∉ foot tv
def footL (lb : Nat) (tv : Value) : List Nat := lb :: foot tv
theorem blkOf_foot (a : Option Addr) (n c b : Nat) (h : blkOf a = some b) : b ∈ foot (.slice a n c) := by
  cases a with
  | none => cases h
  | some x =>
    obtain ⟨y, o, s⟩ := x
    simp [blkOf] at h
    simp [foot, Value.ownBlock, h]
theorem Lg.step {F : List Nat} {w w' : World} {base lb db : Nat} {tv : Value} {half t : Nat} {C : List UInt8} {sm : Nat} (h : Lg w base lb db tv half t C sm) (hs : Step F w w') (hn : ∀ k, k ∈ footL lb tv → k ∉ F) : Lg w' base lb db tv half t C sm := by
  obtain ⟨ta, tc, rfl, hsl⟩ := h.tail
  exact ⟨h.blk.step hs (hn _ (by simp [footL])), ⟨ta, tc, rfl, hsl.step hs (fun b hb => hn b (List.mem_cons_of_mem _ (blkOf_foot _ _ _ _ hb)))⟩, fun k hk => ⟨(h.tlow k hk).1, Nat.lt_of_lt_of_le (h.tlow k hk).2 hs.size⟩, h.low, h.ap⟩
theorem Lg.live {w : World} {base lb db : Nat} {tv : Value} {half t : Nat} {C : List UInt8} {sm : Nat} (h : Lg w base lb db tv half t C sm) : ∀ k, k ∈ footL lb tv → k < w.heap.size := fun k hk => by
  rcases List.mem_cons.1 hk with rfl | hk
  · exact h.blk.lt
  · exact (h.tlow k hk).2
theorem Dsk.live {w : World} {base db : Nat} {lv wv : Value} {S : List (List UInt8)} {W : List (Nat × List UInt8)} {d : Bool} (h : Dsk w base db lv wv S W d) : ∀ k, k ∈ footD db lv wv → k < w.heap.size := fun k hk => by
  simp only [footD, List.mem_cons, List.mem_append] at hk
  rcases hk with rfl | hk | hk
  · exact h.blk.lt
  · exact owns_live h.own1 k hk
  · exact owns_live h.own2 k hk
end Go.Proofs.Ytdmnhkmpfnhmdaa
end

section
namespace Go.Proofs.Ytdmnhkmpfnhmdaa
set_option linter.unusedVariables false
open Go.RowKit
attribute [local go_sem ↓] Go.wp_at_zero Go.wp_at_succ

theorem SlB.cutMid {P : Program} {w : World} {a : Option Addr} {l : List UInt8} {cap : Nat} (h : SlB w a l cap) (t e : TypeId) (ht : P.underlying t = some (.slice e)) (hz : ∀ w, (Go.sizeOf e).run P w = .ok 1 w) (lo hi : Nat) (h1 : lo ≤ hi) (h2 : hi ≤ l.length) :
    ∃ a', (∀ W : World, (Instr.slice t (.slice a l.length cap) (some (.int .i64 (lo : Int))) (some (.int .i64 (hi : Int))) none).run P W = .ok (.slice a' (hi - lo) (cap - lo)) W) ∧ SlB w a' ((l.drop lo).take (hi - lo)) (cap - lo) ∧ blkOf a' = blkOf a := by
  have ht' : P.underlying t = some (.slice (P.elem t)) := by simp [Program.elem, ht]
  have he : P.elem t = e := by simp [Program.elem, ht]
  have hl := h.len
  obtain ⟨a', hrun, hsl, hbk⟩ := h.cutLow t e ht hz lo (by omega)
  refine ⟨a', fun W => ?_, ⟨hsl.bytes.take _, fun ha => ?_, ?_, hsl.max, hsl.plain⟩, hbk⟩
  · have hr := hrun W
    rw [run_slice_l W t _ _ _ ht' .i64 _ (by omega) (by omega), he, hz] at hr
    rw [run_slice_lh W t _ _ _ ht' .i64 .i64 _ _ (by omega) (by omega) (by omega), he, hz]
    simp only [Result.andThen, sliced, Int.toNat_natCast, Result.ok.injEq, Value.slice.injEq, and_true] at hr ⊢
    exact hr.1
  · have := hsl.nil ha
    rw [List.length_take]
    exact ⟨by omega, this.2⟩
  · have := hsl.len
    rw [List.length_take]
    omega

theorem results_cell_three {fn : Func} {p u v x : Tmp} {ty : TypeId} (h : fn.results = #[.cell p ty, .tmp u, .tmp v, .tmp x]) (tmps : Array Value) (P : Program) (w : World) :
    (results fn tmps).run P w =
      ((asAddr (tmps.getD p undef)).run P w).andThen fun a w₁ => ((loadVar ty a).run P w₁).andThen fun r w₂ => .ok (.tuple #[r, tmps.getD u undef, tmps.getD v undef, tmps.getD x undef]) w₂ := by
  simp only [results, h]
  simp [Sem.run_bind, Result.andThen]

theorem readF_rest : ∀ (l : List UInt8) (i acc : Nat), (readF i acc l).2.1.length ≤ l.length := by
  intro l
  induction l with
  | nil => intro i acc; simp [readF]
  | cons b r ih =>
    intro i acc
    unfold readF
    split
    · simp
    · split
      · simp
      · have := ih (i + 1) (acc + b.toNat % 128 * 2 ^ (7 * i))
        simp
        omega
theorem countR_rest (most : Nat) (l : List UInt8) : (countR most (numR l 0)).2.1.length ≤ l.length := by
  have h := readF_rest l 0 0
  unfold countR numR
  rw [if_pos rfl]
  split
  · simp only
    split
    · simp
    · exact h
  · exact h
theorem countR_most (most : Nat) (p : Nat × List UInt8 × Int) : (countR most p).1 ≤ most := by
  unfold countR
  split
  · exact Nat.zero_le _
  · omega

theorem countR_back {most : Nat} {l : List UInt8} {x : Nat} {m : List UInt8} (h : countR most (numR l 0) = (x, m, 0)) : l = numB x ++ m := by
  have h2 : numR l 0 = (x, m, 0) := by
    unfold countR at h
    split at h
    · obtain ⟨y, n, e⟩ := numR l 0
      simp only [Prod.mk.injEq] at h
      split at h
      · exact absurd h.2.2 (by decide)
      · next hne => exact absurd h.2.2 hne
    · exact h
  exact (numR_back h2).1

/-- what Next leaves -/
def Nexted (r : Nx) (w : World) (en : Ending) (w' : World) : Prop :=
  match r with
  | .bad e => en = .returned (.tuple #[.agg #[.int .u8 0, .slice none 0 0], .int .i64 0, .int .u32 0, .int .i64 e]) ∧ Step [] w w'
  | .ok k d n t => (∃ v, en = .returned (.tuple #[.agg #[.int .u8 (k.toNat : Int), v], .int .i64 (n : Int), .int .u32 (t : Int), .int .i64 0]) ∧ w'.ownsRow w.heap.size 5 1 v d.length (d.map byteVal)) ∧ Step [] w w'

theorem next_end {fn : Func} (hf : fn.results = #[.cell 4 34, .tmp 5, .tmp 6, .tmp 7]) (tmps : Array Value) (w : World) (rb : Nat) (r0 r1 n1 n2 n3 : Value) (hb : Blk w rb #[r0, r1] 34) (hp : tmps.getD 4 undef = .pointer (some ⟨rb, 0, none⟩))
    (h5 : tmps.getD 5 undef = n1) (h6 : tmps.getD 6 undef = n2) (h7 : tmps.getD 7 undef = n3) :
    (results fn tmps).run Try.prog w = .ok (.tuple #[.agg #[r0, r1], n1, n2, n3]) w := by
  rw [results_cell_three hf]
  have hl := run_loadVar_row (P := Try.prog) w rb 34 34 #[r0, r1] (0, 0) _ hb Try.underlying34 rfl (by kernel_rfl)
  simp [asAddr, hl, hp, h5, h6, h7]

set_option maxHeartbeats 2000000 in
theorem next_any (s : Nat) (a : Option Addr) (cap : Nat) (l : List UInt8) (w : World) (hs : s < 4294967296) (hS : SlB w a l cap) (hlen : l.length ≤ 1000000) :
    Calls Try.prog 55 #[.int .u32 (s : Int), .slice a l.length cap] w (Nexted (nextR s l) w) := by
  obtain ⟨r, hr⟩ : ∃ r, nextR s l = r := ⟨_, rfl⟩
  have HT := Lib.hid (show _ = r from hr)
  unfold nextR at HT
  rw [hr]
  clear hr
  have hB0 := (Blk.new w #[.int .u8 0, .slice none 0 0] 34)
  have HB0 := Lib.hid hB0
  clear hB0
  have HSl := Lib.hid (hS.step ((Step.refl [] w).alloc (.cells #[.int .u8 0, .slice none 0 0] 34)) (by simp))
  have HS0 := Lib.hid ((Step.refl [] w).alloc (.cells #[.int .u8 0, .slice none 0 0] 34))
  have HSw := Lib.hid hS
  clear hS
  by_cases q1 : 0 < l.length ∧ l.getD 0 0 ≠ 197
  · have hv := Lib.hid ((if_pos q1).symm.trans HT.out)
    clear HT
    obtain ⟨b, off, rfl, hlt, hc⟩ := HSw.out.bytes 0 q1.1
    rw [Nat.add_zero] at hc
    have hn := World.new_ne w _ hc
    have hy : (l.getD 0 0).toNat ≠ 197 := fun h => q1.2 (UInt8.toNat_inj.1 h)
    have q1' := q1.1
    have Q1 := Lib.hid q1
    clear q1
    have g0 : (0 : Int) < (l.length : Int) := by omega
    generalize (l.getD 0 0).toNat = y at *
    have hx : ((y : Int) == 197) = false := by simp; omega
    generalize l.length = L at *
    go_enter Try.func55, Try.ntmps55
    go_wp2_with fail
    refine bodyPost_ret (next_end (by rfl) _ _ w.heap.size _ _ _ _ _ HB0.out (by rfl) (by rfl) (by rfl) (by rfl)) (by rfl) ?_
    rw [← hv.out]
    exact ⟨rfl, HS0.out⟩
  have HT1 := Lib.hid ((if_neg q1).symm.trans HT.out)
  clear HT
  have h197 : 0 < l.length → l.getD 0 0 = 197 := fun h => Decidable.not_not.1 (fun h2 => q1 ⟨h, h2⟩)
  have H197 := Lib.hid h197
  clear h197 q1
  by_cases q2 : l.length < 2
  · have hv := Lib.hid ((if_pos q2).symm.trans HT1.out)
    clear HT1
    by_cases q3 : l.length = 0
    · rw [q3]
      clear q2 q3
      go_enter Try.func55, Try.ntmps55
      go_wp2_with fail
      refine bodyPost_ret (next_end (by rfl) _ _ w.heap.size _ _ _ _ _ HB0.out (by rfl) (by rfl) (by rfl) (by rfl)) (by rfl) ?_
      rw [← hv.out]
      exact ⟨rfl, HS0.out⟩
    · have q4 : l.length = 1 := by omega
      obtain ⟨b, off, rfl, hlt, hc⟩ := HSw.out.bytes 0 (by omega)
      rw [H197.out (by omega), Nat.add_zero] at hc
      have hn := World.new_ne w _ hc
      rw [q4]
      clear q2 q3 q4
      go_enter Try.func55, Try.ntmps55
      go_wp2_with fail
      refine bodyPost_ret (next_end (by rfl) _ _ w.heap.size _ _ _ _ _ HB0.out (by rfl) (by rfl) (by rfl) (by rfl)) (by rfl) ?_
      rw [← hv.out]
      exact ⟨rfl, HS0.out⟩
  have HT2 := Lib.hid ((if_neg q2).symm.trans HT1.out)
  clear HT1
  obtain ⟨b, off, rfl, hlt, hc0⟩ := HSw.out.bytes 0 (by omega)
  rw [H197.out (by omega), Nat.add_zero] at hc0
  have hn0 := World.new_ne w _ hc0
  obtain ⟨a2, hcut2, hsl2, hbk2⟩ := HSl.out.cutLow (P := Try.prog) 32 5 Try.underlying32 Try.sizeB 2 (by omega)
  have hcut : ∀ W : World, (Instr.slice 32 (.slice (some ⟨b, off, none⟩) l.length cap) (some (.int .i64 2)) none none).run Try.prog W = .ok (.slice a2 (l.drop 2).length (cap - 2)) W := hcut2
  have HR := Lib.hid (rread_any a2 (cap - 2) (l.drop 2) _ hsl2 (by simp; omega))
  have hcr := countR_rest 1024 (l.drop 2)
  have hcm := countR_most 1024 (numR (l.drop 2) 0)
  have hdl : (l.drop 2).length + 2 = l.length := by simp; omega
  obtain ⟨⟨x, m, e1⟩, hp⟩ : ∃ p, countR 1024 (numR (l.drop 2) 0) = p := ⟨_, rfl⟩
  rw [hp] at HT2 hcr hcm
  simp only at HT2 hcr hcm
  have HP := Lib.hid hp
  clear hcut2 hsl2 hbk2 hp
  obtain ⟨L, hL⟩ : ∃ L, l.length = L := ⟨_, rfl⟩
  obtain ⟨D, hD⟩ : ∃ D, l.drop 2 = D := ⟨_, rfl⟩
  rw [hL, hD] at hcut hdl
  rw [hD] at HR HP hcr
  rw [hL] at HT2 hlen q2 ⊢
  have HLen := Lib.hid hL
  have HD := Lib.hid hD
  clear hL hD
  have g0 : (0 : Int) < (L : Int) := by omega
  have g1 : ¬ (L : Int) < 2 := by omega
  have g2 : (1 : Int) < (L : Int) := by omega
  have g3 : 1 < L := by omega
  go_enter Try.func55, Try.ntmps55
  go_wp2_with fail
  refine HR.out.mono ?_
  rintro e w1 ⟨rb, db, rfl, hRd, hs1, hrb, hdb⟩
  rw [World.size_alloc] at hrb hdb
  have HB1 := Lib.hid (HB0.out.step hs1 (by simp))
  have HS1 := Lib.hid (HS0.out.then hs1 (by simp))
  obtain ⟨b0, hb0⟩ : ∃ b, w.heap.size = b := ⟨_, rfl⟩
  rw [hb0] at HB1 hrb hdb hn0 hlt ⊢
  have HC := Lib.hid (rcount_any rb db 1024 D 0 w1 (by decide) hRd)
  rw [HP.out] at HC
  simp only at HC
  clear hRd hs1 HR HB0 HS0 HSl
  go_wp2_with fail
  refine HC.out.mono ?_
  rintro e w2 ⟨rfl, hRd, hs2⟩
  have hB2 := HB1.out.step hs2 (by simp; omega)
  have hS2 := HS1.out.then hs2 (fun k hk => by simp at hk; exact .inr (by omega))
  have hz0 := hB2.cell 0
  have hz1 := hB2.cell 1
  simp only [List.getElem?_toArray, List.getElem?_cons_zero, List.getElem?_cons_succ] at hz0 hz1
  have hf0 := hB2.free 0
  have hf1 := hB2.free 1
  have c1 := HSw.out.bytes 1 (by rw [HLen.out]; omega)
  obtain ⟨b', off', hb', -, hc1⟩ := c1
  cases hb'
  have hd1 : w2.cell? ⟨b, off + 1, none⟩ = some (.int .u8 ((l.getD 1 0).toNat : Int)) := (hS2.cell (by omega) (by simp)).trans hc1
  obtain ⟨kk, hkk⟩ : ∃ kk, l.getD 1 0 = kk := ⟨_, rfl⟩
  rw [hkk] at hd1 HT2
  have HKK := Lib.hid hkk
  clear hkk
  have HSl := Lib.hid (HSw.out.step hS2 (by simp))
  have HE := Lib.hid (rerr_any rb db _ _ w2 hRd)
  have HLf := Lib.hid (rleft_any rb db _ _ w2 hRd)
  have HB2 := Lib.hid hB2
  have HS2 := Lib.hid hS2
  have hsz2 := hS2.size
  clear hRd hs2 hB2 hS2 HC HB1 HS1 hc1
  go_wp2_with fail
  refine HE.out.mono ?_
  rintro e w3 ⟨rfl, rfl⟩
  by_cases q3 : ¬ e1 = 0
  · have p3 : (e1 == 0) = false := by simpa using q3
    have hv := Lib.hid ((if_pos q3).symm.trans HT2.out)
    clear HT2
    go_wp2_with fail
    refine bodyPost_ret (next_end (by rfl) _ _ b0 _ _ _ _ _ ((HB2.out.set 0 _).set 1 _) (by rfl) (by rfl) (by rfl) (by rfl)) (by rfl) ?_
    rw [← hv.out]
    exact ⟨rfl, (HS2.out.setCell (.inr (by omega)) 0 _).setCell (.inr (by omega)) 1 _⟩
  have HT3 := Lib.hid ((if_neg q3).symm.trans HT2.out)
  replace q3 : e1 = 0 := Decidable.not_not.1 q3
  subst q3
  rw [if_pos rfl] at HLf
  clear HT2
  obtain ⟨M, hM⟩ : ∃ M, m.length = M := ⟨_, rfl⟩
  rw [hM] at HLf HT3 hcr
  have HM := Lib.hid hM
  clear hM
  obtain ⟨F, hF⟩ : ∃ F, L - M = F := ⟨_, rfl⟩
  rw [hF] at HT3
  have e2 : IntKind.i64.wrap ((L : Int) - (M : Int)) = (F : Int) := by rw [IntKind.wrap_i64]; omega
  have e3 : IntKind.i64.wrap ((x : Int) + 4) = (x : Int) + 4 := by rw [IntKind.wrap_i64]; omega
  go_wp2_with fail
  refine HLf.out.mono ?_
  rintro e w3 ⟨rfl, rfl⟩
  go_wp2_with fail
  refine HLf.out.mono ?_
  rintro e w3 ⟨rfl, rfl⟩
  by_cases q4 : M < x + 4
  · have p4 : decide ((M : Int) < (x : Int) + 4) = true := by simp; omega
    have hv := Lib.hid ((if_pos q4).symm.trans HT3.out)
    clear HT3
    go_wp2_with fail
    refine bodyPost_ret (next_end (by rfl) _ _ b0 _ _ _ _ _ ((HB2.out.set 0 _).set 1 _) (by rfl) (by rfl) (by rfl) (by rfl)) (by rfl) ?_
    rw [← hv.out]
    exact ⟨rfl, (HS2.out.setCell (.inr (by omega)) 0 _).setCell (.inr (by omega)) 1 _⟩
  have p4 : decide ((M : Int) < (x : Int) + 4) = false := by simp; omega
  have HT4 := Lib.hid ((if_neg q4).symm.trans HT3.out)
  clear HT3
  obtain ⟨K, hK⟩ : ∃ K, F + x = K := ⟨_, rfl⟩
  obtain ⟨K4, hK4⟩ : ∃ K4, K + 4 = K4 := ⟨_, rfl⟩
  rw [hK, hK4] at HT4
  have e4 : IntKind.i64.wrap ((F : Int) + (x : Int)) = (K : Int) := by rw [IntKind.wrap_i64]; omega
  have e5 : IntKind.i64.wrap ((K : Int) + 4) = (K4 : Int) := by rw [IntKind.wrap_i64]; omega
  have hLl := HLen.out
  obtain ⟨hhigh, hsh⟩ := HSl.out.cutHigh (P := Try.prog) 32 5 Try.underlying32 Try.sizeB K (by omega)
  obtain ⟨a4, hmid, hsm, -⟩ := HSl.out.cutMid (P := Try.prog) 32 5 Try.underlying32 Try.sizeB K K4 (by omega) (by omega)
  obtain ⟨a5, hdat, hsd, -⟩ := HSl.out.cutMid (P := Try.prog) 32 5 Try.underlying32 Try.sizeB F K (by omega) (by omega)
  rw [hLl] at hhigh hmid hdat
  have ht4 : K4 - K = 4 := by omega
  have htx : K - F = x := by omega
  rw [ht4] at hmid hsm
  rw [htx] at hdat hsd
  have hkl : (l.take K).length = K := by rw [List.length_take]; omega
  rw [hkl] at hhigh
  have HMo := Lib.hid (more_any s (some ⟨b, off, none⟩) K cap (l.take K) w2 hs hkl (by unfold maxLen; omega) hsh.bytes)
  have htl := moreN_lt s (l.take K)
  obtain ⟨t, ht⟩ : ∃ t, moreN s (l.take K) = t := ⟨_, rfl⟩
  rw [ht] at HMo htl HT4
  have h4l : ((l.drop K).take 4).length = 4 := by rw [List.length_take, List.length_drop]; omega
  have hxl : ((l.drop F).take x).length = x := by rw [List.length_take, List.length_drop]; omega
  have hdm : (l.drop F).take x = m.take x := by
    have h1 := countR_back HP.out
    have h2 : l = (l.take 2 ++ numB x) ++ m := by rw [List.append_assoc, ← h1, ← HD.out, List.take_append_drop]
    have h3 : (l.take 2 ++ numB x).length = F := by
      have := congrArg List.length h2
      rw [List.length_append, hLl, HM.out] at this
      omega
    have h4 : l.drop F = m := by
      rw [h2]
      exact List.drop_left' h3
    rw [h4]
  have HF4 := Lib.hid (fun W => four_any t W (by omega))
  have HSM := Lib.hid hsm
  have HSD := Lib.hid hsd
  have HDM := Lib.hid hdm
  have H4L := Lib.hid h4l
  have HXL := Lib.hid hxl
  clear hsh hsm hsd hdm h4l hxl ht hkl
  go_wp2_with fail
  refine HMo.out.mono ?_
  rintro e w3 ⟨rfl, rfl⟩
  have HEq := Lib.hid (fun (W : World) (A : Addr) (hW : Step [] w2 W) (hA : Bytes W (some A) (leN 4 t)) => show Calls Try.prog 61 #[.slice (some A) 4 4, .slice a4 4 (cap - K)] W fun e w' => e = .returned (.bool (decide (leN 4 t = (l.drop K).take 4))) ∧ Step [] W w' from by
    have h := equal_any (some A) a4 4 (cap - K) (leN 4 t) ((l.drop K).take 4) W hA (HSM.out.bytes.step hW (by simp)) (by rw [leN4_len]; decide)
    rw [H4L.out] at h
    exact h)
  obtain ⟨B, hBq⟩ : ∃ B, decide (leN 4 t = (l.drop K).take 4) = B := ⟨_, rfl⟩
  rw [hBq] at HEq
  have HBq := Lib.hid hBq
  clear hBq
  go_wp2_with fail
  go_region_law (first
    | (go_simp; go_at_call 52; refine (HF4.out _).mono ?_; rintro e5 w5 ⟨rfl, rfl⟩)
    | (go_simp; go_at_call 61; refine (HEq.out _ _ ((Step.refl [] w2).drew.alloc _) (four_bytes w2.drew t)).mono ?_; rintro e6 w6 ⟨rfl, hs6⟩
       have hs6' : Step [] w2 w6 := ((Step.refl [] w2).drew.alloc _).then hs6 (by simp)
       have HS6 := Lib.hid hs6'
       clear hs6 hs6'))
  have hB6 := HB2.out.step HS6.out (by simp)
  have hy0 := hB6.cell 0
  have hy1 := hB6.cell 1
  simp only [List.getElem?_toArray, List.getElem?_cons_zero, List.getElem?_cons_succ] at hy0 hy1
  have hg0 := hB6.free 0
  have hg1 := hB6.free 1
  have hd6 : w6.cell? ⟨b, off + 1, none⟩ = some (.int .u8 (kk.toNat : Int)) := (HS6.out.cell (by omega) (by simp)).trans hd1
  have hS6w := HS2.out.then HS6.out (by simp)
  have hsz6 := hS6w.size
  have HB6 := Lib.hid hB6
  have HS6w := Lib.hid hS6w
  clear hB6 hS6w hz0 hz1 hf0 hf1 hd1
  cases B with
  | false =>
    have hv := Lib.hid ((if_neg (of_decide_eq_false HBq.out)).symm.trans HT4.out)
    clear HT4
    go_wp2_with fail
    refine bodyPost_ret (next_end (by rfl) _ _ b0 _ _ _ _ _ ((HB6.out.set 0 _).set 1 _) (by rfl) (by rfl) (by rfl) (by rfl)) (by rfl) ?_
    rw [← hv.out]
    exact ⟨rfl, (HS6w.out.setCell (.inr (by omega)) 0 _).setCell (.inr (by omega)) 1 _⟩
  | true =>
    have hv := Lib.hid ((if_pos (of_decide_eq_true HBq.out)).symm.trans HT4.out)
    clear HT4
    have HCl := Lib.hid (fun (W : World) (hW : Step [] w6 W) => show Calls Try.prog 53 #[.slice a5 x (cap - F)] W fun e w' => ∃ v, e = .returned v ∧ w'.ownsRow W.heap.size 5 1 v x ((m.take x).map byteVal) ∧ Step [] W w' from by
      have h := clone_bytes a5 (cap - F) ((l.drop F).take x) W (fun h => ⟨by have := (HSD.out.nil h).1; omega, (HSD.out.nil h).2⟩) (HSD.out.bytes.step (HS6.out.then hW (by simp)) (by simp)) (by rw [HXL.out]; omega)
      rw [HDM.out] at h
      have hxl2 := HXL.out
      rw [HDM.out] at hxl2
      rw [hxl2] at h
      refine h.mono ?_
      rintro e w' ⟨v, h1, h2, h3⟩
      rw [hxl2] at h2
      exact ⟨v, h1, h2, h3⟩)
    have hmx : (m.take x).length = x := by have h := HXL.out; rw [HDM.out] at h; exact h
    have HMX := Lib.hid hmx
    clear hmx
    go_wp2_with fail
    go_region_law (first
      | (go_simp; go_at_call 53; refine (HCl.out _ (Step.refl [] w6).drew).mono ?_; rintro e7 w7 ⟨v7, rfl, hown7, hs7⟩
         have hs7' : Step [] w6 w7 := (Step.refl [] w6).drew.then hs7 (by simp)
         obtain ⟨g7, cg7, rfl, -⟩ := owns_bytes hown7
         have hB7 := HB6.out.step hs7' (by simp)
         have hx0 := hB7.cell 0
         have hx1 := hB7.cell 1
         simp only [List.getElem?_toArray, List.getElem?_cons_zero, List.getElem?_cons_succ] at hx0 hx1
         have hh0 := hB7.free 0
         have hh1 := hB7.free 1
         have hd7 : w7.cell? ⟨b, off + 1, none⟩ = some (.int .u8 (kk.toNat : Int)) := (hs7'.cell (by omega) (by simp)).trans hd6
         have HO7 := Lib.hid hown7
         have HS7 := Lib.hid hs7'
         have HB7 := Lib.hid hB7
         clear hown7 hs7 hs7' hB7))
    all_goals
      have hsz7 := HS7.out.size
      have hlt6 := HB6.out.lt
      go_wp2_with fail
      refine bodyPost_ret (next_end (by rfl) _ _ b0 _ _ _ _ _ ((HB7.out.set 0 _).set 1 _) (by rfl) (by rfl) (by rfl) (by rfl)) (by rfl) ?_
      rw [← hv.out]
      have hst : Step [b0] w7 ((w7.setCell ⟨b0, 0, none⟩ (.int .u8 (kk.toNat : Int))).setCell ⟨b0, 1, none⟩ (.slice g7 x cg7)) := ((Step.refl [b0] w7).setCell (.inl (by simp)) 0 _).setCell (.inl (by simp)) 1 _
      refine ⟨⟨_, rfl, ?_⟩, ((HS6w.out.then HS7.out (by simp)).setCell (.inr (by omega)) 0 _).setCell (.inr (by omega)) 1 _⟩
      rw [HMX.out]
      have ho := owns_low (base' := w.heap.size) HO7.out (by show w.heap.size ≤ w6.heap.size; omega)
      refine owns_step ho hst (fun k hk hm => ?_)
      simp at hm
      subst hm
      have := owns_base HO7.out k hk
      have h2 : w6.heap.size ≤ k := this
      omega
end Go.Proofs.Ytdmnhkmpfnhmdaa
end

section
namespace Go.Proofs.Ytdmnhkmpfnhmdaa
set_option linter.unusedVariables false
open Go.RowKit

/-- a slice whose room ends where it ends -/
theorem SlB.clip {P : Program} {w : World} {a : Option Addr} {l : List UInt8} {cap : Nat} (h : SlB w a l cap) (t e : TypeId) (ht : P.underlying t = some (.slice e)) (hz : ∀ w, (Go.sizeOf e).run P w = .ok 1 w) (n : Nat) (hn : l.length = n) (W : World) :
    (Instr.slice t (.slice a n cap) none (some (.int .i64 (n : Int))) (some (.int .i64 (n : Int)))).run P W = .ok (.slice a n n) W := by
  subst hn
  have ht' : P.underlying t = some (.slice (P.elem t)) := by simp [Program.elem, ht]
  have he : P.elem t = e := by simp [Program.elem, ht]
  have hl := h.len
  rw [run_slice_hm W t _ _ _ ht' .i64 .i64 _ _ (by omega) (by omega) (by omega), he, hz]
  simp only [Result.andThen, sliced, Nat.zero_mul, Int.toNat_natCast, Nat.sub_zero]
  cases a with
  | none => simp
  | some ad =>
    obtain ⟨b, off, sp⟩ := ad
    have hsp := h.plain _ rfl
    simp only at hsp
    subst hsp
    simp [add_plain]

theorem own_empty (w : World) (base : Nat) (hb : base ≤ w.heap.size) : (w.alloc (.cells #[] 5)).ownsRow base 5 1 (.slice (some ⟨w.heap.size, 0, none⟩) 0 0) 0 [] := by
  refine ⟨rfl, .inr ⟨w.heap.size, 0, #[], rfl, hb, ?_, Nat.le_refl _, Nat.zero_le _, rfl, rfl⟩⟩
  exact Go.heap_alloc_new _ _
/-- append to a row of one's own, or to one without room -/
theorem wpList_append_row {P : Program} {ops : Array Oper} {o : Oper} {rest : List Oper} {a : Act} {w : World} {Q : Exit → Act → World → Prop}
    (hg : o.guard = none) (s x : Operand) (t : TypeId) (hop : o.op = Op.call { callee := Callee.builtin Builtin.append, args := #[s, x], argTypes := #[t, t] })
    (base : Nat) (e : TypeId) (i : TypeInfo) (z : Value) (size bytes : Nat) (h1 : P.underlying t = some (.slice e)) (h2 : P.info? e = some i) (h3 : i.zero = some z) (h4 : i.size = size) (h5 : i.bytes = bytes) (h6 : z.cells.size = size) (h7 : 0 < size)
    (v : Value) (n : Nat) (xs : List Value) (hs : a.eval s = v) (hrow : RowOr w base e size v n xs)
    (ad : Addr) (m c : Nat) (news : List Value) (hx : a.eval x = .slice (some ad) m c) (hm : 0 < m) (hn : news.length = m * size) (hc : ∀ j u, news[j]? = some u → w.cell? (ad.add j) = some u) (h1c : ∀ u ∈ news, u.oneCell' = true)
    (b1 : n + m ≤ maxLen) (b2 : (n + m) * bytes ≤ 140737488355328) (hbase : base ≤ w.heap.size)
    (hK : ∀ g c' w', w'.ownsRow base e size (.slice (some ⟨g, 0, none⟩) (n + m) c') (n + m) (xs ++ news) → Step (foot v) w w' → Fresh w (foot v) (foot (.slice (some ⟨g, 0, none⟩) (n + m) c')) → wpList P ops Q rest (a.put o.dst (.slice (some ⟨g, 0, none⟩) (n + m) c')) w') :
    wpList P ops Q (o :: rest) a w := by
  have hw : Region.wanted o (yielded ops a.tmps) = true := by simp [Region.wanted, hg]
  have h := step_append_row (E := True) (K := wpList P ops Q rest) (ops := ops) (Q := Q) hg s x t hop base e i z size bytes h1 h2 h3 h4 h5 h6 h7 v n xs hs hrow ad m c news hx hm hn hc h1c b1 b2 hbase hK
  rw [if_pos hw] at h
  unfold wpList
  rw [if_pos hw]
  exact .inl h

set_option maxRecDepth 20000 in
set_option maxHeartbeats 1000000 in
theorem put_any (base db lb half t sm : Nat) (tv lv wv : Value) (S : List (List UInt8)) (W : List (Nat × List UInt8)) (C : List UInt8) (k : UInt8) (a : Option Addr) (cap : Nat) (d : List UInt8) (w : World)
    (hL : Lg w base lb db tv half t C sm) (hD : Dsk w base db lv wv S W false) (hap : ∀ x, x ∈ footL lb tv → x ∉ footD db lv wv) (hh : half ≤ 1) (ht : t < 18446744073709551616) (hsm : sm < 4294967296)
    (hn : a = none → d.length = 0 ∧ cap = 0) (hB : Bytes w a d) (hd : d.length ≤ 1024) (hroom : C.length + (frameB sm k d).length ≤ S.length / 2 * 55) (hW : W.length ≤ 950) (hbase : base ≤ w.heap.size) :
    Calls Try.prog 31 #[.pointer (some ⟨lb, 0, none⟩), .agg #[.int .u8 (k.toNat : Int), .slice a d.length cap]] w fun e w' => e = .returned (.int .i64 0) ∧ ∃ tv' wv', Lg w' base lb db tv' half t (C ++ frameB sm k d) (moreN sm (headB k d)) ∧ Dsk w' base db lv wv' S (W ++ putW (S.length / 2) half t C (C ++ frameB sm k d)) false ∧ (∀ x, x ∈ footL lb tv' → x ∉ footD db lv wv') ∧ Step (footL lb tv ++ footD db lv wv) w w' ∧ Fresh w (foot wv) (foot wv') ∧ (∀ x, x ∈ foot tv' → w.heap.size ≤ x) := by
  obtain ⟨i0, hi, hz0, hz1, hz2⟩ := info_parts Try.infoB
  obtain ⟨ta, tc, rfl, htl⟩ := hL.tail
  have HBy := Lib.hid (fun W' (hs : Step [] w W') => bytes_any sm k a cap d W' hsm hn (hB.step hs (by simp)) hd)
  obtain ⟨b, hb⟩ : ∃ b, frameB sm k d = b := ⟨_, rfl⟩
  obtain ⟨s2, hs2⟩ : ∃ s2, moreN sm (headB k d) = s2 := ⟨_, rfl⟩
  have hbl : 0 < b.length ∧ b.length ≤ 1100 := by
    have h1 := headB_len k d
    have h2 := numB_len d.length
    rw [← hb]
    unfold frameB
    rw [List.length_append, leN4_len]
    omega
  have hs2l : s2 < 4294967296 := by rw [← hs2]; exact moreN_lt _ _
  rw [hb, hs2] at HBy
  rw [hb] at hroom
  rw [hb, hs2]
  clear hb hs2
  have HLg := Lib.hid hL
  have HD := Lib.hid hD
  have HAP := Lib.hid hap
  have HTL := Lib.hid htl
  have hfew := hD.few
  have hltb := hL.blk.lt
  have hc4 := hL.blk.cell 4
  clear hL hD hap htl hn hB
  go_enter Try.func31, Try.ntmps31
  go_wp2_with fail
  obtain ⟨wA, hwA⟩ : ∃ wA, w.alloc (.cells #[.int .u8 (k.toNat : Int), .slice a d.length cap] 34) = wA := ⟨_, rfl⟩
  have hsA : Step [] w wA := by rw [← hwA]; exact (Step.refl [] w).alloc _
  have hbA : Blk wA w.heap.size #[.int .u8 (k.toNat : Int), .slice a d.length cap] 34 := by rw [← hwA]; exact Blk.new w _ _
  rw [hwA]
  have HSA := Lib.hid hsA
  have hltA := hbA.lt
  have hA0 := hbA.cell 0
  have hA1 := hbA.cell 1
  simp only [List.getElem?_toArray, List.getElem?_cons_zero, List.getElem?_cons_succ] at hA0 hA1
  have hA4 : wA.cell? ⟨lb, 4, none⟩ = some (.int .u32 (sm : Int)) := (hsA.cell hltb (by simp)).trans hc4
  clear hwA hbA
  have hszA := hsA.size
  obtain ⟨B0, hB0⟩ : ∃ B0, w.heap.size = B0 := ⟨_, rfl⟩
  rw [hB0] at hA0 hA1 hltA hszA hbase hltb
  rw [hB0]
  have HB0 := Lib.hid hB0
  clear hB0
  have hltA4 : lb < wA.heap.size := by omega
  have hnn : Nonempty (ClsW (Step [] wA.drew)) := ⟨⟨_, Step.refl _ _⟩⟩
  have x0 : ∀ y : ClsW (Step [] wA.drew), y.val.cell? ⟨B0, 0, none⟩ = some (.int .u8 (k.toNat : Int)) := fun y => (y.ok.cell hltA (by simp)).trans hA0
  have x1 : ∀ y : ClsW (Step [] wA.drew), y.val.cell? ⟨B0, 1, none⟩ = some (.slice a d.length cap) := fun y => (y.ok.cell hltA (by simp)).trans hA1
  have x4 : ∀ y : ClsW (Step [] wA.drew), y.val.cell? ⟨lb, 4, none⟩ = some (.int .u32 (sm : Int)) := fun y => (y.ok.cell hltA4 (by simp)).trans hA4
  clear hA0 hA1 hA4 hc4 hsA
  refine wp_region_noPanic ?_
  refine wp_region_late (spB_law B0 b (fun u => .tuple #[u, .int .u32 (s2 : Int), .int .i64 0])) [7, 8, 9] 10 (by kernel_rfl) (by kernel_rfl) (fun c a d v w h => h) ?_
  simp only [List.take_succ_cons, List.take_zero, List.drop_succ_cons, List.drop_zero]
  refine wpR_pre (spB_law B0 b (fun u => .tuple #[u, .int .u32 (s2 : Int), .int .i64 0])) anti_tailW 5 _ _ _ ?_ rfl
  simp only [List.take_succ_cons, List.take_zero, List.drop_succ_cons, List.drop_zero]
  repeat (go_big_quiet_step (fail))
  refine wpQuiet_nil ?_
  refine wpR_callF 44 _ _ rfl (by rfl) Try.func44 (by kernel_rfl) (by kernel_rfl) #[.int .u32 (sm : Int), .agg #[.int .u8 (k.toNat : Int), .slice a d.length cap]] (by simp [Act.eval]) (fun w1 hg => (HBy.out w1 ((HSA.out.drew).then hg (by simp))).mono fun e w2 h => by
    obtain ⟨u, h1, h2, h3⟩ := h
    exact ⟨_, h1, ⟨u, rfl, owns_low h2 (by have := hg.size; have h4 : wA.drew.heap.size = wA.heap.size := rfl; omega)⟩, h3⟩) ?_
  rintro v4 ⟨w4', hg4, u, rfl, ho4⟩
  obtain ⟨g1, k1, rfl, -⟩ := owns_form ho4 hbl.1
  clear ho4 hg4
  try go_simp
  refine wpR_pre (spB_law B0 b (fun u => .tuple #[u, .int .u32 (s2 : Int), .int .i64 0])) anti_tailW 4 _ _ _ ?_ rfl
  simp only [List.take_succ_cons, List.take_zero, List.drop_succ_cons, List.drop_zero]
  repeat (go_big_quiet_step (fail))
  refine wpQuiet_nil ?_
  unfold wpR
  rintro w1 hs1 hF
  obtain ⟨u, hu, ho1⟩ := hF
  simp at hu
  subst hu
  have hS1 : Step [] w w1 := HSA.out.drew.then hs1 (by simp)
  have HO1 := Lib.hid ho1
  have HS1 := Lib.hid hS1
  have HRm := Lib.hid (lroom_any base db lb half t C.length sm _ lv wv S W false w1 (HLg.out.step hS1 (by simp)).blk (HD.out.step hS1 (by simp)) (by omega))
  clear hS1 ho1 hs1 x0 x1 x4 hnn
  have p1 : decide (((S.length / 2 * 55 - C.length : Nat) : Int) < (b.length : Int)) = false := by simp; omega
  go_wp2_with fail
  refine NoPanic.normal ?_
  go_wp2_with fail
  refine HRm.out.mono ?_
  rintro e2 w2 ⟨rfl, n2, hw2⟩
  have hs12 : Step [] w1 w2 := by rw [hw2]; exact (Step.refl [] w1).drewN n2
  have hS2 : Step [] w w2 := HS1.out.then hs12 (by simp)
  have HO2 := Lib.hid (owns_step HO1.out hs12 (by simp))
  have hL2 := HLg.out.step hS2 (by simp)
  have hD2 := HD.out.step hS2 (by simp)
  have HSe := Lib.hid (fun W' (hs : Step [] w2 W') => sectors_any base db lb half t C.length sm _ lv wv S W false W' (hL2.blk.step hs (by simp)) (hD2.step hs (by simp)))
  have c1 : w2.cell? ⟨lb, 1, none⟩ = some (.int .i64 (half : Int)) := hL2.blk.cell 1
  have c3 : w2.cell? ⟨lb, 3, none⟩ = some (.int .i64 (C.length : Int)) := hL2.blk.cell 3
  have c5 : w2.cell? ⟨lb, 5, none⟩ = some (.slice ta (tailC C).length tc) := hL2.blk.cell 5
  have HL2 := Lib.hid hL2
  have HD2 := Lib.hid hD2
  have HS2 := Lib.hid hS2
  have HTL2 := Lib.hid (HTL.out.step hS2 (by simp))
  clear hS2 hs12 hw2 hL2 hD2 HS1 HO1 HTL
  go_wp2_with fail
  obtain ⟨N, hN⟩ : ∃ N, S.length / 2 = N := ⟨_, rfl⟩
  have hNS : N * 2 ≤ S.length := by omega
  obtain ⟨E, hE⟩ : ∃ E, C.length = E := ⟨_, rfl⟩
  obtain ⟨T, hT⟩ : ∃ T, tailC C = T := ⟨_, rfl⟩
  have HTl := Lib.hid (show T.length = E % 55 by rw [← hT, tailC_len, hE])
  obtain ⟨Q, hQ⟩ : ∃ Q, E / 55 = Q := ⟨_, rfl⟩
  rw [hN] at HSe hroom p1
  rw [hE] at c3 hroom p1
  rw [hT] at c5
  have HN := Lib.hid hN
  have HE := Lib.hid hE
  have HT := Lib.hid hT
  have HQ := Lib.hid hQ
  have hhN : half * N ≤ N := by
    have := Nat.mul_le_mul_right N hh
    omega
  obtain ⟨F, hF⟩ : ∃ F, half * N + Q = F := ⟨_, rfl⟩
  have e1 : IntKind.i64.wrap ((half : Int) * (N : Int)) = ((half * N : Nat) : Int) := by
    rw [wrap_id _ (by rw [← Int.natCast_mul]; omega) (by rw [← Int.natCast_mul]; omega), Int.natCast_mul]
  have e2 : IntKind.i64.wrap (((half * N : Nat) : Int) + (E : Int) / 55) = (F : Int) := by
    rw [wrap_id _ (by omega) (by omega)]
    omega
  have e3 : (E : Int) / 55 = (Q : Int) := by omega
  clear HRm hN hE hT hQ p1
  go_quiet ((go_at_call 38; exact quiet_same (HSe.out _ ((Step.refl [] w2).drewN _))))
  rename_i nq
  have e4 : (half : Int) * (N : Int) + (Q : Int) = (F : Int) := by rw [← hF]; simp
  rw [e4]
  have hs3 : Step [] w2 (w2.drewN nq) := (Step.refl [] w2).drewN nq
  obtain ⟨w3, hw3⟩ : ∃ w3, w2.drewN nq = w3 := ⟨_, rfl⟩
  rw [hw3] at hs3 ⊢
  have HO3 := Lib.hid (owns_step HO2.out hs3 (by simp))
  have HL3 := Lib.hid (HL2.out.step hs3 (by simp))
  have HD3 := Lib.hid (HD2.out.step hs3 (by simp))
  have HTL3 := Lib.hid (HTL2.out.step hs3 (by simp))
  have HS3 := Lib.hid (HS2.out.then hs3 (by simp))
  have hlt3 : lb < w3.heap.size := HL3.out.blk.lt
  have d5 : w3.cell? ⟨lb, 5, none⟩ = some (.slice ta T.length tc) := (hs3.cell HL2.out.blk.lt (by simp)).trans c5
  clear c1 c3 c5 hs3 hw3 e1 e2 e3 e4 HSe HO2 HL2 HD2 HTL2 HS2
  have hTm : T.length ≤ tc := by have h := HTL3.out.len; rw [HT.out] at h; exact h
  have hTx : tc ≤ maxLen := HTL3.out.max
  have hTx2 : (tc : Int) ≤ 9223372036854775807 := by unfold maxLen at hTx; omega
  have hT55 : T.length < 55 := by rw [HTl.out]; omega
  have hclip : ∀ W : World, (Instr.slice 32 (.slice ta T.length tc) none (some (.int .i64 (T.length : Int))) (some (.int .i64 (T.length : Int)))).run Try.prog W = .ok (.slice ta T.length T.length) W := fun W => HTL3.out.clip 32 5 Try.underlying32 Try.sizeB T.length (by rw [HT.out]) W
  have q1 : (0 : Int) ≤ (T.length : Int) := by omega
  have q2 : (T.length : Int) ≤ (tc : Int) := by omega
  have hrow := Lib.hid (fun W' (hs : Step [] w3 W') => show RowOr W' B0 5 1 (.slice ta T.length T.length) T.length (T.map byteVal) from .inr ⟨ta, rfl, fun h => by have := (HTL3.out.nil h).1; rw [HT.out] at this; exact this, by simp, fun x hx => by
    have hb := HTL3.out.bytes
    rw [HT.out] at hb
    refine ⟨Nat.lt_of_lt_of_le (Nat.lt_of_lt_of_le (HLg.out.tlow x.block (by rw [hx]; obtain ⟨xb, xo, xs⟩ := x; simp [foot, Value.ownBlock])).2 HS3.out.size) hs.size, (hb.step hs (by simp)).news x hx⟩⟩)
  have hnew := Lib.hid (fun W' (hs : Step [] w3 W') => (owns_read (owns_step HO3.out (Step.refl [] w3) (by simp)) hs))
  have hlow3 : B0 ≤ w3.heap.size := by have := HS3.out.size; rw [HB0.out] at this; exact this
  go_wp2_with fail
  have hnn : Nonempty (ClsW (Step [] w3.drew)) := ⟨⟨_, Step.refl _ _⟩⟩
  have x5 : ∀ y : ClsW (Step [] w3.drew), y.val.cell? ⟨lb, 5, none⟩ = some (.slice ta T.length tc) := fun y => (y.ok.cell hlt3 (by simp)).trans d5
  refine wp_region_noPanic ?_
  refine wp_region_rel_tail (spV_law undef) 16 (by kernel_rfl) (by kernel_rfl) ?_
  simp only [List.take_succ_cons, List.take_zero, List.drop_succ_cons, List.drop_zero]
  refine wpR_pre (spV_law undef) anti_tailW 16 _ _ _ ?_ rfl
  simp only [List.take_succ_cons, List.take_zero, List.drop_succ_cons, List.drop_zero]
  repeat (go_big_quiet_step (fail))
  refine wpQuiet_nil ?_
  unfold wpR
  intro w7 hs7 _
  have hs37 : Step [] w3 w7 := (Step.refl [] w3).drew.then hs7 (by simp)
  refine wpList_append_row rfl (.tmp 60) (.tmp 61) 32 rfl B0 5 i0 (.int .u8 0) 1 1 Try.underlying32 hi hz0 hz1 hz2 rfl (by decide) (.slice ta T.length T.length) T.length (T.map byteVal) rfl (hrow.out _ hs37) ⟨g1, 0, none⟩ b.length k1 (b.map byteVal) rfl hbl.1 (by simp) (hnew.out _ hs37) (byteVals_cell _) (by unfold maxLen; omega) (by omega) (Nat.le_trans hlow3 hs37.size) ?_
  intro g8 k8 w8 hown8 hs8 hf8
  rw [← List.map_append] at hown8
  have hft : ∀ c, foot (.slice ta T.length c) = foot (.slice ta (tailC C).length tc) := fun c => by
    cases ta <;> rfl
  rw [hft] at hs8
  have hs38 : Step (foot (.slice ta (tailC C).length tc)) w3 w8 := (hs37.mono (by simp)).then hs8 (fun k hk => .inl hk)
  have HS8 := Lib.hid ((HS3.out.mono (G := foot (.slice ta (tailC C).length tc)) (by simp)).then hs38 (fun k hk => .inl hk))
  have HB8 := Lib.hid (HL3.out.blk.step hs38 HL3.out.ap)
  have HD8 := Lib.hid (HD3.out.step hs38 (fun x hx hm => HAP.out x (List.mem_cons_of_mem _ hm) hx))
  have HO8 := Lib.hid hown8
  clear hown8 hs8 hf8 hs38 hs37 hs7 x5 d5 hnn hclip hrow hnew hft
  obtain ⟨A, hA⟩ : ∃ A, T ++ b = A := ⟨_, rfl⟩
  obtain ⟨M, hM⟩ : ∃ M, T.length + b.length = M := ⟨_, rfl⟩
  have hAM : A.length = M := by rw [← hA, ← hM, List.length_append]
  rw [hA, hM] at HO8
  rw [hM]
  have HA := Lib.hid hA
  have HAM := Lib.hid hAM
  have hM0 : 0 < M := by omega
  have hM1 : M ≤ 1200 := by omega
  clear hA hAM
  go_wp2_with fail
  refine NoPanic.normal ?_
  go_wp2_with fail
  obtain ⟨cnt, hcnt⟩ : ∃ cnt, (M + 54) / 55 = cnt := ⟨_, rfl⟩
  have hcnt1 : cnt ≤ 30 := by omega
  have hchunk : ∀ i, chunk (C ++ b) (Q + i) = (A.drop (i * 55)).take 55 := fun i => by
    have h1 : A = (C ++ b).drop (Q * 55) := by
      rw [← HA.out, ← HT.out]
      unfold tailC
      rw [HE.out, HQ.out, List.drop_append_of_le_length (by rw [HE.out, ← HQ.out]; omega)]
    unfold chunk
    rw [h1, List.drop_drop, show 55 * (Q + i) = Q * 55 + i * 55 by omega]
  have HCh := Lib.hid hchunk
  have hfit : F + cnt ≤ S.length := by
    have h1 := HTl.out
    have h2 := HQ.out
    rcases Nat.lt_or_ge half 1 with h | h
    · have h3 : half = 0 := by omega
      subst h3
      omega
    · have h3 : half = 1 := by omega
      subst h3
      omega
  clear hchunk
  go_loopw [10] (fun j wr => ∃ (i : Nat) (wv' : Value), j = .int .i64 (i : Int) ∧ i ≤ cnt ∧ Dsk wr base db lv wv' S (W ++ (List.range i).map fun x => secAt N half t (C ++ b) (Q + x)) false ∧ Step (footD db lv wv) w8 wr ∧ Fresh w8 (foot wv) (foot wv')) (fun j _ => cnt - (intOf j).toNat)
  case atStart => exact ⟨0, wv, rfl, Nat.zero_le _, by simpa using HD8.out, Step.refl _ _, fun k hk => .inl hk⟩
  case round =>
    obtain ⟨i, wv', rfl, hic, hDr, hsr, hfr⟩ := hrel
    have HDr := Lib.hid hDr
    have HSr := Lib.hid hsr
    have HFr := Lib.hid hfr
    have e5 : IntKind.i64.wrap ((i : Int) * 55) = ((i * 55 : Nat) : Int) := by rw [wrap_id _ (by omega) (by omega)]; simp
    by_cases hlt : i * 55 < M
    · obtain ⟨LO, hLO⟩ : ∃ LO, i * 55 = LO := ⟨_, rfl⟩
      rw [hLO] at e5
      have p1 : (LO : Int) < (M : Int) := by omega
      have p2 : (0 : Int) ≤ (LO : Int) := by omega
      have e6 : IntKind.i64.wrap ((i : Int) + 1) = (i : Int) + 1 := wrap_id _ (by omega) (by omega)
      have hi2 : i + 1 ≤ cnt := by omega
      obtain ⟨a8, c8, hv8, -, hsl8, hft8, -⟩ := owns_slb HO8.out
      rw [HAM.out] at hv8
      cases hv8
      obtain ⟨H2, hH2⟩ : ∃ H2, LO + 55 = H2 := ⟨_, rfl⟩
      have e7 : IntKind.i64.wrap (((i : Int) + 1) * 55) = (H2 : Int) := by rw [wrap_id _ (by omega) (by omega)]; omega
      obtain ⟨HI, hHI⟩ : ∃ HI, min H2 M = HI := ⟨_, rfl⟩
      obtain ⟨a9, hcut, hslP, hbk9⟩ := hsl8.cutMid (P := Try.prog) 32 5 Try.underlying32 Try.sizeB LO HI (by omega) (by rw [HAM.out]; omega)
      rw [HAM.out] at hcut
      have hmk := hsl8.len
      rw [HAM.out] at hmk
      obtain ⟨Pt, hPt⟩ : ∃ Pt, (A.drop LO).take (HI - LO) = Pt := ⟨_, rfl⟩
      obtain ⟨PL, hPL⟩ : ∃ PL, HI - LO = PL := ⟨_, rfl⟩
      have hPl : Pt.length = PL := by
        rw [← hPt, List.length_take, List.length_drop, HAM.out]
        omega
      have hPc : chunk (C ++ b) (Q + i) = Pt := by
        rw [HCh.out, ← hPt, hLO]
        have hAl := HAM.out
        rcases Nat.le_total H2 M with h | h
        · rw [show HI - LO = 55 by omega]
        · rw [List.take_of_length_le (by rw [List.length_drop]; omega), List.take_of_length_le (by rw [List.length_drop]; omega)]
      rw [hPt] at hslP
      rw [hPL] at hcut
      have HPc := Lib.hid hPc
      have HPl := Lib.hid hPl
      have hPL55 : PL ≤ 55 := by omega
      have hsl9 := hslP.step HSr.out (fun x hx hm => by
        have h1 := blkOf_foot (some ⟨g8, 0, none⟩) M k8 x (by rw [← hbk9]; exact hx)
        have h2 := owns_base HO8.out x h1
        have h3 := HD.out.live x hm
        rw [HB0.out] at h3
        omega)
      have HSl9 := Lib.hid hsl9
      clear hsl8 hft8 hPc hPl hPt hbk9 hslP hsl9 hDr hsr hfr
      have hcases : (M < H2 ∧ HI = M) ∨ (H2 ≤ M ∧ HI = H2) := by omega
      have hLH : LO ≤ H2 := by omega
      have m0 : (LO : Int) ≤ (M : Int) := by omega
      have m1 : (LO : Int) ≤ (H2 : Int) := by omega
      have m3 : (M : Int) ≤ (k8 : Int) := by omega
      have hwp : ∃ lo : Nat, (F : Int) + (i : Int) = (lo : Int) ∧ lo < S.length ∧ lo = half * N + (Q + i) := ⟨F + i, by omega, by omega, by omega⟩
      obtain ⟨at', hat1, hat2, hat3⟩ := hwp
      have e8 : IntKind.i64.wrap ((F : Int) + (i : Int)) = (at' : Int) := by rw [wrap_id _ (by omega) (by omega)]; exact hat1
      have HA3 := Lib.hid hat3
      have HSec := Lib.hid (fun W' (hs : Step [] wr W') => sector_any t a9 (k8 - LO) Pt W' ht (fun h => (HSl9.out.step hs (by simp)).nil h) ((HSl9.out.step hs (by simp)).bytes) (by rw [HPl.out]; omega))
      rw [HPl.out] at HSec
      have hBr := (HB8.out.step HSr.out (fun hm => HAP.out lb (by simp [footL]) hm))
      have r0 := hBr.cell 0
      have r2 := hBr.cell 2
      have hltr := hBr.lt
      simp only [logC, List.getElem?_toArray, List.getElem?_cons_zero, List.getElem?_cons_succ] at r0 r2
      have hst9 : (secL t Pt).length ≤ 64 := by rw [secL_len, HPl.out]; omega
      have HWr := Lib.hid (fun (W' : World) (hs : Step [] wr W') (g c : Nat) (ho : W'.ownsRow wr.heap.size 5 1 (.slice (some ⟨g, 0, none⟩) (secL t Pt).length c) (secL t Pt).length ((secL t Pt).map byteVal)) => show Calls Try.prog 17 #[.pointer (some ⟨db, 0, none⟩), .int .i64 (at' : Int), .slice (some ⟨g, 0, none⟩) (secL t Pt).length c] W' fun e w' => e = .returned (.int .i64 0) ∧ ∃ wv2, Dsk w' base db lv wv2 S ((W ++ (List.range i).map fun x => secAt N half t (C ++ b) (Q + x)) ++ [(at', pad (secL t Pt))]) false ∧ Step (footD db lv wv') W' w' ∧ Fresh W' (foot wv') (foot wv2) from by
        obtain ⟨a', cap', hv', hl', hm', hc', hb', hn', -⟩ := owns_bytes ho
        cases hv'
        exact write_ok base db lv wv' S _ at' (some ⟨g, 0, none⟩) c (secL t Pt) W' (HDr.out.step hs (by simp)) hat2 hb' hn' hst9 (by simp; omega))
      clear hHI hH2 hPL hBr hat2 hat3 hat1
      rcases hcases with ⟨hm1, hm2⟩ | ⟨hm1, hm2⟩
      all_goals
        rw [hm2] at hcut
        clear hm2
        first
        | (have m4 : ¬ (H2 : Int) ≤ (M : Int) := by omega)
        | (have m4 : (H2 : Int) ≤ (M : Int) := by omega
           have m5 : (H2 : Int) ≤ (k8 : Int) := by omega)
        go_wp2_with fail
        have hnn : Nonempty (ClsW (Step [] wr.drew)) := ⟨⟨_, Step.refl _ _⟩⟩
        have x0 : ∀ y : ClsW (Step [] wr.drew), y.val.cell? ⟨lb, 0, none⟩ = some (.pointer (some ⟨db, 0, none⟩)) := fun y => (y.ok.cell hltr (by simp)).trans r0
        have x2 : ∀ y : ClsW (Step [] wr.drew), y.val.cell? ⟨lb, 2, none⟩ = some (.int .u64 (t : Int)) := fun y => (y.ok.cell hltr (by simp)).trans r2
        refine wp_region_noPanic ?_
        refine wp_region_rel_tail (spB_law wr.heap.size (secL t Pt) id) 13 (by kernel_rfl) (by kernel_rfl) ?_
        simp only [List.take_succ_cons, List.take_zero, List.drop_succ_cons, List.drop_zero]
        refine wpR_pre (spB_law wr.heap.size (secL t Pt) id) anti_tailW 12 _ _ _ ?_ rfl
        simp only [List.take_succ_cons, List.take_zero, List.drop_succ_cons, List.drop_zero]
        repeat (go_big_quiet_step (fail))
        refine wpQuiet_nil ?_
        refine wpR_callF 45 _ _ rfl (by rfl) Try.func45 (by kernel_rfl) (by kernel_rfl) #[.int .u64 (t : Int), .slice a9 PL (k8 - LO)] (by simp [Act.eval]) (fun w1 hg => (HSec.out w1 (((Step.refl [] wr).drew).then hg (by simp))).mono fun e w2 h => by
          obtain ⟨u, h1, h2, h3⟩ := h
          exact ⟨_, h1, ⟨u, rfl, owns_low h2 (by have := hg.size; have h4 : wr.drew.heap.size = wr.heap.size := rfl; omega)⟩, h3⟩) ?_
        rintro v10 ⟨w10', hg10, u, rfl, ho10⟩
        obtain ⟨g10, k10, rfl, -⟩ := owns_form ho10 (by rw [secL_len]; omega)
        clear ho10 hg10
        try go_simp
        unfold wpR
        rintro w10 hs10 hF
        obtain ⟨u, hu, ho10⟩ := hF
        have hu' : u = .slice (some ⟨g10, 0, none⟩) (secL t Pt).length k10 := by simpa using hu.symm
        subst hu'
        have hs10r : Step [] wr w10 := (Step.refl [] wr).drew.then hs10 (by simp)
        have HW10 := Lib.hid (HWr.out w10 hs10r g10 k10 ho10)
        have HS10 := Lib.hid hs10r
        clear hs10 hs10r hu ho10 x0 x2 hnn r0 r2
        go_wp2_with fail
        refine HW10.out.mono ?_
        rintro e w11 ⟨rfl, wv2, hD2, hs11, hf11⟩
        have hs8r : Step (footD db lv wv) w8 w11 := (HSr.out.then HS10.out (by simp)).then hs11 (fun x hx => by
          simp only [footD, List.mem_cons, List.mem_append] at hx ⊢
          rcases hx with h | h | h
          · exact .inl (.inl h)
          · exact .inl (.inr (.inl h))
          · exact (HFr.out x h).imp (fun h => .inr (.inr h)) id)
        have hf8r : Fresh w8 (foot wv) (foot wv2) := fun x hx => by
          rcases hf11 x hx with h | h
          · exact HFr.out x h
          · have h1 := HSr.out.size
            have h2 := HS10.out.size
            exact .inr (by omega)
        have HR := Lib.hid (And.intro hD2 (And.intro hs8r hf8r))
        clear hD2 hs11 hf11 hs8r hf8r
        go_wp2_with fail
        refine NoPanic.normal ?_
        go_wp2_with fail
        go_roundw
        case rel =>
          refine ⟨i + 1, wv2, by go_num, hi2, ?_, HR.out.2.1, HR.out.2.2⟩
          have h := HR.out.1
          have h2 : secAt N half t (C ++ b) (Q + i) = (at', pad (secL t Pt)) := by
            unfold secAt
            rw [HPc.out, ← HA3.out]
          rw [List.append_assoc, ← h2] at h
          rw [List.range_succ, List.map_append]
          exact h
        case measure => simp [intOf]; omega
    · obtain rfl : i = cnt := by omega
      have hBr := (HB8.out.step HSr.out (fun hm => HAP.out lb (by simp [footL]) hm))
      have r3 := hBr.cell 3
      have f3 := hBr.free 3
      have f4 := hBr.free 4
      have f5 := hBr.free 5
      have r4 := hBr.cell 4
      have r5 := hBr.cell 5
      simp only [logC, List.getElem?_toArray, List.getElem?_cons_zero, List.getElem?_cons_succ] at r3 r4 r5
      rw [HE.out] at r3
      have e9 : IntKind.i64.wrap ((E : Int) + (b.length : Int)) = (E : Int) + (b.length : Int) := wrap_id _ (by omega) (by omega)
      have p1 : ¬ ((i * 55 : Nat) : Int) < (M : Int) := by omega
      obtain ⟨Z, hZ⟩ : ∃ Z, M / 55 * 55 = Z := ⟨_, rfl⟩
      have e10 : IntKind.i64.wrap ((M : Int) / 55 * 55) = (Z : Int) := by rw [wrap_id _ (by omega) (by omega)]; omega
      have hZM : Z ≤ M := by omega
      obtain ⟨a8, c8, hv8, -, hsl8, hft8, -⟩ := owns_slb HO8.out
      rw [HAM.out] at hv8
      cases hv8
      obtain ⟨a9, hcut, hslP, hbk9⟩ := hsl8.cutLow (P := Try.prog) 32 5 Try.underlying32 Try.sizeB Z (by rw [HAM.out]; omega)
      have hdl : (A.drop Z).length = M - Z := by rw [List.length_drop, HAM.out]
      rw [hdl, HAM.out] at hcut
      obtain ⟨R, hR⟩ : ∃ R, M - Z = R := ⟨_, rfl⟩
      rw [hR] at hcut
      have hsl9 := hslP.step HSr.out (fun x hx hm => by
        have h1 := blkOf_foot (some ⟨g8, 0, none⟩) M k8 x (by rw [← hbk9]; exact hx)
        have h2 := owns_base HO8.out x h1
        have h3 := HD.out.live x hm
        rw [HB0.out] at h3
        omega)
      have HSl9 := Lib.hid hsl9
      have HDl := Lib.hid hdl
      have HZ := Lib.hid hZ
      have HBr := Lib.hid hBr
      have m1 : (0 : Int) ≤ (Z : Int) := by omega
      have m2 : (Z : Int) ≤ (M : Int) := by omega
      have hltr := hBr.lt
      have hne : lb ≠ wr.heap.size := by omega
      have hg8 := (owns_base HO8.out g8 (by simp [foot, Value.ownBlock]))
      have HBk := Lib.hid hbk9
      clear hBr hDr hsr hfr hsl8 hft8 hslP hsl9 hdl hZ hbk9
      have hes : Step [lb] wr ((wr.setCell ⟨lb, 3, none⟩ (.int .i64 ((E : Int) + (b.length : Int)))).setCell ⟨lb, 4, none⟩ (.int .u32 (s2 : Int))) := ((Step.refl [lb] wr).setCell (.inl (by simp)) 3 _).setCell (.inl (by simp)) 4 _
      have hszr : ((wr.setCell ⟨lb, 3, none⟩ (.int .i64 ((E : Int) + (b.length : Int)))).setCell ⟨lb, 4, none⟩ (.int .u32 (s2 : Int))).heap.size = wr.heap.size := by simp
      have hlowr : B0 ≤ wr.heap.size := by
        have h1 := HSr.out.size
        have h2 := HS8.out.size
        rw [HB0.out] at h2
        omega
      have hown := own_empty ((wr.setCell ⟨lb, 3, none⟩ (.int .i64 ((E : Int) + (b.length : Int)))).setCell ⟨lb, 4, none⟩ (.int .u32 (s2 : Int))) B0 (by rw [hszr]; exact hlowr)
      rw [hszr] at hown
      have HOw := Lib.hid hown
      have HES := Lib.hid hes
      have HSz := Lib.hid hszr
      have hnw := (HSl9.out.bytes.step (hes.alloc (.cells #[] 5)) (fun x off hx hm => by
        have h1 := HBk.out
        rw [hx] at h1
        simp [blkOf] at h1 hm
        omega)).news
      have HNW := Lib.hid hnw
      have hbs : B0 ≤ (((wr.setCell ⟨lb, 3, none⟩ (.int .i64 ((E : Int) + (b.length : Int)))).setCell ⟨lb, 4, none⟩ (.int .u32 (s2 : Int))).alloc (.cells #[] 5)).heap.size := Nat.le_trans hlowr (by rw [World.size_alloc, hszr]; omega)
      have HBS := Lib.hid hbs
      have hnl : ((A.drop Z).map byteVal).length = R * 1 := by
        have := HDl.out
        rw [List.length_map]
        omega
      have HNL := Lib.hid hnl
      have hnone : a9 = none → R = 0 ∧ k8 - Z = 0 := fun h => by
        have h1 := HSl9.out.nil h
        have h2 := HDl.out
        omega
      have HNo := Lib.hid hnone
      have hR9 : R ≤ 1200 := by omega
      clear hown hes hszr hnw hbs hnl hnone
      go_wp2_with (at_builtin; refine wpList_append_sep rfl (.tmp 112) (.tmp 118) 32 rfl B0 5 i0 (.int .u8 0) 1 1 Try.underlying32 hi hz0 hz1 hz2 rfl (by decide) (.slice (some ⟨wr.heap.size, 0, none⟩) 0 0) 0 [] rfl HOw.out a9 R (k8 - Z) ((A.drop Z).map byteVal) rfl HNo.out HNL.out HNW.out (byteVals_cell _) (by unfold maxLen; omega) (by omega) HBS.out ?_)
      intro v12 w12 hown12 hg12 hf12
      have hfv : ∀ x, x ∈ foot v12 → wr.heap.size ≤ x := fun x hx => by
        rcases hf12 x hx with h | h
        · simp [foot, Value.ownBlock] at h
          omega
        · rw [World.size_alloc, HSz.out] at h
          omega
      have hs12 : Step [lb] wr w12 := (HES.out.alloc _).grown hg12 (fun x hx => .inr (by simp [Value.ownBlock] at hx; omega))
      have hbx : Blk w12 lb ((((logC db half t C.length sm (.slice ta (tailC C).length tc)).setIfInBounds 3 (.int .i64 ((E : Int) + (b.length : Int)))).setIfInBounds 4 (.int .u32 (s2 : Int)))) 69 := by
        have h1 := (((HBr.out.set 3 (.int .i64 ((E : Int) + (b.length : Int)))).set 4 (.int .u32 (s2 : Int))).alloc (.cells #[] 5))
        have h2 : Step [wr.heap.size] (((wr.setCell ⟨lb, 3, none⟩ (.int .i64 ((E : Int) + (b.length : Int)))).setCell ⟨lb, 4, none⟩ (.int .u32 (s2 : Int))).alloc (.cells #[] 5)) w12 := (Step.refl _ _).grown hg12 (fun x hx => .inl (by simp [Value.ownBlock] at hx; simp [hx]))
        exact h1.step h2 (by simpa using hne)
      have f5' := hbx.free 5
      have r5' : w12.cell? ⟨lb, 5, none⟩ = some (.slice ta (tailC C).length tc) := by
        have h := hbx.cell 5
        simpa [logC] using h
      have HBx := Lib.hid hbx
      have HS12 := Lib.hid hs12
      have hown12' : w12.ownsRow B0 5 1 v12 R ((A.drop Z).map byteVal) := by simpa using hown12
      have HOx := Lib.hid hown12'
      have HFv := Lib.hid hfv
      have hlo : lb ∉ foot v12 := fun h => by have := hfv lb h; omega
      have HLo := Lib.hid hlo
      obtain ⟨ga, gc, rfl, hgl, -⟩ := owns_bytes hown12'
      clear hbx hs12 hown12 hown12' hg12 hf12 hfv hlo hgl
      go_wp2_with fail
      go_ret
      have hC' : (C ++ b).length = E + b.length := by rw [List.length_append, HE.out]
      have htl' : tailC (C ++ b) = A.drop Z := by
        have h1 : A = (C ++ b).drop (Q * 55) := by
          rw [← HA.out, ← HT.out]
          unfold tailC
          rw [HE.out, HQ.out, List.drop_append_of_le_length (by rw [HE.out, ← HQ.out]; omega)]
        unfold tailC
        rw [h1, List.drop_drop, hC', ← HZ.out]
        congr 1
        have h2 := HTl.out
        have h3 := HQ.out
        omega
      have hfin : Step [lb] w12 (w12.setCell ⟨lb, 5, none⟩ (.slice ga R gc)) := (Step.refl [lb] w12).setCell (.inl (by simp)) 5 _
      have hdlb : ∀ x, x ∈ footD db lv wv' → x ≠ lb := fun x hx he => by
        subst he
        simp only [footD, List.mem_cons, List.mem_append] at hx
        rcases hx with h | h | h
        · exact HAP.out x (by simp [footL]) (by simp [footD, h])
        · exact HAP.out x (by simp [footL]) (by simp [footD, h])
        · rcases HFr.out x h with h | h
          · exact HAP.out x (by simp [footL]) (by simp [footD, h])
          · have := HB8.out.lt
            omega
      refine ⟨rfl, .slice ga R gc, wv', ⟨?_, ?_, ?_, ?_, HLo.out⟩, ?_, ?_, ?_, ?_, ?_⟩
      · have h := HBx.out.set 5 (.slice ga R gc)
        have he : ((((logC db half t C.length sm (.slice ta (tailC C).length tc)).setIfInBounds 3 (.int .i64 ((E : Int) + (b.length : Int)))).setIfInBounds 4 (.int .u32 (s2 : Int)))).setIfInBounds 5 (.slice ga R gc) = logC db half t (C ++ b).length s2 (.slice ga R gc) := by
          rw [hC']
          simp [logC]
        rw [he] at h
        exact h
      · obtain ⟨xa, xc, hxv, hxl, hxs, -, -⟩ := owns_slb HOx.out
        rw [htl']
        refine ⟨xa, xc, hxv, hxs.step hfin (fun x hx hm => ?_)⟩
        simp at hm
        subst hm
        refine HLo.out ?_
        rw [hxv]
        exact blkOf_foot _ _ _ _ hx
      · intro x hx
        refine ⟨?_, ?_⟩
        · have := HFv.out x hx
          have h2 := HB0.out
          omega
        · have := owns_live HOx.out x hx
          simpa using this
      · exact HLg.out.low
      · have hpn : putN C (C ++ b) = i := by
          unfold putN
          rw [hC', HE.out]
          have h2 := HTl.out
          rw [← hcnt]
          congr 1
          omega
        have h := HDr.out.step (HS12.out.then hfin (fun x hx => .inl hx)) (fun x hx hm => hdlb x hx (by simpa using hm))
        unfold putW
        rw [hpn, HN.out, HE.out, HQ.out]
        exact h
      · intro x hx hm
        rcases List.mem_cons.1 hx with rfl | hx
        · exact hdlb _ hm rfl
        · have h1 := HFv.out x hx
          have h2 := HDr.out.live x hm
          omega
      · have hG : ∀ x, x ∈ [lb] → x ∈ footL lb (.slice ta (tailC C).length tc) ++ footD db lv wv ∨ wr.heap.size ≤ x := fun x hx => .inl (by simp at hx; simp [footL, hx])
        have h1 := HS8.out.mono (G := footL lb (.slice ta (tailC C).length tc) ++ footD db lv wv) (fun x hx => by simp [footL, hx])
        have h2 := h1.then HSr.out (fun x hx => .inl (List.mem_append_right _ hx))
        exact (h2.then HS12.out (fun x hx => .inl (by simp at hx; simp [footL, hx]))).then hfin (fun x hx => .inl (by simp at hx; simp [footL, hx]))
      · intro x hx
        rcases HFr.out x hx with h | h
        · exact .inl h
        · have h1 := HS8.out.size
          exact .inr (by omega)
      · intro x hx
        have h1 := HFv.out x hx
        have h2 := HB0.out
        omega
end Go.Proofs.Ytdmnhkmpfnhmdaa
end
