/- disk: Read. -/
import Derived.Test.YtjemdcdcjohjpaaDiskE
namespace Go.Proofs.Ytjemdcdcjohjpaa
set_option linter.unusedVariables false
open Go.RowKit

/-- a sector is loaded, and stored, at once -/
theorem exec_load_s (a : Act) (dst : Option Tmp) (x : Operand) (ty : TypeId) (pos : String) (after : Array Edge) (guard : Option (Nat × Bool)) :
    execOp a.eval { dst, op := .load 55 x, type := ty, pos, after, guard } = (do pure (.value (← loadBig 55 (a.eval x)))) := rfl
theorem Try.load_s (w : World) (b o : Nat) : (loadBig 55 (.pointer (some ⟨b, o, none⟩))).run Try.prog w = match rowC w b o 64 with
      | some cs => .ok (.agg cs.toArray) w
      | none => (loadBig0 55 (.pointer (some ⟨b, o, none⟩))).run Try.prog w :=
  run_loadBig 55 64 _ Try.underlying55 rfl (by kernel_rfl) w b o
theorem exec_store_s (a : Act) (dst : Option Tmp) (x y : Operand) (ty : TypeId) (pos : String) (after : Array Edge) (guard : Option (Nat × Bool)) :
    execOp a.eval { dst, op := .store 55 x y, type := ty, pos, after, guard } = (do storeBig 55 (a.eval x) (a.eval y); pure .skip) := rfl
theorem Try.store_s (w : World) (b o : Nat) (l : List Value) (ht : w.there b o 64) (hl : l.length = 64) (h1 : l.all (·.oneCell') = true) : (storeBig 55 (.pointer (some ⟨b, o, none⟩)) (.agg l.toArray)).run Try.prog w = .ok () (w.setCells b o l) :=
  run_storeBig 55 64 (by kernel_rfl) w b o l ht hl h1
attribute [local go_sem ↓] exec_load_w exec_load_s exec_store_s
attribute [local go_sem] Try.load_w row_drew Try.load_s Try.store_s

/-- a piece of the sectors -/
def cutS (S : List (List UInt8)) (f n : Nat) : List (List UInt8) := (S.drop f).take n
theorem cutS_len {S : List (List UInt8)} {f n : Nat} (h : f + n ≤ S.length) : (cutS S f n).length = n := by
  simp [cutS]
  omega
theorem cutS_in (S : List (List UInt8)) (f n a : Nat) (b : List UInt8) (h1 : f ≤ a) (h2 : a < f + n) : cutS (S.set a b) f n = (cutS S f n).set (a - f) b := by
  unfold cutS
  apply List.ext_getElem?
  intro j
  simp only [List.getElem?_take, List.getElem?_drop, List.getElem?_set, List.length_take, List.length_drop]
  by_cases hj : j < n
  · rw [if_pos hj]
    by_cases he : a = f + j
    · have he2 : a - f = j := by omega
      rw [if_pos he, if_pos he2]
      by_cases hl : a < S.length
      · rw [if_pos hl, if_pos (by omega)]
      · rw [if_neg hl, if_neg (by omega)]
    · rw [if_neg he, if_neg (by omega), if_pos hj]
  · rw [if_neg hj, if_neg (by omega), if_neg hj]
theorem cutS_out (S : List (List UInt8)) (f n a : Nat) (b : List UInt8) (h : a < f ∨ f + n ≤ a) : cutS (S.set a b) f n = cutS S f n := by
  unfold cutS
  apply List.ext_getElem?
  intro j
  simp only [List.getElem?_take, List.getElem?_drop, List.getElem?_set]
  by_cases hj : j < n
  · rw [if_pos hj, if_pos hj, if_neg (by omega)]
  · rw [if_neg hj, if_neg hj]
theorem cutS_mem {S : List (List UInt8)} {f n : Nat} {s : List UInt8} (h : s ∈ cutS S f n) : s ∈ S := List.mem_of_mem_drop (List.mem_of_mem_take h)

theorem flatS_get (S : List (List UInt8)) (k j : Nat) (hS : ∀ y ∈ S, y.length = 64) (hk : k < S.length) (hj : j < 64) : (flatS S)[k * 64 + j]? = (secB (S[k]))[j]? := by
  have he := flatS_cut S k hk
  have hl : (flatS (S.take k)).length = k * 64 := by
    rw [flatS_len _ (fun s h => hS s (List.mem_of_mem_take h)), List.length_take]
    congr 1
    omega
  have hwl : (secB (S[k])).length = 64 := by
    simp [secB, hS _ (List.getElem_mem hk)]
  rw [he, List.append_assoc, List.getElem?_append_right (by omega), hl, Nat.add_sub_cancel_left, List.getElem?_append_left (by omega)]
theorem flatS_drop (S : List (List UInt8)) (hS : ∀ y ∈ S, y.length = 64) (k : Nat) (hk : k ≤ S.length) : (flatS S).drop (k * 64) = flatS (S.drop k) := by
  have hl : (flatS (S.take k)).length = k * 64 := by
    rw [flatS_len _ (fun s h => hS s (List.mem_of_mem_take h)), List.length_take]
    congr 1
    omega
  have he : flatS S = flatS (S.take k) ++ flatS (S.drop k) := by
    conv => lhs; rw [← List.take_append_drop k S]
    simp only [flatS, List.flatMap_append]
  rw [he, ← hl, List.drop_left]
theorem flatS_take (S : List (List UInt8)) (hS : ∀ y ∈ S, y.length = 64) (k : Nat) (hk : k ≤ S.length) : (flatS S).take (k * 64) = flatS (S.take k) := by
  have hl : (flatS (S.take k)).length = k * 64 := by
    rw [flatS_len _ (fun s h => hS s (List.mem_of_mem_take h)), List.length_take]
    congr 1
    omega
  have he : flatS S = flatS (S.take k) ++ flatS (S.drop k) := by
    conv => lhs; rw [← List.take_append_drop k S]
    simp only [flatS, List.flatMap_append]
  rw [he, ← hl, List.take_left]
theorem flatS_piece (S : List (List UInt8)) (hS : ∀ y ∈ S, y.length = 64) (f n : Nat) (h : f + n ≤ S.length) : flatS (cutS S f n) = ((flatS S).drop (f * 64)).take (n * 64) := by
  rw [flatS_drop S hS f (by omega), flatS_take (S.drop f) (fun y hy => hS y (List.mem_of_mem_drop hy)) n (by simp; omega)]
  rfl

/-- what is read: the sectors with all that waits written -/
def readS (W : List (Nat × List UInt8)) (S : List (List UInt8)) (f n : Nat) : List (List UInt8) := cutS (syncS W S) f n

theorem wrap_id (x : Int) (h1 : -9223372036854775808 ≤ x) (h2 : x ≤ 9223372036854775807) : IntKind.i64.wrap x = x := by
  rw [IntKind.wrap_i64]
  omega
theorem setl_64 (kp : Nat → Bool) (W : List (Nat × List UInt8)) (S : List (List UInt8)) (hS : ∀ s ∈ S, s.length = 64) (hW : ∀ y ∈ W, y.2.length = 64) (k : Nat) : ∀ s ∈ setl kp W S k, s.length = 64 := by
  induction k with
  | zero => exact hS
  | succ k ih =>
    unfold setl
    split
    · rename_i x hx
      split
      · intro s hs
        rcases List.mem_or_eq_of_mem_set hs with h | rfl
        · exact ih s h
        · exact hW x (List.mem_of_getElem? hx)
      · exact ih
    · exact ih
set_option maxRecDepth 20000 in
set_option maxHeartbeats 2000000 in
theorem read_ok (base db : Nat) (lv wv : Value) (S : List (List UInt8)) (W : List (Nat × List UInt8)) (f n : Nat) (w : World) (h : Dsk w base db lv wv S W false) (hn0 : 0 < n) (hfn : f + n ≤ S.length) :
    Calls Try.prog 15 #[.pointer (some ⟨db, 0, none⟩), .int .i64 (f : Int), .int .i64 (n : Int)] w fun e w' => ∃ v, e = .returned (.tuple #[v, .int .i64 0]) ∧ w'.ownsRow w.heap.size 5 1 v (n * 64) (flatS (readS W S f n)) ∧ Step [] w w' := by
  have HDn := Lib.hid (down_any base db lv wv S W false w h)
  obtain ⟨lb, lcap, hlv, -, -, hcap, hcap2⟩ := owns_form h.own1 h.some1
  subst hlv
  obtain ⟨wa, wcap, rfl, hw0⟩ := owns_shape h.own2
  have c0 : w.cell? ⟨db, 0, none⟩ = some (.slice (some ⟨lb, 0, none⟩) S.length lcap) := h.blk.cell 0
  have hfew := h.few
  have hfew2 := h.few2
  have hci : (S.length : Int) ≤ (lcap : Int) := by omega
  have hc2 : (lcap : Int) ≤ 9223372036854775807 := by unfold maxLen at hcap2; omega
  clear hcap2
  have HD := Lib.hid h
  clear h
  obtain ⟨j0, hj0, hjz, hj1, hj2⟩ := info_parts Try.infoW
  have hzv : ∀ W, (zeroValue 57).run Try.prog W = .ok (.agg C0) W := fun W => by
    simp [zeroValue, typeInfo, hj0, hjz, C0]
  have hC0 : ¬ C0 = #[] := by decide
  clear hj0 hjz hj1 hj2
  have p1 : decide ((f : Int) < 0) = false := by simp
  have p2 : decide ((n : Int) < 0) = false := by simp
  have p3 : decide (S.length < f) = false := by simp; omega
  have e1 : IntKind.i64.wrap ((S.length : Int) - (f : Int)) = (S.length : Int) - (f : Int) := wrap_id _ (by omega) (by omega)
  have p4 : decide ((S.length : Int) - (f : Int) < (n : Int)) = false := by simp; omega
  have e2 : IntKind.i64.wrap ((f : Int) + (n : Int)) = (f : Int) + (n : Int) := wrap_id _ (by omega) (by omega)
  go_enter Try.func15, Try.ntmps15
  go_wp2_with fail
  refine HDn.out.mono ?_
  rintro e w1 ⟨rfl, rfl⟩
  go_wp2_with fail
  refine (clone_S (some ⟨lb, f * 64, none⟩) n (lcap - f) (flatS (cutS S f n)) w (fun h => by cases h) (by rw [flatS_len _ (fun s h => HD.out.len1 s (cutS_mem h)), cutS_len hfn]) (by omega) (flatS_one _) (fun w' x hx hs j u hu => by
    cases hx
    rw [flatS_piece S HD.out.len1 f n hfn] at hu
    have hj : j < n * 64 := by
      rcases Nat.lt_or_ge j (n * 64) with h | h
      · exact h
      · rw [List.getElem?_take, if_neg (by omega)] at hu
        cases hu
    rw [List.getElem?_take, if_pos hj, List.getElem?_drop] at hu
    have := owns_read HD.out.own1 hs (f * 64 + j) u hu
    rw [Addr.add_mid] at this ⊢
    rw [Nat.zero_add] at this
    exact this)).mono ?_
  rintro e w1 ⟨v1, rfl, ho1, hs1⟩
  obtain ⟨g, gc, rfl, hg1, hg2, -, -⟩ := owns_form ho1 hn0
  have d1 : w1.cell? ⟨db, 1, none⟩ = some (.slice wa W.length wcap) := (HD.out.blk.step hs1 (by simp)).cell 1
  have HO1 := Lib.hid ho1
  have HS1 := Lib.hid hs1
  clear ho1 hs1
  obtain ⟨m, hm⟩ : ∃ m, W.length = m := ⟨_, rfl⟩
  have HM := Lib.hid hm
  rw [hm] at d1
  clear hm
  go_wp2_with fail
  go_loopw [58] (fun j wr => ∃ k : Nat, k ≤ m ∧ j = .int .i64 k ∧ wr.ownsRow w.heap.size 55 64 (.slice (some ⟨g, 0, none⟩) n gc) n (flatS (cutS (setl (fun _ => true) W S k) f n)) ∧ Step [] w wr) (fun j _ => m - (intOf j).toNat)
  case atStart => exact ⟨0, Nat.zero_le _, rfl, HO1.out, HS1.out⟩
  case round =>
    obtain ⟨k, hkm, rfl, hO, hS⟩ := hrel
    have HO := Lib.hid hO
    have HSR := Lib.hid hS
    clear hO hS
    by_cases hk : k < m
    · have hkW : k < W.length := by have := HM.out; omega
      obtain ⟨wb, hwb⟩ : ∃ wb, wa = some ⟨wb, 0, none⟩ := by
        rcases HD.out.own2.2 with ⟨e1, e2⟩ | ⟨g, c, cur, e1, -⟩
        · omega
        · cases e1
          exact ⟨g, rfl⟩
      subst hwb
      obtain ⟨x, hx⟩ : ∃ x, W[k]? = some x := ⟨_, List.getElem?_eq_getElem hkW⟩
      have hxm : x ∈ W := List.mem_of_getElem? hx
      obtain ⟨hx1, hx2⟩ := HD.out.len2 x hxm
      obtain ⟨C, hC⟩ : ∃ C : Array Value, C.toList = waitB x := ⟨(waitB x).toArray, by simp⟩
      have hr : rowC wr wb (k * 65) 65 = some C.toList := by rw [hC]; exact row_of_wait (owns_step HD.out.own2 HSR.out (by simp)) (fun y hy => (HD.out.len2 y hy).2) k x hx
      have hCs : C.size = 65 := by
        rw [← Array.length_toList, hC]
        simp [waitB, secB, hx2]
      have hCo : ∀ v ∈ C.toList, v.oneCell' = true := by
        rw [hC]
        intro v hv
        rcases List.mem_cons.1 hv with rfl | hv
        · rfl
        · exact byteVals_cell _ v hv
      obtain ⟨W1, hst1, hblk1, hs1⟩ := store_whole (P := Try.prog) wr C0 C 57 (by rw [hCs]; rfl) hCo
      have d1 : W1.cell? ⟨wr.heap.size, 0, none⟩ = some (.int .i64 (x.1 : Int)) := by
        rw [hblk1.cell 0, ← Array.getElem?_toList, hC]
        rfl
      have d2 : rowC W1 wr.heap.size 1 64 = some (secB x.2) := by
        have h := row_of_range W1 wr.heap.size (secB x.2) 1 (fun j v hv => by
          rw [hblk1.cell, ← Array.getElem?_toList, hC, Nat.add_comm, waitB, List.getElem?_cons_succ]
          exact hv)
        rwa [show (secB x.2).length = 64 by simp [secB, hx2]] at h
      have HBk1 := Lib.hid hblk1
      have HS1 := Lib.hid hs1
      have hO1 := owns_step HO.out hs1 (by simp)
      have HO1 := Lib.hid hO1
      have HX := Lib.hid hx
      have HX1 := Lib.hid hx1
      have HX2 := Lib.hid hx2
      have HSW := Lib.hid (HSR.out.then hs1 (by simp))
      clear hblk1 hs1 hC hx hx1 hx2 hCo hO1
      have hkk : (k : Int) < (m : Int) := by omega
      have hse : setl (fun _ => true) W S (k + 1) = (setl (fun _ => true) W S k).set x.1 x.2 := by
        rw [setl_next _ _ _ _ _ HX.out]
        rfl
      have HSE := Lib.hid hse
      clear hse
      by_cases q1 : f ≤ x.1
      · by_cases q2 : x.1 < f + n
        · obtain ⟨i, hi⟩ : ∃ i, x.1 - f = i := ⟨_, rfl⟩
          have e3 : IntKind.i64.wrap ((x.1 : Int) - (f : Int)) = (i : Int) := by rw [wrap_id _ (by omega) (by omega)]; omega
          have hin : (i : Int) < (n : Int) := by omega
          have p5 : decide (f ≤ x.1) = true := by simpa using q1
          have p6 : decide ((x.1 : Int) < (f : Int) + (n : Int)) = true := by simp; omega
          have a2 : (secB x.2).length = 64 := by simp [secB, HX2.out]
          have a4 : (secB x.2).all (·.oneCell') = true := List.all_eq_true.2 (byteVals_cell _)
          have e4 : W1.there g (i * 64) 64 := fun j hj => by
            refine ⟨?_, World.ownsRow.frozenAt HO1.out _⟩
            have hj2 : i * 64 + j < n * 64 := by omega
            rw [World.ownsRow.cellAt HO1.out _ hj2, List.getElem?_eq_getElem (by rw [HO1.out.1]; exact hj2)]
            rfl
          have hfin : (W1.setCells g (i * 64) (secB x.2)).ownsRow w.heap.size 55 64 (.slice (some ⟨g, 0, none⟩) n gc) n (flatS (cutS (setl (fun _ => true) W S (k + 1)) f n)) := by
            rw [HSE.out, cutS_in _ _ _ _ _ q1 q2, hi]
            have hlS : f + n ≤ (setl (fun _ => true) W S k).length := by rw [setl_len]; exact hfn
            have h64 : ∀ s ∈ cutS (setl (fun _ => true) W S k) f n, s.length = 64 := fun s hs => setl_64 _ _ _ HD.out.len1 (fun y hy => (HD.out.len2 y hy).2) k s (cutS_mem hs)
            rw [← flatS_set _ _ _ (by rw [cutS_len hlS]; omega) h64 HX2.out]
            exact owns_setCells _ _ _ _ HO1.out
          have HF := Lib.hid (And.intro hfin (HSW.out.setCells (b := g) (.inr hg1) (secB x.2) (i * 64)))
          clear hfin hi
          go_wp2_with fail
          go_roundw
          case rel => exact ⟨k + 1, by omega, by go_num, HF.out⟩
          case measure => simp [intOf]; omega
        · have p5 : decide (f ≤ x.1) = true := by simpa using q1
          have p6 : decide ((x.1 : Int) < (f : Int) + (n : Int)) = false := by simp; omega
          have hfin : W1.ownsRow w.heap.size 55 64 (.slice (some ⟨g, 0, none⟩) n gc) n (flatS (cutS (setl (fun _ => true) W S (k + 1)) f n)) := by
            rw [HSE.out, cutS_out _ _ _ _ _ (.inr (by omega))]
            exact HO1.out
          have HF := Lib.hid hfin
          clear hfin
          go_wp2_with fail
          go_roundw
          case rel => exact ⟨k + 1, by omega, by go_num, HF.out, HSW.out⟩
          case measure => simp [intOf]; omega
      · have p5 : decide (f ≤ x.1) = false := by simpa using q1
        have hfin : W1.ownsRow w.heap.size 55 64 (.slice (some ⟨g, 0, none⟩) n gc) n (flatS (cutS (setl (fun _ => true) W S (k + 1)) f n)) := by
          rw [HSE.out, cutS_out _ _ _ _ _ (.inl (by omega))]
          exact HO1.out
        have HF := Lib.hid hfin
        clear hfin
        go_wp2_with fail
        go_roundw
        case rel => exact ⟨k + 1, by omega, by go_num, HF.out, HSW.out⟩
        case measure => simp [intOf]; omega
    · have hke : k = m := by omega
      have hL : setl (fun _ => true) W S k = syncS W S := by
        unfold syncS
        rw [hke, HM.out]
      have hO9 := HO.out
      rw [hL] at hO9
      have HO9 := Lib.hid hO9
      clear hL hO9
      subst hke
      obtain ⟨L, hLe⟩ : ∃ L, cutS (syncS W S) f n = L := ⟨_, rfl⟩
      have hL64 : ∀ s ∈ L, s.length = 64 := fun s hs => by
        rw [← hLe] at hs
        exact setl_64 _ _ _ HD.out.len1 (fun y hy => (HD.out.len2 y hy).2) _ s (cutS_mem hs)
      have hLn : L.length = n := by
        rw [← hLe]
        exact cutS_len (by unfold syncS; rw [setl_len]; exact hfn)
      have HLE := Lib.hid hLe
      have HL64 := Lib.hid hL64
      have HLn := Lib.hid hLn
      have hO8 := HO9.out
      rw [hLe] at hO8
      have HO8 := Lib.hid hO8
      clear hLe hL64 hLn hO8 HO9 HO
      go_wp2_with fail
      go_loopw [85, 11] (fun j v ws => ∃ q : Nat, q ≤ n ∧ j = .int .i64 q ∧ ws.ownsRow w.heap.size 5 1 v (q * 64) (flatS (L.take q)) ∧ ws.ownsRow w.heap.size 55 64 (.slice (some ⟨g, 0, none⟩) n gc) n (flatS L) ∧ Step [] w ws ∧ g ∉ foot v) (fun j _ _ => n - (intOf j).toNat)
      case atStart => exact ⟨0, Nat.zero_le _, rfl, by rw [Nat.zero_mul]; exact World.ownsRow_nil _ _ _ _, HO8.out, HSR.out, by simp [foot, Value.ownBlock]⟩
      case round =>
        obtain ⟨q, hqn, rfl, hR, hO, hS, hgf⟩ := hrel
        obtain ⟨ia, hia, hia0, hia1, hia2⟩ := info_parts Try.infoB
        by_cases hq : q < n
        · have hqL : q < L.length := by have := HLn.out; omega
          have hqq : (q : Int) < (n : Int) := by omega
          have hq0 : (0 : Int) ≤ (q : Int) := by omega
          have hcells : ∀ j u, (secB (L[q]))[j]? = some u → wr.cell? ⟨g, q * 64 + j, none⟩ = some u := fun j u hu => by
            have hj : j < 64 := by
              rcases Nat.lt_or_ge j 64 with h | h
              · exact h
              · rw [List.getElem?_eq_none (by rw [secB, List.length_map, HL64.out _ (List.getElem_mem hqL)]; exact h)] at hu
                cases hu
            rw [World.ownsRow.cellAt hO _ (by omega), flatS_get L q j HL64.out hqL hj]
            exact hu
          have hnext : flatS (L.take q) ++ secB (L[q]) = flatS (L.take (q + 1)) := by
            rw [List.take_add_one, List.getElem?_eq_getElem hqL]
            simp only [flatS, List.flatMap_append, Option.toList_some, List.flatMap_cons, List.flatMap_nil, List.append_nil]
          have hsl : (secB (L[q])).length = 64 * 1 := by rw [secB, List.length_map, HL64.out _ (List.getElem_mem hqL)]
          have hbs : w.heap.size ≤ wr.heap.size := hS.size
          have HR := Lib.hid hR
          have HOr := Lib.hid hO
          have HSr := Lib.hid hS
          have HGF := Lib.hid hgf
          have HC := Lib.hid hcells
          have HNX := Lib.hid hnext
          have HSL := Lib.hid hsl
          clear hR hO hS hgf hcells hnext hsl
          go_wp2_with (at_builtin; refine wpList_append_sep rfl (.tmp 88) (.tmp 92) 30 rfl w.heap.size 5 ia (.int .u8 0) 1 1 Try.underlying30 hia hia0 hia1 hia2 rfl (by decide) _ (q * 64) _ rfl HR.out (some ⟨g, q * 64, none⟩) 64 64 (secB (L[q])) rfl (by intro h; cases h) HSL.out (by intro a ha j u hu; cases ha; rw [Addr.add_mid]; exact HC.out j u hu) (byteVals_cell _) (by unfold maxLen; omega) (by omega) hbs ?_)
          intro v2 w2 hown2 hg2 hf2
          have hs2 : Step (foot u11) wr w2 := (Step.refl _ _).grown hg2 (fun k hk => .inl (mem_foot.2 hk))
          have hO2 := owns_step HOr.out hs2 (fun k hk hk2 => by
            have : k = g := by simpa [foot, Value.ownBlock, eq_comm] using hk
            subst this
            exact HGF.out hk2)
          have hst2 : Step [] w w2 := HSr.out.then hs2 (fun k hk => .inr (owns_base HR.out k hk))
          have hgf2 : g ∉ foot v2 := fun hk => by
            rcases hf2 g hk with h | h
            · exact HGF.out h
            · have := owns_live HOr.out g (by simp [foot, Value.ownBlock])
              omega
          rw [HNX.out] at hown2
          have HA := Lib.hid (And.intro hown2 (And.intro hO2 (And.intro hst2 hgf2)))
          clear hown2 hO2 hst2 hgf2 hs2 hg2 hf2
          go_wp2_with fail
          go_roundw
          case rel => exact ⟨q + 1, by omega, by go_num, by rw [show (q + 1) * 64 = q * 64 + 64 by omega]; exact HA.out⟩
          case measure => simp [intOf]; omega
        · have hqe : q = n := by omega
          subst hqe
          have hR2 := hR
          rw [List.take_of_length_le (by rw [HLn.out]; exact Nat.le_refl _)] at hR2
          have HR2 := Lib.hid hR2
          have HSr := Lib.hid hS
          clear hR hO hS hgf hR2
          go_wp2_with fail
          go_ret2
          exact ⟨_, rfl, by unfold readS; rw [HLE.out]; exact HR2.out, HSr.out⟩
end Go.Proofs.Ytjemdcdcjohjpaa
