/- ProgressPlays: the law's own walk. -/
import Derived.Test.YtffhldfbdchdkaaPlaysP
import Derived.Deep.CutBlock
namespace Go.Proofs.Ytffhldfbdchdkaa
set_option linter.unusedVariables false
open Go.RowKit Go.Maps

theorem zeroL (w : World) : (zeroValue 30).run Try.prog w = .ok (elM.val (0, 0)) w := by kernel_rfl

/-- a next is above the match -/
def Inv (f : Int → Option Mk) : Prop := ∀ x p, f x = some p → 0 ≤ p.1 ∧ p.1 < p.2 ∧ p.2 ≤ 4611686018427387905

theorem Inv.yes {f : Int → Option Mk} (h : Inv f) (x i : Int) (hi : i ≤ 4611686018427387904) : Inv (yesF f x i) := by
  intro z p hp
  unfold yesF at hp
  split at hp
  · rename_i hu
    unfold upd at hp
    by_cases hz : z = x
    · rw [if_pos hz] at hp
      cases hp
      unfold yesUp at hu
      simp at hu
      obtain ⟨q, hq⟩ := Option.isSome_iff_exists.1 hu.1
      have := h x q hq
      have e1 : mat f x = q.1 := by simp [mat, hq]
      have e2 : nxt f x = q.2 := by simp [nxt, hq]
      rw [e2]
      rw [e1] at hu
      refine ⟨by omega, by omega, by omega⟩
    · rw [if_neg hz] at hp
      exact h z p hp
  · exact h z p hp
theorem Inv.no {f : Int → Option Mk} (h : Inv f) (x i : Int) : Inv (noF f x i) := by
  intro z p hp
  unfold noF at hp
  split at hp
  · rename_i hu
    unfold upd at hp
    by_cases hz : z = x
    · rw [if_pos hz] at hp
      cases hp
      unfold noDown at hu
      simp at hu
      obtain ⟨q, hq⟩ := Option.isSome_iff_exists.1 hu.1
      have := h x q hq
      have e1 : mat f x = q.1 := by simp [mat, hq]
      have e2 : nxt f x = q.2 := by simp [nxt, hq]
      have h2 := hu.2
      unfold noNext at *
      rw [e1, e2] at *
      refine ⟨by omega, by omega, by omega⟩
    · rw [if_neg hz] at hp
      exact h z p hp
  · exact h z p hp
theorem Inv.foll {f : Int → Option Mk} (h : Inv f) (l : List Int) (i : Int) (h0 : 0 ≤ i) (hi : i ≤ 4611686018427387904) : Inv (follF f l i) := by
  intro z p hp
  unfold follF at hp
  split at hp
  · cases hf : f z with
    | none =>
      rw [hf] at hp
      cases hp
      refine ⟨by simp, by simp; omega, by simp; omega⟩
    | some q =>
      rw [hf] at hp
      cases hp
      exact h z q hf
  · cases hp
theorem Inv.low {f : Int → Option Mk} (h : Inv f) (x : Int) : 0 ≤ mat f x ∧ mat f x ≤ 4611686018427387904 ∧ 0 ≤ nxt f x ∧ nxt f x ≤ 4611686018427387905 := by
  cases hf : f x with
  | none => simp [mat, nxt, hf]
  | some p =>
    have := h x p hf
    simp [mat, nxt, hf]
    omega

/-- the world of the law, between two acts -/
structure PlS (w0 w : World) (tb mb sb n : Nat) (f : Int → Option Mk) : Prop where
  trk : Trk w tb mb n f
  law : MapF keyI elM w sb n f
  inv : Inv f
  step : Step [] w0 w
  ne1 : sb ≠ mb
  ne2 : sb ≠ tb
  lt : w0.heap.size ≤ sb
theorem PlS.look {w0 w : World} {tb mb sb n : Nat} {f : Int → Option Mk} (h : PlS w0 w tb mb sb n f) (x : Int) (hx : IsI x) :
    (Instr.lookup 28 (.map (some sb)) (.int .i64 x) true).run Try.prog w = .ok (.tuple #[.agg #[.int .u64 (mat f x), .int .u64 (nxt f x)], .bool (f x).isSome]) w :=
  h.law.run_ok Try.underlying28 (0, 0) (zeroL w) x hx.good

/-- the first k have a mark -/
def firstF (l : List Int) (last : Int) (k : Nat) : Int → Option Mk := fun n => if n ∈ l.take k then some (0, last + 1) else none
theorem firstF_step (l : List Int) (last : Int) (k : Nat) (hk : k < l.length) : upd (firstF l last k) (l.getD k 0) (some (0, last + 1)) = firstF l last (k + 1) := by
  funext n
  unfold upd firstF
  by_cases hn : n = l.getD k 0
  · rw [if_pos hn, if_pos ((mem_take_succ l k hk n).2 (.inr hn))]
  · rw [if_neg hn]
    by_cases h2 : n ∈ l.take k
    · rw [if_pos h2, if_pos ((mem_take_succ l k hk n).2 (.inl h2))]
    · rw [if_neg h2, if_neg (fun h => ((mem_take_succ l k hk n).1 h).elim h2 hn)]
theorem firstF_end (l : List Int) (last : Int) : firstF l last l.length = follF (fun _ => none) l last := by
  funext n
  unfold firstF follF
  rw [List.take_length]
  rfl

theorem PlS.move {w0 w w' : World} {tb mb sb n : Nat} {f : Int → Option Mk} (h : PlS w0 w tb mb sb n f) (hs : Step [] w w') : PlS w0 w' tb mb sb n f :=
  ⟨h.trk.step hs (by simp) (by simp), h.law.step hs (by simp), h.inv, h.step.then hs (fun _ h => by cases h), h.ne1, h.ne2, h.lt⟩

/-- while one node is looked at -/
def CkG (w0 : World) (tb mb sb n : Nat) (f : Int → Option Mk) (yb : Nat) (p q : Int) (wx : World) : Prop := PlS w0 wx tb mb sb n f ∧ Blk wx yb #[.int .u64 p, .int .u64 q] 30
theorem CkG.step {w0 w w' : World} {tb mb sb n : Nat} {f : Int → Option Mk} {yb : Nat} {p q : Int} (h : CkG w0 tb mb sb n f yb p q w) (hs : Step [] w w') : CkG w0 tb mb sb n f yb p q w' := ⟨h.1.move hs, h.2.step hs (by simp)⟩
theorem ck_has {w0 : World} {tb mb sb n : Nat} {f : Int → Option Mk} {yb : Nat} {p q : Int} (x : ClsW (CkG w0 tb mb sb n f yb p q)) (c : Int) (hc : IsI c) (S : Bool) (hS : (f c).isSome = S) :
    Calls Try.prog 11 #[.pointer (some ⟨tb, 0, none⟩), .int .i64 c] x.val fun e w' => e = .returned (.bool S) ∧ CkG w0 tb mb sb n f yb p q w' :=
  (has_any tb mb n f c x.val x.ok.1.trk hc).mono fun e w' h => ⟨by rw [← hS]; exact h.1, x.ok.step h.2⟩
theorem ck_match {w0 : World} {tb mb sb n : Nat} {f : Int → Option Mk} {yb : Nat} {p q : Int} (x : ClsW (CkG w0 tb mb sb n f yb p q)) (c : Int) (hc : IsI c) :
    Calls Try.prog 12 #[.pointer (some ⟨tb, 0, none⟩), .int .i64 c] x.val fun e w' => e = .returned (.int .u64 (mat f c)) ∧ CkG w0 tb mb sb n f yb p q w' :=
  (match_any tb mb n f c x.val x.ok.1.trk hc).mono fun e w' h => ⟨h.1, h.2 ▸ x.ok⟩
theorem ck_next {w0 : World} {tb mb sb n : Nat} {f : Int → Option Mk} {yb : Nat} {p q : Int} (x : ClsW (CkG w0 tb mb sb n f yb p q)) (c : Int) (hc : IsI c) :
    Calls Try.prog 13 #[.pointer (some ⟨tb, 0, none⟩), .int .i64 c] x.val fun e w' => e = .returned (.int .u64 (nxt f c)) ∧ CkG w0 tb mb sb n f yb p q w' :=
  (next_any tb mb n f c x.val x.ok.1.trk hc).mono fun e w' h => ⟨h.1, h.2 ▸ x.ok⟩

/-- the first k are kept -/
def leftF (f : Int → Option Mk) (l : List Int) (last : Int) (k : Nat) : Int → Option Mk := fun n => if n ∈ l.take k then some ((f n).getD (0, last + 1)) else none
theorem leftF_end (f : Int → Option Mk) (l : List Int) (last : Int) : leftF f l last l.length = follF f l last := by
  funext n
  unfold leftF follF
  rw [List.take_length]
theorem leftF_step (f : Int → Option Mk) (l : List Int) (last : Int) (k : Nat) (hk : k < l.length) :
    (if (f (l.getD k 0)).isSome then upd (upd (leftF f l last k) (l.getD k 0) (some (0, last + 1))) (l.getD k 0) (some (mat f (l.getD k 0), nxt f (l.getD k 0))) else upd (leftF f l last k) (l.getD k 0) (some (0, last + 1))) = leftF f l last (k + 1) := by
  have hlo : ∀ n, n ≠ l.getD k 0 → leftF f l last k n = leftF f l last (k + 1) n := fun n hn => by
    unfold leftF
    by_cases h2 : n ∈ l.take k
    · rw [if_pos h2, if_pos ((mem_take_succ l k hk n).2 (.inl h2))]
    · rw [if_neg h2, if_neg (fun h => ((mem_take_succ l k hk n).1 h).elim h2 hn)]
  have hat : leftF f l last (k + 1) (l.getD k 0) = some ((f (l.getD k 0)).getD (0, last + 1)) := by
    unfold leftF
    rw [if_pos ((mem_take_succ l k hk _).2 (.inr rfl))]
  cases hf : f (l.getD k 0) with
  | none =>
    rw [hf] at hat
    simp only [Option.isSome_none, Bool.false_eq_true, if_false]
    funext n
    unfold upd
    by_cases hn : n = l.getD k 0
    · rw [if_pos hn, hn, hat]; rfl
    · rw [if_neg hn]; exact hlo n hn
  | some p =>
    rw [hf] at hat
    simp only [Option.isSome_some, if_true]
    funext n
    unfold upd
    by_cases hn : n = l.getD k 0
    · rw [if_pos hn, hn, hat]
      unfold mat nxt
      rw [hf]
      rfl
    · rw [if_neg hn, if_neg hn]; exact hlo n hn

theorem law_look {w : World} {sb n : Nat} {f : Int → Option Mk} (h : MapF keyI elM w sb n f) (x : Int) (hx : IsI x) :
    (Instr.lookup 28 (.map (some sb)) (.int .i64 x) true).run Try.prog w = .ok (.tuple #[.agg #[.int .u64 (mat f x), .int .u64 (nxt f x)], .bool (f x).isSome]) w :=
  h.run_ok Try.underlying28 (0, 0) (zeroL w) x hx.good

set_option maxRecDepth 100000 in
set_option maxHeartbeats 40000000 in
theorem progressPlays_in (a b : Option Addr) (cap capv : Nat) (l : List Int) (last : Int) (vs : List ActV) (w : World) (hl : Ints w a l) (hli : ∀ x ∈ l, IsI x) (hv : Acts w b vs) (hvi : ∀ v ∈ vs, ActOk w v) (hlen : l.length ≤ 20) (hlenv : vs.length ≤ 80) (h0 : 0 ≤ last) (h1 : last ≤ 4611686018427387904) :
    Calls Try.prog 3 #[.slice a l.length cap, .int .u64 last, .slice b vs.length capv] w fun e w' => e = .returned (.bool true) ∧ Below w.heap.size w w' := by
  have hmm := @run_makeMap Try.prog
  have HL := Lib.hid hl
  have HLI := Lib.hid hli
  have HV := Lib.hid hv
  have HVI := Lib.hid hvi
  clear hl hli hv hvi
  go_enter Try.func3, Try.ntmps3
  go_wp2_with fail
  refine (lives_any w).mono ?_
  rintro e w1 ⟨rfl, hs⟩
  have HS := Lib.hid hs
  clear hs
  go_wp2_with fail
  refine (new_any a cap l last w1 (HL.out.step HS.out (by simp)) HLI.out (by omega) ⟨h0, by omega⟩).mono ?_
  rintro e w2 ⟨tb, mb, rfl, hT, hs, g1, g2⟩
  have HT := Lib.hid hT
  have HS2 := Lib.hid (HS.out.then hs (fun _ h => by cases h))
  have hz1 := HS.out.size
  have ht : w.heap.size ≤ tb := by omega
  have hm : w.heap.size ≤ mb := by omega
  clear hT hs HS g1 g2 hz1
  go_wp2_with fail
  have hM := MapF.made keyI elM w2
  have hT3 := HT.out.step ((Step.refl [] w2).alloc (.map #[] 0)) (by simp) (by simp)
  have hS3 := HS2.out.alloc (.map #[] 0)
  have hsb : w.heap.size ≤ w2.heap.size := HS2.out.size
  have n1 : w2.heap.size ≠ mb := by have := HT.out.map.lt; omega
  have n2 : w2.heap.size ≠ tb := by have := HT.out.blk.lt; omega
  have HM := Lib.hid hM
  have HT3 := Lib.hid hT3
  have HS3 := Lib.hid hS3
  clear hM hT3 hS3 HT HS2
  generalize w2.heap.size = sb at *
  generalize w2.alloc (.map #[] 0) = w3 at *
  go_loopw [10, 50] (fun _ i wr => ∃ k : Nat, k ≤ l.length ∧ i = .int .i64 k ∧ Trk wr tb mb l.length (follF (fun _ => none) l last) ∧ MapF keyI elM wr sb k (firstF l last k) ∧ Step [] w wr) (fun _ i _ => l.length - (intOf i).toNat)
  case atStart => exact ⟨0, Nat.zero_le _, rfl, HT3.out, HM.out.congr (fun x _ => by simp [firstF]), HS3.out⟩
  case round =>
    obtain ⟨k, hk, rfl, hT, hM, hs⟩ := hrel
    have HT := Lib.hid hT
    have HM4 := Lib.hid hM
    have HS := Lib.hid hs
    clear hT hM hs HT3 HM HS3
    by_cases hkl : k < l.length
    · as_aux_lemma =>
        obtain ⟨b1, off, rfl, hlt, hc⟩ := HL.out.step HS.out (by simp) k hkl
        have hkm : (k : Int) < (l.length : Int) := by omega
        have hyi := HLI.out _ (getD_mem hkl)
        have hst := Lib.hid (firstF_step l last k hkl)
        generalize l.getD k 0 = y at *
        go_wp2_with (at_mapUpdate; refine wpList_store keyI elM rfl _ _ _ 28 30 rfl Try.underlying28 rfl HM4.out (by unfold maxLen; omega) y rfl hyi.good (0, last + 1) rfl ?_; intro w4 hm4 hs4)
        rw [hst.out] at hm4
        have HM5 := Lib.hid hm4
        have HT5 := Lib.hid (HT.out.step hs4 (by simpa using fun e => n2 e.symm) (by simpa using fun e => n1 e.symm))
        have HS5 := Lib.hid (HS.out.then hs4 (fun k hk => by simp at hk; exact .inr (by omega)))
        clear hm4 hs4 HT HM4 HS
        go_roundw
        case rel => exact ⟨k + 1, by omega, by go_num, HT5.out, HM5.out, HS5.out⟩
        case measure => simp [intOf]; omega
    · have hke : k = l.length := by omega
      subst hke
      have hP : PlS w wr tb mb sb l.length (follF (fun _ => none) l last) := ⟨HT.out, HM4.out.congr (fun x _ => by rw [firstF_end]), Inv.foll (fun x p h => by cases h) l last h0 h1, HS.out, n1, n2, hsb⟩
      have HP := Lib.hid hP
      clear hP HT HM4 HS n1 n2 hsb
      generalize follF (fun _ => none) l last = f0 at *
      go_wp2_with fail
      go_loopw [8, 12, 13, 14, 15, 16, 17, 18, 20, 21, 22, 23, 24, 25, 62, 116, 152] (fun m _ _ _ _ _ _ _ _ _ _ _ _ _ i _ _ wr => ∃ (k sb n : Nat) (f : Int → Option Mk), k ≤ vs.length ∧ i = .int .i64 k ∧ m = .map (some sb) ∧ n ≤ 20 + 20 * k ∧ PlS w wr tb mb sb n f) (fun _ _ _ _ _ _ _ _ _ _ _ _ _ _ i _ _ _ => vs.length - (intOf i).toNat)
      case atStart => exact ⟨0, sb, l.length, f0, Nat.zero_le _, rfl, rfl, by omega, HP.out⟩
      case round =>
        obtain ⟨k, sb, n, f, hk, rfl, rfl, hn, hP⟩ := hrel
        have HP2 := Lib.hid hP
        clear hP HP
        by_cases hkv : k < vs.length
        · obtain ⟨b2, off, rfl, hlt, hc0, hc1, hc2, hc3⟩ := HV.out.step HP2.out.step k hkv
          have hkm : (k : Int) < (vs.length : Int) := by omega
          have hok : ActOk w (vs.getD k act0) := HVI.out _ (by rw [List.getD, List.getElem?_eq_getElem hkv]; exact List.getElem_mem hkv)
          generalize vs.getD k act0 = v at *
          obtain ⟨kind, node, index, a4, cap4, l4⟩ := v
          obtain ⟨hni, hi0, hrow, heach⟩ := hok
          simp only at hc0 hc1 hc2 hc3 hni hi0 hrow heach
          have HR := Lib.hid hrow
          have HE := Lib.hid heach
          clear hrow heach
          by_cases hix : index ≤ 4611686018427387904
          · by_cases hl4 : l4.length ≤ 20
            · have hs5 : Step [] wr (wr.alloc (.cells #[.int .i64 kind, .int .i64 node, .int .u64 index, .slice a4 l4.length cap4] 32)) := (Step.refl [] wr).alloc _
              have hlk5 : (Instr.lookup 28 (.map (some sb)) (.int .i64 node) true).run Try.prog (wr.alloc (.cells #[.int .i64 kind, .int .i64 node, .int .u64 index, .slice a4 l4.length cap4] 32)) = _ := (PlS.look (⟨HP2.out.trk.step hs5 (by simp) (by simp), HP2.out.law.step hs5 (by simp), HP2.out.inv, HP2.out.step.then hs5 (fun _ h => by cases h), HP2.out.ne1, HP2.out.ne2, HP2.out.lt⟩ : PlS w _ tb mb sb n f) node hni)
              obtain ⟨S, hS⟩ : ∃ S, (f node).isSome = S := ⟨_, rfl⟩
              rw [hS] at hlk5
              have HSS := Lib.hid hS
              clear hS
              have hs6 := hs5.alloc (.cells #[.int .u64 (mat f node), .int .u64 (nxt f node)] 30)
              have hab := (Blk.new wr #[.int .i64 kind, .int .i64 node, .int .u64 index, .slice a4 l4.length cap4] 32).step ((Step.refl [] _).alloc (.cells #[.int .u64 (mat f node), .int .u64 (nxt f node)] 30)) (by simp)
              have hxb := Blk.new (wr.alloc (.cells #[.int .i64 kind, .int .i64 node, .int .u64 index, .slice a4 l4.length cap4] 32)) #[.int .u64 (mat f node), .int .u64 (nxt f node)] 30
              rw [World.size_alloc] at hxb
              have hP6 : PlS w _ tb mb sb n f := ⟨HP2.out.trk.step hs6 (by simp) (by simp), HP2.out.law.step hs6 (by simp), HP2.out.inv, HP2.out.step.then hs6 (fun _ h => by cases h), HP2.out.ne1, HP2.out.ne2, HP2.out.lt⟩
              have hlow := HP2.out.inv.low node
              have hwr := HP2.out.step.size
              have n2 : sb ≠ mb ∧ sb ≠ tb := ⟨HP2.out.ne1, HP2.out.ne2⟩
              have hsw := HP2.out.lt
              have l1 := HP2.out.trk.blk.lt
              have l2 := HP2.out.trk.map.lt
              have l3 := HP2.out.law.lt
              have n3 : wr.heap.size ≠ tb ∧ wr.heap.size ≠ mb ∧ wr.heap.size ≠ sb := ⟨by omega, by omega, by omega⟩
              have n4 : wr.heap.size + 1 ≠ tb ∧ wr.heap.size + 1 ≠ mb ∧ wr.heap.size + 1 ≠ sb := ⟨by omega, by omega, by omega⟩
              have n5 : wr.heap.size ≠ wr.heap.size + 1 := by omega
              have hxw : w.heap.size ≤ wr.heap.size + 1 := by omega
              have ha0 := hab.cell 0
              have ha1 := hab.cell 1
              have ha2 := hab.cell 2
              have ha3 := hab.cell 3
              have hx0 := hxb.cell 0
              have hx1 := hxb.cell 1
              have hxf0 := hxb.free 0
              have hxf1 := hxb.free 1
              simp only [List.getElem?_toArray, List.getElem?_cons_zero, List.getElem?_cons_succ] at ha0 ha1 ha2 ha3 hx0 hx1
              have HAB := Lib.hid hab
              have HP6 := Lib.hid hP6
              clear l1 l2 l3 hab hxb hP6 hs5 hs6 HP2
              go_upto_block 4 with fail
              clear hlk5 hc0 hc1 hc2 hc3
              generalize hWW : (wr.alloc (.cells #[.int .i64 kind, .int .i64 node, .int .u64 index, .slice a4 l4.length cap4] 32)).alloc (.cells #[.int .u64 (mat f node), .int .u64 (nxt f node)] 30) = W6 at *
              clear hWW
              generalize wr.heap.size + 1 = xb at *
              generalize wr.heap.size = ab at *
              go_cut [8] (fun m wx => ∃ (sb' n' : Nat) (f' : Int → Option Mk), m = .map (some sb') ∧ n' ≤ 20 + 20 * (k + 1) ∧ PlS w wx tb mb sb' n' f')
              case first =>
                as_aux_lemma =>
                  go_upto_if 116 with fail
                  go_cut [116] (fun q wx => q = .bool ((kind == 0) || (kind == 1)) ∧ wx = W6)
                  case first =>
                    cases q0 : (kind == 0) with
                    | true =>
                      go_wp2_with fail
                      go_meet
                      exact ⟨congrArg Value.bool (by rw [q0, Bool.true_or]), rfl⟩
                    | false =>
                      go_wp2_with fail
                      go_meet
                      exact ⟨congrArg Value.bool (by rw [q0, Bool.false_or]), rfl⟩
                  case rest =>
                    obtain ⟨rfl, hw6⟩ := hcut
                    rw [hw6]
                    clear hw6
                    cases k01 : ((kind == 0) || (kind == 1)) with
                    | true =>
                      cases S with
                      | false =>
                        as_aux_lemma =>
                          have hu : yesUp f node index = false := by simp [yesUp, HSS.out]
                          have hf2 : yesF f node index = f := by unfold yesF; rw [hu]; rfl
                          have HQ := Lib.hid (yes_any tb mb n f node index W6 HP6.out.trk hni ⟨hi0, by omega⟩ (by omega))
                          rw [hu] at HQ
                          go_wp2_with fail
                          refine HQ.out.mono ?_
                          rintro e w9 ⟨rfl, hT9, hs9⟩
                          go_wp2_with fail
                          go_meet
                          exact ⟨sb, n + 1, yesF f node index, rfl, by omega, ⟨hT9, by rw [hf2]; exact (HP6.out.law.step hs9 (by simpa using n2.1)).mono (by omega), HP6.out.inv.yes node index hix, HP6.out.step.then hs9 (fun k hk => by simp at hk; exact .inr (by omega)), n2.1, n2.2, HP6.out.lt⟩⟩
                      | true =>
                        by_cases c1 : mat f node < index
                        · have d1 : decide (mat f node < index) = true := by simpa using c1
                          have hu : yesUp f node index = true := by simp [yesUp, HSS.out, c1]
                          by_cases c2 : nxt f node ≤ index
                          · as_aux_lemma =>
                              have hf2 : yesF f node index = upd f node (some (index, index + 1)) := by unfold yesF; rw [hu, if_pos rfl, show max (nxt f node) (index + 1) = index + 1 by omega]
                              go_wp2_with (at_mapUpdate; refine wpList_store keyI elM rfl _ _ _ 28 30 rfl Try.underlying28 rfl (HP6.out.law.step (((Step.refl [xb] W6).setCell (.inl (by simp)) 0 (.int .u64 index)).setCell (.inl (by simp)) 1 (.int .u64 (index + 1))) (by simpa using fun e => n4.2.2 e.symm)) (by unfold maxLen; omega) node rfl hni.good (index, index + 1) rfl ?_; intro w8 hm8 hs8; have HT8 := Lib.hid ((HP6.out.trk.step (((Step.refl [xb] W6).setCell (.inl (by simp)) 0 (.int .u64 index)).setCell (.inl (by simp)) 1 (.int .u64 (index + 1))) (by simpa using fun e => n4.1 e.symm) (by simpa using fun e => n4.2.1 e.symm)).step hs8 (by simpa using fun e => n2.2 e.symm) (by simpa using fun e => n2.1 e.symm)); have HS8 := Lib.hid ((HP6.out.step.then (((Step.refl [xb] W6).setCell (.inl (by simp)) 0 (.int .u64 index)).setCell (.inl (by simp)) 1 (.int .u64 (index + 1))) (fun k hk => by simp at hk; exact .inr (by omega))).then hs8 (fun k hk => by simp at hk; exact .inr (by omega))); have ha1' : w8.cell? ⟨ab, 1, none⟩ = some (.int .i64 node) := ((HAB.out.step (((Step.refl [xb] W6).setCell (.inl (by simp)) 0 (.int .u64 index)).setCell (.inl (by simp)) 1 (.int .u64 (index + 1))) (by simpa using n5)).step hs8 (by simpa using n3.2.2)).cell 1; have ha2' : w8.cell? ⟨ab, 2, none⟩ = some (.int .u64 index) := ((HAB.out.step (((Step.refl [xb] W6).setCell (.inl (by simp)) 0 (.int .u64 index)).setCell (.inl (by simp)) 1 (.int .u64 (index + 1))) (by simpa using n5)).step hs8 (by simpa using n3.2.2)).cell 2)
                              have HQ := Lib.hid (yes_any tb mb n f node index w8 HT8.out hni ⟨hi0, by omega⟩ (by omega))
                              rw [hu] at HQ
                              have HL8 := Lib.hid hm8
                              clear hm8 hs8
                              go_wp2_with fail
                              refine HQ.out.mono ?_
                              rintro e w9 ⟨rfl, hT9, hs9⟩
                              go_wp2_with fail
                              go_meet
                              exact ⟨sb, n + 1, yesF f node index, rfl, by omega, ⟨hT9, by rw [hf2]; exact HL8.out.step hs9 (by simpa using n2.1), HP6.out.inv.yes node index hix, HS8.out.then hs9 (fun k hk => by simp at hk; exact .inr (by omega)), n2.1, n2.2, HP6.out.lt⟩⟩
                          · as_aux_lemma =>
                              have hf2 : yesF f node index = upd f node (some (index, nxt f node)) := by unfold yesF; rw [hu, if_pos rfl, show max (nxt f node) (index + 1) = nxt f node by omega]
                              go_wp2_with (at_mapUpdate; refine wpList_store keyI elM rfl _ _ _ 28 30 rfl Try.underlying28 rfl (HP6.out.law.step ((Step.refl [xb] W6).setCell (.inl (by simp)) 0 (.int .u64 index)) (by simpa using fun e => n4.2.2 e.symm)) (by unfold maxLen; omega) node rfl hni.good (index, nxt f node) rfl ?_; intro w8 hm8 hs8; have HT8 := Lib.hid ((HP6.out.trk.step ((Step.refl [xb] W6).setCell (.inl (by simp)) 0 (.int .u64 index)) (by simpa using fun e => n4.1 e.symm) (by simpa using fun e => n4.2.1 e.symm)).step hs8 (by simpa using fun e => n2.2 e.symm) (by simpa using fun e => n2.1 e.symm)); have HS8 := Lib.hid ((HP6.out.step.then ((Step.refl [xb] W6).setCell (.inl (by simp)) 0 (.int .u64 index)) (fun k hk => by simp at hk; exact .inr (by omega))).then hs8 (fun k hk => by simp at hk; exact .inr (by omega))); have ha1' : w8.cell? ⟨ab, 1, none⟩ = some (.int .i64 node) := ((HAB.out.step ((Step.refl [xb] W6).setCell (.inl (by simp)) 0 (.int .u64 index)) (by simpa using n5)).step hs8 (by simpa using n3.2.2)).cell 1; have ha2' : w8.cell? ⟨ab, 2, none⟩ = some (.int .u64 index) := ((HAB.out.step ((Step.refl [xb] W6).setCell (.inl (by simp)) 0 (.int .u64 index)) (by simpa using n5)).step hs8 (by simpa using n3.2.2)).cell 2)
                              have HQ := Lib.hid (yes_any tb mb n f node index w8 HT8.out hni ⟨hi0, by omega⟩ (by omega))
                              rw [hu] at HQ
                              have HL8 := Lib.hid hm8
                              clear hm8 hs8
                              go_wp2_with fail
                              refine HQ.out.mono ?_
                              rintro e w9 ⟨rfl, hT9, hs9⟩
                              go_wp2_with fail
                              go_meet
                              exact ⟨sb, n + 1, yesF f node index, rfl, by omega, ⟨hT9, by rw [hf2]; exact HL8.out.step hs9 (by simpa using n2.1), HP6.out.inv.yes node index hix, HS8.out.then hs9 (fun k hk => by simp at hk; exact .inr (by omega)), n2.1, n2.2, HP6.out.lt⟩⟩
                        · as_aux_lemma =>
                            have d1 : decide (mat f node < index) = false := by simpa using c1
                            have hu : yesUp f node index = false := by simp [yesUp, c1]
                            have hf2 : yesF f node index = f := by unfold yesF; rw [hu]; rfl
                            have HQ := Lib.hid (yes_any tb mb n f node index W6 HP6.out.trk hni ⟨hi0, by omega⟩ (by omega))
                            rw [hu] at HQ
                            go_wp2_with fail
                            refine HQ.out.mono ?_
                            rintro e w9 ⟨rfl, hT9, hs9⟩
                            go_wp2_with fail
                            go_meet
                            exact ⟨sb, n + 1, yesF f node index, rfl, by omega, ⟨hT9, by rw [hf2]; exact (HP6.out.law.step hs9 (by simpa using n2.1)).mono (by omega), HP6.out.inv.yes node index hix, HP6.out.step.then hs9 (fun k hk => by simp at hk; exact .inr (by omega)), n2.1, n2.2, HP6.out.lt⟩⟩
                    | false =>
                      go_upto_if 152 with fail
                      go_cut [152] (fun q wx => q = .bool ((kind == 2) || (kind == 3)) ∧ wx = W6)
                      case first =>
                        cases q0 : (kind == 2) with
                        | true =>
                          go_wp2_with fail
                          go_meet
                          exact ⟨congrArg Value.bool (by rw [q0, Bool.true_or]), rfl⟩
                        | false =>
                          go_wp2_with fail
                          go_meet
                          exact ⟨congrArg Value.bool (by rw [q0, Bool.false_or]), rfl⟩
                      case rest =>
                        obtain ⟨rfl, hw6⟩ := hcut
                        rw [hw6]
                        clear hw6
                        cases k23 : ((kind == 2) || (kind == 3)) with
                        | true =>
                          go_upto_if 161 with fail
                          go_cut [16] (fun q wx => q = .int .u64 (min (nxt f node) (index + 1)) ∧ wx = W6)
                          case first =>
                            by_cases c1 : index + 1 < nxt f node
                            · go_wp2_with fail
                              go_meet
                              exact ⟨congrArg (Value.int .u64) (by omega), rfl⟩
                            · go_wp2_with fail
                              go_meet
                              exact ⟨congrArg (Value.int .u64) (by omega), rfl⟩
                          case rest =>
                            obtain ⟨rfl, hw6⟩ := hcut
                            rw [hw6]
                            clear hw6
                            go_upto_if 168 with fail
                            go_cut [16] (fun q wx => q = .int .u64 (noNext f node index) ∧ wx = W6)
                            case first =>
                              have hq0 : noNext f node index = max (min (nxt f node) (index + 1)) (mat f node + 1) := rfl
                              have hq1 : min (nxt f node) (index + 1) ≤ index + 1 := by omega
                              have HQ0 := Lib.hid hq0
                              clear hq0
                              generalize min (nxt f node) (index + 1) = mn at *
                              by_cases c2 : mn ≤ mat f node
                              · go_wp2_with fail
                                go_meet
                                exact ⟨congrArg (Value.int .u64) (by rw [HQ0.out]; omega), rfl⟩
                              · go_wp2_with fail
                                go_meet
                                exact ⟨congrArg (Value.int .u64) (by rw [HQ0.out]; omega), rfl⟩
                            case rest =>
                              obtain ⟨rfl, hw6⟩ := hcut
                              rw [hw6]
                              clear hw6
                              cases S with
                              | false =>
                                as_aux_lemma =>
                                  have hu : noDown f node index = false := by simp [noDown, HSS.out]
                                  have hf2 : noF f node index = f := by unfold noF; rw [hu]; rfl
                                  have HQ := Lib.hid (no_any tb mb n f node index W6 HP6.out.trk hni ⟨hi0, by omega⟩ ⟨hlow.1, by omega⟩ (by omega))
                                  rw [hu] at HQ
                                  go_wp2_with fail
                                  refine HQ.out.mono ?_
                                  rintro e w9 ⟨rfl, hT9, hs9⟩
                                  go_wp2_with fail
                                  go_meet
                                  exact ⟨sb, n + 1, noF f node index, rfl, by omega, ⟨hT9, by rw [hf2]; exact (HP6.out.law.step hs9 (by simpa using n2.1)).mono (by omega), HP6.out.inv.no node index, HP6.out.step.then hs9 (fun k hk => by simp at hk; exact .inr (by omega)), n2.1, n2.2, HP6.out.lt⟩⟩
                              | true =>
                                by_cases c3 : noNext f node index < nxt f node
                                · as_aux_lemma =>
                                    have d3 : decide (noNext f node index < nxt f node) = true := by simpa using c3
                                    have hu : noDown f node index = true := by simp [noDown, HSS.out, c3]
                                    have hf2 : noF f node index = upd f node (some (mat f node, noNext f node index)) := by unfold noF; rw [hu, if_pos rfl]
                                    go_wp2_with (at_mapUpdate; refine wpList_store keyI elM rfl _ _ _ 28 30 rfl Try.underlying28 rfl (HP6.out.law.step (Step.refl [] W6) (by simp)) (by unfold maxLen; omega) node rfl hni.good (mat f node, noNext f node index) rfl ?_; intro w8 hm8 hs8; have HT8 := Lib.hid ((HP6.out.trk.step (Step.refl [] W6) (by simp) (by simp)).step hs8 (by simpa using fun e => n2.2 e.symm) (by simpa using fun e => n2.1 e.symm)); have HS8 := Lib.hid ((HP6.out.step.then (Step.refl [] W6) (fun _ h => by cases h)).then hs8 (fun k hk => by simp at hk; exact .inr (by omega))); have ha1' : w8.cell? ⟨ab, 1, none⟩ = some (.int .i64 node) := ((HAB.out.step (Step.refl [] W6) (by simp)).step hs8 (by simpa using n3.2.2)).cell 1; have ha2' : w8.cell? ⟨ab, 2, none⟩ = some (.int .u64 index) := ((HAB.out.step (Step.refl [] W6) (by simp)).step hs8 (by simpa using n3.2.2)).cell 2)
                                    have HQ := Lib.hid (no_any tb mb n f node index w8 HT8.out hni ⟨hi0, by omega⟩ ⟨hlow.1, by omega⟩ (by omega))
                                    rw [hu] at HQ
                                    have HL8 := Lib.hid hm8
                                    clear hm8 hs8
                                    go_wp2_with fail
                                    refine HQ.out.mono ?_
                                    rintro e w9 ⟨rfl, hT9, hs9⟩
                                    go_wp2_with fail
                                    go_meet
                                    exact ⟨sb, n + 1, noF f node index, rfl, by omega, ⟨hT9, by rw [hf2]; exact HL8.out.step hs9 (by simpa using n2.1), HP6.out.inv.no node index, HS8.out.then hs9 (fun k hk => by simp at hk; exact .inr (by omega)), n2.1, n2.2, HP6.out.lt⟩⟩
                                · as_aux_lemma =>
                                    have d3 : decide (noNext f node index < nxt f node) = false := by simpa using c3
                                    have hu : noDown f node index = false := by simp [noDown, c3]
                                    have hf2 : noF f node index = f := by unfold noF; rw [hu]; rfl
                                    have HQ := Lib.hid (no_any tb mb n f node index W6 HP6.out.trk hni ⟨hi0, by omega⟩ ⟨hlow.1, by omega⟩ (by omega))
                                    rw [hu] at HQ
                                    go_wp2_with fail
                                    refine HQ.out.mono ?_
                                    rintro e w9 ⟨rfl, hT9, hs9⟩
                                    go_wp2_with fail
                                    go_meet
                                    exact ⟨sb, n + 1, noF f node index, rfl, by omega, ⟨hT9, by rw [hf2]; exact (HP6.out.law.step hs9 (by simpa using n2.1)).mono (by omega), HP6.out.inv.no node index, HP6.out.step.then hs9 (fun k hk => by simp at hk; exact .inr (by omega)), n2.1, n2.2, HP6.out.lt⟩⟩
                        | false =>
                          as_aux_lemma =>
                            have far : ∀ b off, a4 = some ⟨b, off, none⟩ → 0 < l4.length → b ≠ mb ∧ b ≠ tb := fun b off e h4 => by
                              obtain ⟨b', off', e', hlt', _⟩ := HR.out 0 h4
                              rw [e] at e'
                              cases e'
                              exact ⟨by omega, by omega⟩
                            have HF := Lib.hid (follow_any tb mb n f a4 cap4 l4 index W6 HP6.out.trk (HR.out.step HP6.out.step (by simp)) HE.out (by omega) ⟨hi0, by omega⟩ (by omega) far)
                            clear far
                            go_wp2_with fail
                            refine HF.out.mono ?_
                            rintro e w7 ⟨rfl, hT7, hs7⟩
                            have hS7 := HP6.out.step.then hs7 (fun k hk => by simp at hk; exact .inr (by omega))
                            have hab8 := (HAB.out.step hs7 (by simpa using n3.2.1)).step ((Step.refl [] w7).alloc (.map #[] 0)) (by simp)
                            have hL8 := (HP6.out.law.step hs7 (by simpa using n2.1)).step ((Step.refl [] w7).alloc (.map #[] 0)) (by simp)
                            have hM8 := MapF.made keyI elM w7
                            have HT8 := Lib.hid (hT7.step ((Step.refl [] w7).alloc (.map #[] 0)) (by simp) (by simp))
                            have hs8 := hS7.size
                            have m1 : w7.heap.size ≠ mb := by have := hT7.map.lt; omega
                            have m2 : w7.heap.size ≠ tb := by have := hT7.blk.lt; omega
                            have m3 : w7.heap.size ≠ sb := by have := (HP6.out.law.step hs7 (by simpa using n2.1)).lt; omega
                            have m4 : ab ≠ w7.heap.size := by have := (HAB.out.step hs7 (by simpa using n3.2.1)).lt; omega
                            have b2' := hab8.cell 2
                            have b3' := hab8.cell 3
                            simp only [List.getElem?_toArray, List.getElem?_cons_zero, List.getElem?_cons_succ] at b2' b3'
                            have b3 : w7.cell? ⟨ab, 3, none⟩ = some (.slice a4 l4.length cap4) := ((HAB.out.step hs7 (by simpa using n3.2.1)).cell 3).trans rfl
                            have HS8 := Lib.hid (hS7.alloc (.map #[] 0))
                            have HL8 := Lib.hid hL8
                            have HM8 := Lib.hid hM8
                            have HAB8 := Lib.hid hab8
                            have hinv := HP6.out.inv
                            have HINV := Lib.hid hinv
                            clear hinv hT7 hs7 hS7 hab8 hL8 hM8 HF HP6 HAB ha0 ha1 ha2 ha3 hx0 hx1 hxf0 hxf1
                            go_wp2_with fail
                            clear b2' b3' b3
                            generalize hsb2 : w7.heap.size = sb2 at *
                            generalize w7.alloc (.map #[] 0) = w8 at *
                            go_loopw [20, 21, 22, 94] (fun _ _ _ i wx => ∃ j : Nat, j ≤ l4.length ∧ i = .int .i64 j ∧ Trk wx tb mb (n + l4.length) (follF f l4 index) ∧ MapF keyI elM wx sb n f ∧ MapF keyI elM wx sb2 (2 * j) (leftF f l4 index j) ∧ Blk wx ab #[.int .i64 kind, .int .i64 node, .int .u64 index, .slice a4 l4.length cap4] 32 ∧ Step [] w wx) (fun _ _ _ i _ => l4.length - (intOf i).toNat)
                            case atStart => exact ⟨0, Nat.zero_le _, rfl, HT8.out, HL8.out, HM8.out.congr (fun x _ => by simp [leftF]), HAB8.out, HS8.out⟩
                            case round =>
                              obtain ⟨j, hj, rfl, hT, hLw, hMw, hAb, hs⟩ := hrel
                              have HT9 := Lib.hid hT
                              have HL9 := Lib.hid hLw
                              have HM9 := Lib.hid hMw
                              have HAB9 := Lib.hid hAb
                              have HS9 := Lib.hid hs
                              have c2 := hAb.cell 2
                              simp only [List.getElem?_toArray, List.getElem?_cons_zero, List.getElem?_cons_succ] at c2
                              clear hT hLw hMw hAb hs HT8 HL8 HM8 HAB8 HS8
                              by_cases hjl : j < l4.length
                              · as_aux_lemma =>
                                  obtain ⟨b6, off6, rfl, hlt6, hc6⟩ := HR.out.step HS9.out (by simp) j hjl
                                  have hjm : (j : Int) < (l4.length : Int) := by omega
                                  have hyi := HE.out _ (getD_mem hjl)
                                  have HST := Lib.hid (leftF_step f l4 index j hjl)
                                  generalize l4.getD j 0 = y at *
                                  cases hsy : (f y).isSome with
                                  | true =>
                                    as_aux_lemma =>
                                      rw [hsy] at HST
                                      go_wp2_with (first
                                        | (at_mapUpdate; refine wpList_store keyI elM rfl _ _ _ 28 30 rfl Try.underlying28 rfl HM9.out (by unfold maxLen; omega) y rfl hyi.good (0, index + 1) rfl ?_; intro w9 hm9 hs9; have hlk9 := law_look (HL9.out.step hs9 (by simpa using fun e => m3 e.symm)) y hyi; rw [hsy] at hlk9)
                                        | (at_mapUpdate; refine wpList_store keyI elM rfl _ _ _ 28 30 rfl Try.underlying28 rfl (hm9.step ((Step.refl [] w9).alloc (.cells #[.int .u64 (mat f y), .int .u64 (nxt f y)] 30)) (by simp)) (by unfold maxLen; omega) y rfl hyi.good (mat f y, nxt f y) rfl ?_; intro w10 hm10 hs10))
                                      have hst := ((hs9.alloc (.cells #[.int .u64 (mat f y), .int .u64 (nxt f y)] 30)).then hs10 (fun k hk => .inl hk))
                                      rw [show upd (upd (leftF f l4 index j) y (some (0, index + 1))) y (some (mat f y, nxt f y)) = leftF f l4 index (j + 1) from HST.out] at hm10
                                      have HT10 := Lib.hid (HT9.out.step hst (by simpa using fun e => m2 e.symm) (by simpa using fun e => m1 e.symm))
                                      have HL10 := Lib.hid (HL9.out.step hst (by simpa using fun e => m3 e.symm))
                                      have HAB10 := Lib.hid (HAB9.out.step hst (by simpa using m4))
                                      have HS10 := Lib.hid (HS9.out.then hst (fun k hk => by simp at hk; exact .inr (by omega)))
                                      have HM10 := Lib.hid hm10
                                      clear hm9 hs9 hm10 hs10 hst HT9 HL9 HM9 HAB9 HS9 hlk9
                                      go_roundw
                                      case rel => exact ⟨j + 1, by omega, by go_num, HT10.out, HL10.out, HM10.out.mono (by omega), HAB10.out, HS10.out⟩
                                      case measure => simp [intOf]; omega
                                  | false =>
                                    as_aux_lemma =>
                                      rw [hsy] at HST
                                      go_wp2_with (at_mapUpdate; refine wpList_store keyI elM rfl _ _ _ 28 30 rfl Try.underlying28 rfl HM9.out (by unfold maxLen; omega) y rfl hyi.good (0, index + 1) rfl ?_; intro w9 hm9 hs9; have hlk9 := law_look (HL9.out.step hs9 (by simpa using fun e => m3 e.symm)) y hyi; rw [hsy] at hlk9)
                                      have hst := hs9.alloc (.cells #[.int .u64 (mat f y), .int .u64 (nxt f y)] 30)
                                      rw [show upd (leftF f l4 index j) y (some (0, index + 1)) = leftF f l4 index (j + 1) from HST.out] at hm9
                                      have HT10 := Lib.hid (HT9.out.step hst (by simpa using fun e => m2 e.symm) (by simpa using fun e => m1 e.symm))
                                      have HL10 := Lib.hid (HL9.out.step hst (by simpa using fun e => m3 e.symm))
                                      have HAB10 := Lib.hid (HAB9.out.step hst (by simpa using m4))
                                      have HS10 := Lib.hid (HS9.out.then hst (fun k hk => by simp at hk; exact .inr (by omega)))
                                      have HM10 := Lib.hid (hm9.step ((Step.refl [] w9).alloc (.cells #[.int .u64 (mat f y), .int .u64 (nxt f y)] 30)) (by simp))
                                      clear hm9 hs9 hst HT9 HL9 HM9 HAB9 HS9 hlk9
                                      go_roundw
                                      case rel => exact ⟨j + 1, by omega, by go_num, HT10.out, HL10.out, HM10.out.mono (by omega), HAB10.out, HS10.out⟩
                                      case measure => simp [intOf]; omega
                              · as_aux_lemma =>
                                  have hje : j = l4.length := by omega
                                  subst hje
                                  go_wp2_with fail
                                  go_meet
                                  exact ⟨sb2, 20 + 20 * (k + 1), follF f l4 index, rfl, Nat.le_refl _, ⟨HT9.out.mono (by omega), (HM9.out.congr (fun x _ => by rw [leftF_end])).mono (by omega), HINV.out.foll l4 index hi0 hix, HS9.out, m1, m2, by omega⟩⟩
              case rest =>
                as_aux_lemma =>
                  obtain ⟨sb', n', f', rfl, hn', hP⟩ := hcut
                  have HP7 := Lib.hid hP
                  clear hP HP6 HAB ha0 ha1 ha2 ha3 hx0 hx1 hxf0 hxf1 HSS hlow HR HE n2 n3 n4 n5
                  go_wp2_with fail
                  go_loopw [23, 24, 25, 195] (fun _ _ _ i wx => ∃ c : Nat, c ≤ 9 ∧ i = .int .i64 c ∧ PlS w wx tb mb sb' n' f') (fun _ _ _ i _ => 9 - (intOf i).toNat)
                  case atStart => exact ⟨0, by omega, rfl, HP7.out⟩
                  case round =>
                    obtain ⟨c, hc, rfl, hP⟩ := hrel
                    have HP8 := Lib.hid hP
                    clear hP HP7
                    by_cases hc9 : c < 9
                    · as_aux_lemma =>
                        have hci : (c : Int) < 9 := by omega
                        have hcI : IsI (c : Int) := by
                          unfold IsI
                          simp [Lit.wf, IntKind.min, IntKind.max, IntKind.bits, IntKind.signed]
                          omega
                        have hlk := HP8.out.look (c : Int) hcI
                        obtain ⟨S2, hS2⟩ : ∃ S2, (f' (c : Int)).isSome = S2 := ⟨_, rfl⟩
                        rw [hS2] at hlk
                        have hmn : S2 = true → mat f' (c : Int) < nxt f' (c : Int) := fun h => by
                          rw [h] at hS2
                          obtain ⟨q, hq⟩ := Option.isSome_iff_exists.1 hS2
                          have := HP8.out.inv _ q hq
                          simp [mat, nxt, hq]
                          omega
                        go_wp2_with fail
                        have hk : CkG w tb mb sb' n' f' wr.heap.size (mat f' (c : Int)) (nxt f' (c : Int)) (wr.alloc (.cells #[.int .u64 (mat f' (c : Int)), .int .u64 (nxt f' (c : Int))] 30)).drew := CkG.step ⟨HP8.out.move ((Step.refl [] wr).alloc _), Blk.new wr _ _⟩ (Step.refl [] _).drew
                        have hH := fun x : ClsW (CkG w tb mb sb' n' f' wr.heap.size (mat f' (c : Int)) (nxt f' (c : Int))) => ck_has x (c : Int) hcI S2 hS2
                        have hM := fun x : ClsW (CkG w tb mb sb' n' f' wr.heap.size (mat f' (c : Int)) (nxt f' (c : Int))) => ck_match x (c : Int) hcI
                        have hN := fun x : ClsW (CkG w tb mb sb' n' f' wr.heap.size (mat f' (c : Int)) (nxt f' (c : Int))) => ck_next x (c : Int) hcI
                        have HH := Lib.hid hH
                        have HMt := Lib.hid hM
                        have HNx := Lib.hid hN
                        clear hH hM hN
                        have c0 : ∀ x : ClsW (CkG w tb mb sb' n' f' wr.heap.size (mat f' (c : Int)) (nxt f' (c : Int))), x.val.cell? ⟨wr.heap.size, 0, none⟩ = some (.int .u64 (mat f' (c : Int))) := fun x => (x.ok.2.cell 0).trans rfl
                        have c1 : ∀ x : ClsW (CkG w tb mb sb' n' f' wr.heap.size (mat f' (c : Int)) (nxt f' (c : Int))), x.val.cell? ⟨wr.heap.size, 1, none⟩ = some (.int .u64 (nxt f' (c : Int))) := fun x => (x.ok.2.cell 1).trans rfl
                        have hn : Nonempty (ClsW (CkG w tb mb sb' n' f' wr.heap.size (mat f' (c : Int)) (nxt f' (c : Int)))) := ⟨⟨_, hk⟩⟩
                        clear hS2 hlk
                        cases S2 with
                        | true =>
                          as_aux_lemma =>
                            have hd : decide (nxt f' (c : Int) ≤ mat f' (c : Int)) = false := by have := hmn rfl; simpa using this
                            clear hmn
                            refine region_cls (by kernel_rfl) (by kernel_rfl) hk ?_
                            repeat (go_big_quiet_step (first
                              | (go_at_call 11; exact cls_call (HH.out _))
                              | (go_at_call 12; exact cls_call (HMt.out _))
                              | (go_at_call 13; exact cls_call (HNx.out _))))
                            refine wpQuiet_nil ?_
                            rintro _ ⟨x, rfl⟩
                            go_wp2_with fail
                            go_roundw
                            case rel => exact ⟨c + 1, by omega, by go_num, x.ok.1⟩
                            case measure => simp [intOf]; omega
                        | false =>
                          as_aux_lemma =>
                            clear hmn
                            refine region_cls (by kernel_rfl) (by kernel_rfl) hk ?_
                            repeat (go_big_quiet_step (first
                              | (go_at_call 11; exact cls_call (HH.out _))
                              | (go_at_call 12; exact cls_call (HMt.out _))
                              | (go_at_call 13; exact cls_call (HNx.out _))))
                            refine wpQuiet_nil ?_
                            rintro _ ⟨x, rfl⟩
                            go_wp2_with fail
                            go_roundw
                            case rel => exact ⟨c + 1, by omega, by go_num, x.ok.1⟩
                            case measure => simp [intOf]; omega
                    · as_aux_lemma =>
                        have hci : ¬ (c : Int) < 9 := by omega
                        go_wp2_with fail
                        go_roundw
                        case rel => exact ⟨k + 1, sb', n', f', by omega, by go_num, rfl, hn', HP8.out⟩
                        case measure => simp [intOf]; omega
            · go_wp2_with fail
              go_ret
              exact ⟨rfl, (HP2.out.step.alloc _).below'⟩
          · go_wp2_with fail
            go_ret
            exact ⟨rfl, (HP2.out.step.alloc _).below'⟩
        · as_aux_lemma =>
            have hke : k = vs.length := by omega
            subst hke
            go_wp2_with fail
            refine (follow_nil a cap l.length last wr).mono ?_
            rintro e w6 ⟨rfl, rfl⟩
            go_wp2_with fail
            refine (has_nil 1 wr).mono ?_
            rintro e w6 ⟨rfl, rfl⟩
            go_wp2_with fail
            refine (match_nil 1 wr).mono ?_
            rintro e w6 ⟨rfl, rfl⟩
            go_wp2_with fail
            refine (next_nil 1 wr).mono ?_
            rintro e w6 ⟨rfl, rfl⟩
            go_wp2_with fail
            refine (yes_nil 1 last wr).mono ?_
            rintro e w6 ⟨rfl, rfl⟩
            go_wp2_with fail
            refine (no_nil 1 last wr).mono ?_
            rintro e w6 ⟨rfl, rfl⟩
            go_wp2_with fail
            go_ret
            exact ⟨rfl, HP2.out.step.below'⟩
end Go.Proofs.Ytffhldfbdchdkaa
