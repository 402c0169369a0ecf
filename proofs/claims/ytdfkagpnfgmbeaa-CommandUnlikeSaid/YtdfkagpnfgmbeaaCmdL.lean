/- command.Only: with the fields that the kind has. -/
import Derived.Test.YtdfkagpnfgmbeaaCmdP
import Derived.Test.YtdfkagpnfgmbeaaSqW
namespace Go.Proofs.Ytdfkagpnfgmbeaa
set_option linter.unusedVariables false
set_option linter.unusedSimpArgs false
open Go.RowKit

theorem exec_load_c (a : Act) (dst : Option Tmp) (x : Operand) (ty : TypeId) (pos : String) (after : Array Edge) (guard : Option (Nat × Bool)) :
    execOp a.eval { dst, op := .load 38 x, type := ty, pos, after, guard } = (do pure (.value (← loadBig 38 (a.eval x)))) := rfl
theorem Try.load_c (w : World) (b o : Nat) : (loadBig 38 (.pointer (some ⟨b, o, none⟩))).run Try.prog w = match rowC w b o 16 with
      | some cs => .ok (.agg cs.toArray) w
      | none => (loadBig0 38 (.pointer (some ⟨b, o, none⟩))).run Try.prog w :=
  run_loadBig 38 16 _ Try.underlying38 rfl (by kernel_rfl) w b o
theorem exec_store_c (a : Act) (dst : Option Tmp) (x y : Operand) (ty : TypeId) (pos : String) (after : Array Edge) (guard : Option (Nat × Bool)) :
    execOp a.eval { dst, op := .store 38 x y, type := ty, pos, after, guard } = (do storeBig 38 (a.eval x) (a.eval y); pure .skip) := rfl
theorem Try.store_c (w : World) (b o : Nat) (q : PC) (a : Option Addr) (n c : Nat) (ht : w.there b o 16) : (storeBig 38 (.pointer (some ⟨b, o, none⟩)) (.agg (cmC q a n c).toArray)).run Try.prog w = .ok () (w.setCells b o (cmC q a n c)) :=
  run_storeBig 38 16 (by kernel_rfl) w b o (cmC q a n c) ht rfl (by rfl)
theorem Try.store_c0 (w : World) (b o : Nat) (x : Int) (ht : w.there b o 16) : (storeBig 38 (.pointer (some ⟨b, o, none⟩)) (.agg #[.int .i64 x, .string { data := #[] }, .string { data := #[] }, .int .u64 0, .int .i64 0, .string { data := #[] }, .string { data := #[] }, .int .i64 0, .int .i64 0, .slice none 0 0, .int .i64 0, .int .i64 0, .int .i64 0, .int .i64 0, .string { data := #[] }, .int .i64 0])).run Try.prog w = .ok () (w.setCells b o (cmC ⟨x, [], [], 0, 0, ps0⟩ none 0 0)) :=
  Try.store_c w b o ⟨x, [], [], 0, 0, ps0⟩ none 0 0 ht
theorem cm_row {w : World} {b : Nat} {q : PC} {a : Option Addr} {n c : Nat} {T : TypeId} (h : Blk w b (cmC q a n c).toArray T) : rowC w b 0 16 = some (cmC q a n c) :=
  row_of_range w b (cmC q a n c) 0 (fun j v hv => by
    rw [h.cell (0 + j), Nat.zero_add, List.getElem?_toArray]
    exact hv)
theorem cm_thr {w : World} {b : Nat} {q : PC} {a : Option Addr} {n c : Nat} {T : TypeId} (h : Blk w b (cmC q a n c).toArray T) : w.there b 0 16 := h.there (o := 0) (n := 16) (Nat.le_refl 16)
theorem cm_all {w : World} {b : Nat} {q q' : PC} {a a' : Option Addr} {n n' c c' : Nat} {T : TypeId} (h : Blk w b (cmC q a n c).toArray T) : Blk (w.setCells b 0 (cmC q' a' n' c')) b (cmC q' a' n' c').toArray T := h.setAll _ rfl
theorem cm_sp {w : World} {b : Nat} {c : PC} {a : Option Addr} {n k : Nat} {T : TypeId} (h : Blk w b (cmC c a n k).toArray T) : rowC w b 5 11 = some (spC c.sp a n k) :=
  row_of_range w b (spC c.sp a n k) 5 (fun j v hv => by
    rw [h.cell (5 + j)]
    have : (cmC c a n k).toArray[5 + j]? = (spC c.sp a n k)[j]? := by
      rw [List.getElem?_toArray]
      show (cmC c a n k)[5 + j]? = _
      rw [show 5 + j = j + 5 by omega]
      rfl
    rw [this]
    exact hv)
theorem cm_spthr {w : World} {b : Nat} {c : PC} {a : Option Addr} {n k : Nat} {T : TypeId} (h : Blk w b (cmC c a n k).toArray T) : w.there b 5 11 := h.there (o := 5) (n := 11) (Nat.le_refl 16)
/-- a list with these from the o-th on -/
def setAtC (C : List Value) : Nat → List Value → List Value
  | _, [] => C
  | o, v :: r => setAtC (C.set o v) (o + 1) r
theorem Blk.setAtC {b : Nat} {T : TypeId} : ∀ (vs : List Value) (o : Nat) (w : World) (C : List Value), Blk w b C.toArray T → Blk (w.setCells b o vs) b (setAtC C o vs).toArray T
  | [], _, _, _, h => h
  | v :: r, o, w, C, h => by
    have h1 := h.set o v
    rw [List.setIfInBounds_toArray] at h1
    exact Blk.setAtC r (o + 1) _ _ h1
theorem cm_set {w : World} {b : Nat} {K : Int} {S : PS} {a : Option Addr} {n k : Nat} {T : TypeId} (h : Blk w b (cmC ⟨K, [], [], 0, 0, ps0⟩ none 0 0).toArray T) : Blk (w.setCells b 5 (spC S a n k)) b (cmC ⟨K, [], [], 0, 0, S⟩ a n k).toArray T := by
  have h1 := Blk.setAtC (spC S a n k) 5 w _ h
  have h2 : Go.Proofs.Ytdfkagpnfgmbeaa.setAtC (cmC ⟨K, [], [], 0, 0, ps0⟩ none 0 0) 5 (spC S a n k) = cmC ⟨K, [], [], 0, 0, S⟩ a n k := by
    simp only [spC, Go.Proofs.Ytdfkagpnfgmbeaa.setAtC, cmC, List.set_cons_succ, List.set_cons_zero, Nat.reduceAdd]
  rw [h2] at h1
  exact h1
theorem owns_none {w : World} {base e n c : Nat} {l : List (List UInt8)} (h : w.ownsRow base e 1 (.slice none n c) n (l.map txV)) : l.length = 0 := by
  obtain ⟨hlen, h⟩ := h
  rcases h with ⟨h1, h2⟩ | ⟨g, cap, cur, h1, _⟩
  · have : n = 0 := h2
    have : l.length = n := by simpa using hlen
    omega
  · cases h1
theorem owns_some {w : World} {base e n c : Nat} {ad : Addr} {l : List (List UInt8)} (h : w.ownsRow base e 1 (.slice (some ad) n c) n (l.map txV)) : ∃ g, ad = ⟨g, 0, none⟩ := by
  obtain ⟨hlen, h⟩ := h
  rcases h with ⟨h1, h2⟩ | ⟨g, cap, cur, h1, _⟩
  · cases h1
  · cases h1
    exact ⟨g, rfl⟩
attribute [local go_sem ↓] exec_load_c exec_store_c exec_load_s exec_store_s
attribute [local go_sem] Try.load_c row_drew Try.store_c Try.store_c0 Try.load_s Try.store_s

def pcZ (x : Int) : PC := ⟨x, [], [], 0, 0, ps0⟩
/-- what Only hands back -/
def OnlyR (c : PC) (w : World) (en : Ending) (w' : World) : Prop :=
  ∃ (a : Option Addr) (k : Nat), en = .returned (.agg (cmC (onlyC c) a (onlyC c).sp.ds.length k).toArray) ∧ TxS w' a (onlyC c).sp.ds ∧ Step [] w w'
/-- Only's three variables, behind its first lines -/
structure Ok3 (c : PC) (a : Option Addr) (n k : Nat) (w : World) (cb rb ob : Nat) (W : World) : Prop where
  cv : Blk W cb (cmC c a n k).toArray 38
  rv : Blk W rb (cmC (pcZ 0) none 0 0).toArray 38
  ov : Blk W ob (cmC (pcZ c.kd) none 0 0).toArray 38
  st : Step [] w W
  h1 : w.heap.size ≤ rb
  h2 : w.heap.size ≤ ob
  n1 : cb ≠ rb
  n2 : cb ≠ ob
  n3 : rb ≠ ob
theorem ok3_start (c : PC) (a : Option Addr) (n k : Nat) (w : World) : ∃ W1 W2 W3 cb rb ob, (w.alloc (.cells (cmC c a n k).toArray 38) = W1 ∧ w.heap.size = cb) ∧ (W1.alloc (.cells #[.int .i64 0, .string { data := #[] }, .string { data := #[] }, .int .u64 0, .int .i64 0, .string { data := #[] }, .string { data := #[] }, .int .i64 0, .int .i64 0, .slice none 0 0, .int .i64 0, .int .i64 0, .int .i64 0, .int .i64 0, .string { data := #[] }, .int .i64 0] 38) = W2 ∧ W1.heap.size = rb)
    ∧ ((W2.alloc (.cells #[.int .i64 0, .string { data := #[] }, .string { data := #[] }, .int .u64 0, .int .i64 0, .string { data := #[] }, .string { data := #[] }, .int .i64 0, .int .i64 0, .slice none 0 0, .int .i64 0, .int .i64 0, .int .i64 0, .int .i64 0, .string { data := #[] }, .int .i64 0] 38)).setCells W2.heap.size 0 (cmC ⟨c.kd, [], [], 0, 0, ps0⟩ none 0 0) = W3 ∧ W2.heap.size = ob) ∧ (W2.alloc (.cells #[.int .i64 0, .string { data := #[] }, .string { data := #[] }, .int .u64 0, .int .i64 0, .string { data := #[] }, .string { data := #[] }, .int .i64 0, .int .i64 0, .slice none 0 0, .int .i64 0, .int .i64 0, .int .i64 0, .int .i64 0, .string { data := #[] }, .int .i64 0] 38)).there W2.heap.size 0 16 ∧ W2.cell? ⟨cb, 0, none⟩ = some (.int .i64 c.kd) ∧ Ok3 c a n k w cb rb ob W3 := by
  have b1 := Blk.new w (cmC c a n k).toArray 38
  have s1 := (Step.refl [] w).alloc (.cells (cmC c a n k).toArray 38)
  generalize hW1 : w.alloc (.cells (cmC c a n k).toArray 38) = W1 at b1 s1
  have z1 : W1.heap.size = w.heap.size + 1 := by rw [← hW1, World.size_alloc]
  have b2 := Blk.new W1 (cmC (pcZ 0) none 0 0).toArray 38
  have s2 := (Step.refl [] W1).alloc (.cells (cmC (pcZ 0) none 0 0).toArray 38)
  generalize hW2 : W1.alloc (.cells (cmC (pcZ 0) none 0 0).toArray 38) = W2 at b2 s2
  have z2 : W2.heap.size = W1.heap.size + 1 := by rw [← hW2, World.size_alloc]
  have b3 := Blk.new W2 (cmC (pcZ 0) none 0 0).toArray 38
  have s3 := ((Step.refl [] W2).alloc (.cells (cmC (pcZ 0) none 0 0).toArray 38)).setCells (b := W2.heap.size) (.inr (Nat.le_refl _)) (cmC (pcZ c.kd) none 0 0) 0
  have b4 : Blk _ W2.heap.size (cmC (pcZ c.kd) none 0 0).toArray 38 := cm_all (q' := pcZ c.kd) (a' := none) (n' := 0) (c' := 0) b3
  have c2 := b1.step s2 (by simp)
  refine ⟨W1, W2, _, _, _, _, ⟨rfl, rfl⟩, ⟨hW2, rfl⟩, ⟨rfl, rfl⟩, cm_thr b3, c2.cell 0, c2.step s3 (by simp), b2.step s3 (by simp), b4, (s1.then s2 (by simp)).then s3 (by simp), by omega, by omega, by omega, by omega, by omega⟩

set_option maxRecDepth 20000 in
set_option maxHeartbeats 2000000 in
theorem only_0 (c : PC) (a : Option Addr) (k : Nat) (w : World) (hk : c.kd = 0) (hn : a = none → c.sp.ds.length = 0 ∧ k = 0) (ha : TxS w a c.sp.ds) (hl : LitC c) :
    Calls Try.prog 14 #[.agg (cmC c a c.sp.ds.length k).toArray] w (OnlyR c w) := by
  obtain ⟨n, hnn⟩ : ∃ n, c.sp.ds.length = n := ⟨_, rfl⟩
  have HN := Lib.hid hnn
  rw [hnn]
  obtain ⟨W1, W2, W, cb, rb, ob, h1, h2, h3, t0, k0, hO⟩ := ok3_start c a n k w
  have H1 := Lib.hid h1
  have H2 := Lib.hid h2
  have H3 := Lib.hid h3
  have HO := Lib.hid hO
  have HA := Lib.hid (And.intro hn (And.intro ha hl))
  have HK := Lib.hid hk
  clear h1 h2 h3 hO hnn hn ha hl
  rw [hk] at k0
  have HE := Lib.hid (show cmC ⟨0, [], [], 0, 0, ps0⟩ none 0 0 = cmC ⟨c.kd, [], [], 0, 0, ps0⟩ none 0 0 by rw [hk])
  clear hk
  have j0 : W.cell? ⟨cb, 0, none⟩ = some (.int .i64 c.kd) := HO.out.cv.cell 0
  rw [HK.out] at j0
  have ro := cm_row (HO.out.ov)
  have tr := cm_thr (HO.out.rv)
  have hfin : Blk (W.setCells rb 0 (cmC ⟨c.kd, [], [], 0, 0, ps0⟩ none 0 0)) rb (cmC ⟨c.kd, [], [], 0, 0, ps0⟩ none 0 0).toArray 38 := cm_all (HO.out.rv)
  have hst := (HO.out.st).setCells (b := rb) (.inr HO.out.h1) (cmC ⟨c.kd, [], [], 0, 0, ps0⟩ none 0 0) 0
  have hoc : onlyC c = ⟨c.kd, [], [], 0, 0, ps0⟩ := by
    unfold onlyC
    rw [HK.out]
    simp
  have HF := Lib.hid (show OnlyR c w (.returned (.agg (cmC ⟨c.kd, [], [], 0, 0, ps0⟩ none 0 0).toArray)) (W.setCells rb 0 (cmC ⟨c.kd, [], [], 0, 0, ps0⟩ none 0 0)) from by
    refine ⟨none, 0, ?_, ?_, hst⟩
    · rw [hoc]; rfl
    · rw [hoc]; intro i hi; simp [ps0] at hi)
  have HX := Lib.hid hfin
  clear hfin hst hoc 
  have HKI := Lib.hid (Int.natCast_nonneg 0)
  go_enter Try.func14, Try.ntmps14
  go_wp2_with (first | rw [H1.out.1, H1.out.2] | rw [H2.out.1, H2.out.2] | rw [HE.out, H3.out.1, H3.out.2])
  all_goals (refine bodyPost_ret (v := .agg (cmC ⟨c.kd, [], [], 0, 0, ps0⟩ none 0 0).toArray) (results_cell_row rfl _ _ rb 38 _ (0, 0) _ rfl HX.out Try.underlying38 rfl (by kernel_rfl)) rfl HF.out)
set_option maxRecDepth 20000 in
set_option maxHeartbeats 2000000 in
theorem only_1 (c : PC) (a : Option Addr) (k : Nat) (w : World) (hk : c.kd = 1) (hn : a = none → c.sp.ds.length = 0 ∧ k = 0) (ha : TxS w a c.sp.ds) (hl : LitC c) :
    Calls Try.prog 14 #[.agg (cmC c a c.sp.ds.length k).toArray] w (OnlyR c w) := by
  obtain ⟨n, hnn⟩ : ∃ n, c.sp.ds.length = n := ⟨_, rfl⟩
  have HN := Lib.hid hnn
  rw [hnn]
  obtain ⟨W1, W2, W, cb, rb, ob, h1, h2, h3, t0, k0, hO⟩ := ok3_start c a n k w
  have H1 := Lib.hid h1
  have H2 := Lib.hid h2
  have H3 := Lib.hid h3
  have HO := Lib.hid hO
  have HA := Lib.hid (And.intro hn (And.intro ha hl))
  have HK := Lib.hid hk
  clear h1 h2 h3 hO hnn hn ha hl
  rw [hk] at k0
  have HE := Lib.hid (show cmC ⟨1, [], [], 0, 0, ps0⟩ none 0 0 = cmC ⟨c.kd, [], [], 0, 0, ps0⟩ none 0 0 by rw [hk])
  clear hk
  have j0 : W.cell? ⟨cb, 0, none⟩ = some (.int .i64 c.kd) := HO.out.cv.cell 0
  rw [HK.out] at j0
  have c5 := cm_sp HO.out.cv
  go_enter Try.func14, Try.ntmps14
  go_wp2_with (first | rw [H1.out.1, H1.out.2] | rw [H2.out.1, H2.out.2] | rw [HE.out, H3.out.1, H3.out.2])
  have HC := Lib.hid (sclone_any c.sp a k W HA.out.1 (HA.out.2.1.step0 HO.out.st) (by have := HA.out.2.2.sp.ds; omega))
  rw [HN.out] at HC
  refine HC.out.mono ?_
  rintro e w1 ⟨a1, k1, rfl, ho, hs1⟩
  have hov := HO.out.ov.step hs1 (by simp)
  have hrv := HO.out.rv.step hs1 (by simp)
  have t5 := cm_spthr hov
  have hov2 : Blk (w1.setCells ob 5 (spC c.sp a1 c.sp.ds.length k1)) ob (cmC ⟨c.kd, [], [], 0, 0, c.sp⟩ a1 c.sp.ds.length k1).toArray 38 := cm_set hov
  have hs2 := (Step.refl [ob] w1).setCells (b := ob) (.inl (by simp)) (spC c.sp a1 c.sp.ds.length k1) 5
  have hrv2 := hrv.step hs2 (by have := HO.out.n3; simpa using this)
  have ro := cm_row hov2
  have tr := cm_thr hrv2
  have hfin : Blk ((w1.setCells ob 5 (spC c.sp a1 c.sp.ds.length k1)).setCells rb 0 (cmC ⟨c.kd, [], [], 0, 0, c.sp⟩ a1 c.sp.ds.length k1)) rb (cmC ⟨c.kd, [], [], 0, 0, c.sp⟩ a1 c.sp.ds.length k1).toArray 38 := cm_all hrv2
  have hst := ((HO.out.st.then hs1 (by simp)).setCells (b := ob) (.inr HO.out.h2) (spC c.sp a1 c.sp.ds.length k1) 5).setCells (b := rb) (.inr HO.out.h1) (cmC ⟨c.kd, [], [], 0, 0, c.sp⟩ a1 c.sp.ds.length k1) 0
  have hsx := ((Step.refl [ob, rb] w1).setCells (b := ob) (.inl (by simp)) (spC c.sp a1 c.sp.ds.length k1) 5).setCells (b := rb) (.inl (by simp)) (cmC ⟨c.kd, [], [], 0, 0, c.sp⟩ a1 c.sp.ds.length k1) 0
  have hoc : onlyC c = ⟨c.kd, [], [], 0, 0, c.sp⟩ := by
    unfold onlyC
    rw [HK.out]
    simp
  have htx : TxS w1 a1 c.sp.ds := by
    cases a1 with
    | none =>
      intro i hi
      exact absurd hi (by have := owns_none ho; omega)
    | some ad =>
      obtain ⟨g, hg⟩ := owns_some ho
      subst hg
      exact owns_txs ho
  have htx2 := htx.step hsx (fun b off hab => by
    subst hab
    have hbase := owns_base ho b (by simp [foot, Value.ownBlock])
    have h1 := HO.out.ov.lt
    have h2 := HO.out.rv.lt
    simp
    omega)
  have HF := Lib.hid (show OnlyR c w (.returned (.agg (cmC ⟨c.kd, [], [], 0, 0, c.sp⟩ a1 c.sp.ds.length k1).toArray)) ((w1.setCells ob 5 (spC c.sp a1 c.sp.ds.length k1)).setCells rb 0 (cmC ⟨c.kd, [], [], 0, 0, c.sp⟩ a1 c.sp.ds.length k1)) from by
    refine ⟨a1, k1, ?_, ?_, hst⟩
    · rw [hoc]
    · rw [hoc]; exact htx2)
  have HX := Lib.hid hfin
  clear hfin hst hsx hoc htx htx2 hov hrv hov2 hrv2 hs1 hs2 ho c5 j0 k0 t0 HC
  go_wp2_with fail
  all_goals (refine bodyPost_ret (v := .agg (cmC ⟨c.kd, [], [], 0, 0, c.sp⟩ a1 c.sp.ds.length k1).toArray) (results_cell_row rfl _ _ rb 38 _ (0, 0) _ rfl HX.out Try.underlying38 rfl (by kernel_rfl)) rfl HF.out)
set_option maxRecDepth 20000 in
set_option maxHeartbeats 2000000 in
theorem only_2 (c : PC) (a : Option Addr) (k : Nat) (w : World) (hk : c.kd = 2) (hn : a = none → c.sp.ds.length = 0 ∧ k = 0) (ha : TxS w a c.sp.ds) (hl : LitC c) :
    Calls Try.prog 14 #[.agg (cmC c a c.sp.ds.length k).toArray] w (OnlyR c w) := by
  obtain ⟨n, hnn⟩ : ∃ n, c.sp.ds.length = n := ⟨_, rfl⟩
  have HN := Lib.hid hnn
  rw [hnn]
  obtain ⟨W1, W2, W, cb, rb, ob, h1, h2, h3, t0, k0, hO⟩ := ok3_start c a n k w
  have H1 := Lib.hid h1
  have H2 := Lib.hid h2
  have H3 := Lib.hid h3
  have HO := Lib.hid hO
  have HA := Lib.hid (And.intro hn (And.intro ha hl))
  have HK := Lib.hid hk
  clear h1 h2 h3 hO hnn hn ha hl
  rw [hk] at k0
  have HE := Lib.hid (show cmC ⟨2, [], [], 0, 0, ps0⟩ none 0 0 = cmC ⟨c.kd, [], [], 0, 0, ps0⟩ none 0 0 by rw [hk])
  clear hk
  have j0 : W.cell? ⟨cb, 0, none⟩ = some (.int .i64 c.kd) := HO.out.cv.cell 0
  rw [HK.out] at j0
  have j2 : W.cell? ⟨cb, 2, none⟩ = some (.string (bstr c.wk)) := HO.out.cv.cell 2
  have f2 := HO.out.ov.free 2
  have l2 := HO.out.ov.cell 2
  simp only [cmC, pcZ, List.getElem?_toArray, List.getElem?_cons_zero, List.getElem?_cons_succ] at l2
  have o2 : Blk (W.setCell ⟨ob, 2, none⟩ (.string (bstr c.wk))) ob (cmC ⟨c.kd, [], c.wk, 0, 0, ps0⟩ none 0 0).toArray 38 := (HO.out.ov).set 2 (.string (bstr c.wk))
  have p2 := (HO.out.rv).set_ne ob 2 (.string (bstr c.wk)) HO.out.n3
  have ro := cm_row (o2)
  have tr := cm_thr (p2)
  have hfin : Blk ((W.setCell ⟨ob, 2, none⟩ (.string (bstr c.wk))).setCells rb 0 (cmC ⟨c.kd, [], c.wk, 0, 0, ps0⟩ none 0 0)) rb (cmC ⟨c.kd, [], c.wk, 0, 0, ps0⟩ none 0 0).toArray 38 := cm_all (p2)
  have hst := ((HO.out.st).setCell (b := ob) (.inr HO.out.h2) 2 (.string (bstr c.wk))).setCells (b := rb) (.inr HO.out.h1) (cmC ⟨c.kd, [], c.wk, 0, 0, ps0⟩ none 0 0) 0
  have hoc : onlyC c = ⟨c.kd, [], c.wk, 0, 0, ps0⟩ := by
    unfold onlyC
    rw [HK.out]
    simp
  have HF := Lib.hid (show OnlyR c w (.returned (.agg (cmC ⟨c.kd, [], c.wk, 0, 0, ps0⟩ none 0 0).toArray)) ((W.setCell ⟨ob, 2, none⟩ (.string (bstr c.wk))).setCells rb 0 (cmC ⟨c.kd, [], c.wk, 0, 0, ps0⟩ none 0 0)) from by
    refine ⟨none, 0, ?_, ?_, hst⟩
    · rw [hoc]; rfl
    · rw [hoc]; intro i hi; simp [ps0] at hi)
  have HX := Lib.hid hfin
  clear hfin hst hoc o2 p2
  have HKI := Lib.hid (Int.natCast_nonneg 0)
  go_enter Try.func14, Try.ntmps14
  go_wp2_with (first | rw [H1.out.1, H1.out.2] | rw [H2.out.1, H2.out.2] | rw [HE.out, H3.out.1, H3.out.2])
  all_goals (refine bodyPost_ret (v := .agg (cmC ⟨c.kd, [], c.wk, 0, 0, ps0⟩ none 0 0).toArray) (results_cell_row rfl _ _ rb 38 _ (0, 0) _ rfl HX.out Try.underlying38 rfl (by kernel_rfl)) rfl HF.out)
set_option maxRecDepth 20000 in
set_option maxHeartbeats 2000000 in
theorem only_3 (c : PC) (a : Option Addr) (k : Nat) (w : World) (hk : c.kd = 3) (hn : a = none → c.sp.ds.length = 0 ∧ k = 0) (ha : TxS w a c.sp.ds) (hl : LitC c) :
    Calls Try.prog 14 #[.agg (cmC c a c.sp.ds.length k).toArray] w (OnlyR c w) := by
  obtain ⟨n, hnn⟩ : ∃ n, c.sp.ds.length = n := ⟨_, rfl⟩
  have HN := Lib.hid hnn
  rw [hnn]
  obtain ⟨W1, W2, W, cb, rb, ob, h1, h2, h3, t0, k0, hO⟩ := ok3_start c a n k w
  have H1 := Lib.hid h1
  have H2 := Lib.hid h2
  have H3 := Lib.hid h3
  have HO := Lib.hid hO
  have HA := Lib.hid (And.intro hn (And.intro ha hl))
  have HK := Lib.hid hk
  clear h1 h2 h3 hO hnn hn ha hl
  rw [hk] at k0
  have HE := Lib.hid (show cmC ⟨3, [], [], 0, 0, ps0⟩ none 0 0 = cmC ⟨c.kd, [], [], 0, 0, ps0⟩ none 0 0 by rw [hk])
  clear hk
  have j0 : W.cell? ⟨cb, 0, none⟩ = some (.int .i64 c.kd) := HO.out.cv.cell 0
  rw [HK.out] at j0
  have j1 : W.cell? ⟨cb, 1, none⟩ = some (.string (bstr c.nm)) := HO.out.cv.cell 1
  have j3 : W.cell? ⟨cb, 3, none⟩ = some (.int .u64 (c.tk : Int)) := HO.out.cv.cell 3
  have f1 := HO.out.ov.free 1
  have l1 := HO.out.ov.cell 1
  simp only [cmC, pcZ, List.getElem?_toArray, List.getElem?_cons_zero, List.getElem?_cons_succ] at l1
  have o1 : Blk (W.setCell ⟨ob, 1, none⟩ (.string (bstr c.nm))) ob (cmC ⟨c.kd, c.nm, [], 0, 0, ps0⟩ none 0 0).toArray 38 := (HO.out.ov).set 1 (.string (bstr c.nm))
  have p1 := (HO.out.rv).set_ne ob 1 (.string (bstr c.nm)) HO.out.n3
  have f3 := HO.out.ov.free 3
  have l3 := HO.out.ov.cell 3
  simp only [cmC, pcZ, List.getElem?_toArray, List.getElem?_cons_zero, List.getElem?_cons_succ] at l3
  have o3 : Blk ((W.setCell ⟨ob, 1, none⟩ (.string (bstr c.nm))).setCell ⟨ob, 3, none⟩ (.int .u64 (c.tk : Int))) ob (cmC ⟨c.kd, c.nm, [], c.tk, 0, ps0⟩ none 0 0).toArray 38 := (o1).set 3 (.int .u64 (c.tk : Int))
  have p3 := (p1).set_ne ob 3 (.int .u64 (c.tk : Int)) HO.out.n3
  have ro := cm_row (o3)
  have tr := cm_thr (p3)
  have tr2 := cm_thr ((p3).drew)
  have hfin : Blk (((W.setCell ⟨ob, 1, none⟩ (.string (bstr c.nm))).setCell ⟨ob, 3, none⟩ (.int .u64 (c.tk : Int))).drew.setCells rb 0 (cmC ⟨c.kd, c.nm, [], c.tk, 0, ps0⟩ none 0 0)) rb (cmC ⟨c.kd, c.nm, [], c.tk, 0, ps0⟩ none 0 0).toArray 38 := cm_all ((p3).drew)
  have hst := ((((HO.out.st).setCell (b := ob) (.inr HO.out.h2) 1 (.string (bstr c.nm))).setCell (b := ob) (.inr HO.out.h2) 3 (.int .u64 (c.tk : Int))).drew).setCells (b := rb) (.inr HO.out.h1) (cmC ⟨c.kd, c.nm, [], c.tk, 0, ps0⟩ none 0 0) 0
  have hoc : onlyC c = ⟨c.kd, c.nm, [], c.tk, 0, ps0⟩ := by
    unfold onlyC
    rw [HK.out]
    simp
  have HF := Lib.hid (show OnlyR c w (.returned (.agg (cmC ⟨c.kd, c.nm, [], c.tk, 0, ps0⟩ none 0 0).toArray)) (((W.setCell ⟨ob, 1, none⟩ (.string (bstr c.nm))).setCell ⟨ob, 3, none⟩ (.int .u64 (c.tk : Int))).drew.setCells rb 0 (cmC ⟨c.kd, c.nm, [], c.tk, 0, ps0⟩ none 0 0)) from by
    refine ⟨none, 0, ?_, ?_, hst⟩
    · rw [hoc]; rfl
    · rw [hoc]; intro i hi; simp [ps0] at hi)
  have HX := Lib.hid hfin
  clear hfin hst hoc o1 p1 o3 p3
  have HKI := Lib.hid (Int.natCast_nonneg 0)
  go_enter Try.func14, Try.ntmps14
  go_wp2_with (first | rw [H1.out.1, H1.out.2] | rw [H2.out.1, H2.out.2] | rw [HE.out, H3.out.1, H3.out.2])
  go_region
  all_goals go_wp2_with fail
  all_goals (refine bodyPost_ret (v := .agg (cmC ⟨c.kd, c.nm, [], c.tk, 0, ps0⟩ none 0 0).toArray) (results_cell_row rfl _ _ rb 38 _ (0, 0) _ rfl HX.out Try.underlying38 rfl (by kernel_rfl)) rfl HF.out)
set_option maxRecDepth 20000 in
set_option maxHeartbeats 2000000 in
theorem only_4 (c : PC) (a : Option Addr) (k : Nat) (w : World) (hk : c.kd = 4) (hn : a = none → c.sp.ds.length = 0 ∧ k = 0) (ha : TxS w a c.sp.ds) (hl : LitC c) :
    Calls Try.prog 14 #[.agg (cmC c a c.sp.ds.length k).toArray] w (OnlyR c w) := by
  obtain ⟨n, hnn⟩ : ∃ n, c.sp.ds.length = n := ⟨_, rfl⟩
  have HN := Lib.hid hnn
  rw [hnn]
  obtain ⟨W1, W2, W, cb, rb, ob, h1, h2, h3, t0, k0, hO⟩ := ok3_start c a n k w
  have H1 := Lib.hid h1
  have H2 := Lib.hid h2
  have H3 := Lib.hid h3
  have HO := Lib.hid hO
  have HA := Lib.hid (And.intro hn (And.intro ha hl))
  have HK := Lib.hid hk
  clear h1 h2 h3 hO hnn hn ha hl
  rw [hk] at k0
  have HE := Lib.hid (show cmC ⟨4, [], [], 0, 0, ps0⟩ none 0 0 = cmC ⟨c.kd, [], [], 0, 0, ps0⟩ none 0 0 by rw [hk])
  clear hk
  have j0 : W.cell? ⟨cb, 0, none⟩ = some (.int .i64 c.kd) := HO.out.cv.cell 0
  rw [HK.out] at j0
  have j1 : W.cell? ⟨cb, 1, none⟩ = some (.string (bstr c.nm)) := HO.out.cv.cell 1
  have j3 : W.cell? ⟨cb, 3, none⟩ = some (.int .u64 (c.tk : Int)) := HO.out.cv.cell 3
  have j4 : W.cell? ⟨cb, 4, none⟩ = some (.int .i64 c.vl) := HO.out.cv.cell 4
  have f1 := HO.out.ov.free 1
  have l1 := HO.out.ov.cell 1
  simp only [cmC, pcZ, List.getElem?_toArray, List.getElem?_cons_zero, List.getElem?_cons_succ] at l1
  have o1 : Blk (W.setCell ⟨ob, 1, none⟩ (.string (bstr c.nm))) ob (cmC ⟨c.kd, c.nm, [], 0, 0, ps0⟩ none 0 0).toArray 38 := (HO.out.ov).set 1 (.string (bstr c.nm))
  have p1 := (HO.out.rv).set_ne ob 1 (.string (bstr c.nm)) HO.out.n3
  have f3 := HO.out.ov.free 3
  have l3 := HO.out.ov.cell 3
  simp only [cmC, pcZ, List.getElem?_toArray, List.getElem?_cons_zero, List.getElem?_cons_succ] at l3
  have o3 : Blk ((W.setCell ⟨ob, 1, none⟩ (.string (bstr c.nm))).setCell ⟨ob, 3, none⟩ (.int .u64 (c.tk : Int))) ob (cmC ⟨c.kd, c.nm, [], c.tk, 0, ps0⟩ none 0 0).toArray 38 := (o1).set 3 (.int .u64 (c.tk : Int))
  have p3 := (p1).set_ne ob 3 (.int .u64 (c.tk : Int)) HO.out.n3
  have f4 := HO.out.ov.free 4
  have l4 := HO.out.ov.cell 4
  simp only [cmC, pcZ, List.getElem?_toArray, List.getElem?_cons_zero, List.getElem?_cons_succ] at l4
  have o4 : Blk (((W.setCell ⟨ob, 1, none⟩ (.string (bstr c.nm))).setCell ⟨ob, 3, none⟩ (.int .u64 (c.tk : Int))).setCell ⟨ob, 4, none⟩ (.int .i64 c.vl)) ob (cmC ⟨c.kd, c.nm, [], c.tk, c.vl, ps0⟩ none 0 0).toArray 38 := (o3).set 4 (.int .i64 c.vl)
  have p4 := (p3).set_ne ob 4 (.int .i64 c.vl) HO.out.n3
  have ro := cm_row (o4)
  have tr := cm_thr (p4)
  have tr2 := cm_thr ((p4).drew)
  have hfin : Blk ((((W.setCell ⟨ob, 1, none⟩ (.string (bstr c.nm))).setCell ⟨ob, 3, none⟩ (.int .u64 (c.tk : Int))).setCell ⟨ob, 4, none⟩ (.int .i64 c.vl)).drew.setCells rb 0 (cmC ⟨c.kd, c.nm, [], c.tk, c.vl, ps0⟩ none 0 0)) rb (cmC ⟨c.kd, c.nm, [], c.tk, c.vl, ps0⟩ none 0 0).toArray 38 := cm_all ((p4).drew)
  have hst := (((((HO.out.st).setCell (b := ob) (.inr HO.out.h2) 1 (.string (bstr c.nm))).setCell (b := ob) (.inr HO.out.h2) 3 (.int .u64 (c.tk : Int))).setCell (b := ob) (.inr HO.out.h2) 4 (.int .i64 c.vl)).drew).setCells (b := rb) (.inr HO.out.h1) (cmC ⟨c.kd, c.nm, [], c.tk, c.vl, ps0⟩ none 0 0) 0
  have hoc : onlyC c = ⟨c.kd, c.nm, [], c.tk, c.vl, ps0⟩ := by
    unfold onlyC
    rw [HK.out]
    simp
  have HF := Lib.hid (show OnlyR c w (.returned (.agg (cmC ⟨c.kd, c.nm, [], c.tk, c.vl, ps0⟩ none 0 0).toArray)) ((((W.setCell ⟨ob, 1, none⟩ (.string (bstr c.nm))).setCell ⟨ob, 3, none⟩ (.int .u64 (c.tk : Int))).setCell ⟨ob, 4, none⟩ (.int .i64 c.vl)).drew.setCells rb 0 (cmC ⟨c.kd, c.nm, [], c.tk, c.vl, ps0⟩ none 0 0)) from by
    refine ⟨none, 0, ?_, ?_, hst⟩
    · rw [hoc]; rfl
    · rw [hoc]; intro i hi; simp [ps0] at hi)
  have HX := Lib.hid hfin
  clear hfin hst hoc o1 p1 o3 p3 o4 p4
  have HKI := Lib.hid (Int.natCast_nonneg 0)
  go_enter Try.func14, Try.ntmps14
  go_wp2_with (first | rw [H1.out.1, H1.out.2] | rw [H2.out.1, H2.out.2] | rw [HE.out, H3.out.1, H3.out.2])
  go_region
  all_goals go_wp2_with fail
  all_goals (refine bodyPost_ret (v := .agg (cmC ⟨c.kd, c.nm, [], c.tk, c.vl, ps0⟩ none 0 0).toArray) (results_cell_row rfl _ _ rb 38 _ (0, 0) _ rfl HX.out Try.underlying38 rfl (by kernel_rfl)) rfl HF.out)
set_option maxRecDepth 20000 in
set_option maxHeartbeats 2000000 in
theorem only_5 (c : PC) (a : Option Addr) (k : Nat) (w : World) (hk : c.kd = 5) (hn : a = none → c.sp.ds.length = 0 ∧ k = 0) (ha : TxS w a c.sp.ds) (hl : LitC c) :
    Calls Try.prog 14 #[.agg (cmC c a c.sp.ds.length k).toArray] w (OnlyR c w) := by
  obtain ⟨n, hnn⟩ : ∃ n, c.sp.ds.length = n := ⟨_, rfl⟩
  have HN := Lib.hid hnn
  rw [hnn]
  obtain ⟨W1, W2, W, cb, rb, ob, h1, h2, h3, t0, k0, hO⟩ := ok3_start c a n k w
  have H1 := Lib.hid h1
  have H2 := Lib.hid h2
  have H3 := Lib.hid h3
  have HO := Lib.hid hO
  have HA := Lib.hid (And.intro hn (And.intro ha hl))
  have HK := Lib.hid hk
  clear h1 h2 h3 hO hnn hn ha hl
  rw [hk] at k0
  have HE := Lib.hid (show cmC ⟨5, [], [], 0, 0, ps0⟩ none 0 0 = cmC ⟨c.kd, [], [], 0, 0, ps0⟩ none 0 0 by rw [hk])
  clear hk
  have j0 : W.cell? ⟨cb, 0, none⟩ = some (.int .i64 c.kd) := HO.out.cv.cell 0
  rw [HK.out] at j0
  have j1 : W.cell? ⟨cb, 1, none⟩ = some (.string (bstr c.nm)) := HO.out.cv.cell 1
  have j3 : W.cell? ⟨cb, 3, none⟩ = some (.int .u64 (c.tk : Int)) := HO.out.cv.cell 3
  have f1 := HO.out.ov.free 1
  have l1 := HO.out.ov.cell 1
  simp only [cmC, pcZ, List.getElem?_toArray, List.getElem?_cons_zero, List.getElem?_cons_succ] at l1
  have o1 : Blk (W.setCell ⟨ob, 1, none⟩ (.string (bstr c.nm))) ob (cmC ⟨c.kd, c.nm, [], 0, 0, ps0⟩ none 0 0).toArray 38 := (HO.out.ov).set 1 (.string (bstr c.nm))
  have p1 := (HO.out.rv).set_ne ob 1 (.string (bstr c.nm)) HO.out.n3
  have f3 := HO.out.ov.free 3
  have l3 := HO.out.ov.cell 3
  simp only [cmC, pcZ, List.getElem?_toArray, List.getElem?_cons_zero, List.getElem?_cons_succ] at l3
  have o3 : Blk ((W.setCell ⟨ob, 1, none⟩ (.string (bstr c.nm))).setCell ⟨ob, 3, none⟩ (.int .u64 (c.tk : Int))) ob (cmC ⟨c.kd, c.nm, [], c.tk, 0, ps0⟩ none 0 0).toArray 38 := (o1).set 3 (.int .u64 (c.tk : Int))
  have p3 := (p1).set_ne ob 3 (.int .u64 (c.tk : Int)) HO.out.n3
  have ro := cm_row (o3)
  have tr := cm_thr (p3)
  have tr2 := cm_thr ((p3).drew)
  have hfin : Blk (((W.setCell ⟨ob, 1, none⟩ (.string (bstr c.nm))).setCell ⟨ob, 3, none⟩ (.int .u64 (c.tk : Int))).drew.setCells rb 0 (cmC ⟨c.kd, c.nm, [], c.tk, 0, ps0⟩ none 0 0)) rb (cmC ⟨c.kd, c.nm, [], c.tk, 0, ps0⟩ none 0 0).toArray 38 := cm_all ((p3).drew)
  have hst := ((((HO.out.st).setCell (b := ob) (.inr HO.out.h2) 1 (.string (bstr c.nm))).setCell (b := ob) (.inr HO.out.h2) 3 (.int .u64 (c.tk : Int))).drew).setCells (b := rb) (.inr HO.out.h1) (cmC ⟨c.kd, c.nm, [], c.tk, 0, ps0⟩ none 0 0) 0
  have hoc : onlyC c = ⟨c.kd, c.nm, [], c.tk, 0, ps0⟩ := by
    unfold onlyC
    rw [HK.out]
    simp
  have HF := Lib.hid (show OnlyR c w (.returned (.agg (cmC ⟨c.kd, c.nm, [], c.tk, 0, ps0⟩ none 0 0).toArray)) (((W.setCell ⟨ob, 1, none⟩ (.string (bstr c.nm))).setCell ⟨ob, 3, none⟩ (.int .u64 (c.tk : Int))).drew.setCells rb 0 (cmC ⟨c.kd, c.nm, [], c.tk, 0, ps0⟩ none 0 0)) from by
    refine ⟨none, 0, ?_, ?_, hst⟩
    · rw [hoc]; rfl
    · rw [hoc]; intro i hi; simp [ps0] at hi)
  have HX := Lib.hid hfin
  clear hfin hst hoc o1 p1 o3 p3
  have HKI := Lib.hid (Int.natCast_nonneg 0)
  go_enter Try.func14, Try.ntmps14
  go_wp2_with (first | rw [H1.out.1, H1.out.2] | rw [H2.out.1, H2.out.2] | rw [HE.out, H3.out.1, H3.out.2])
  go_region
  all_goals go_wp2_with fail
  all_goals (refine bodyPost_ret (v := .agg (cmC ⟨c.kd, c.nm, [], c.tk, 0, ps0⟩ none 0 0).toArray) (results_cell_row rfl _ _ rb 38 _ (0, 0) _ rfl HX.out Try.underlying38 rfl (by kernel_rfl)) rfl HF.out)
set_option maxRecDepth 20000 in
set_option maxHeartbeats 2000000 in
theorem only_6 (c : PC) (a : Option Addr) (k : Nat) (w : World) (hk : c.kd = 6) (hn : a = none → c.sp.ds.length = 0 ∧ k = 0) (ha : TxS w a c.sp.ds) (hl : LitC c) :
    Calls Try.prog 14 #[.agg (cmC c a c.sp.ds.length k).toArray] w (OnlyR c w) := by
  obtain ⟨n, hnn⟩ : ∃ n, c.sp.ds.length = n := ⟨_, rfl⟩
  have HN := Lib.hid hnn
  rw [hnn]
  obtain ⟨W1, W2, W, cb, rb, ob, h1, h2, h3, t0, k0, hO⟩ := ok3_start c a n k w
  have H1 := Lib.hid h1
  have H2 := Lib.hid h2
  have H3 := Lib.hid h3
  have HO := Lib.hid hO
  have HA := Lib.hid (And.intro hn (And.intro ha hl))
  have HK := Lib.hid hk
  clear h1 h2 h3 hO hnn hn ha hl
  rw [hk] at k0
  have HE := Lib.hid (show cmC ⟨6, [], [], 0, 0, ps0⟩ none 0 0 = cmC ⟨c.kd, [], [], 0, 0, ps0⟩ none 0 0 by rw [hk])
  clear hk
  have j0 : W.cell? ⟨cb, 0, none⟩ = some (.int .i64 c.kd) := HO.out.cv.cell 0
  rw [HK.out] at j0
  have j1 : W.cell? ⟨cb, 1, none⟩ = some (.string (bstr c.nm)) := HO.out.cv.cell 1
  have f1 := HO.out.ov.free 1
  have l1 := HO.out.ov.cell 1
  simp only [cmC, pcZ, List.getElem?_toArray, List.getElem?_cons_zero, List.getElem?_cons_succ] at l1
  have o1 : Blk (W.setCell ⟨ob, 1, none⟩ (.string (bstr c.nm))) ob (cmC ⟨c.kd, c.nm, [], 0, 0, ps0⟩ none 0 0).toArray 38 := (HO.out.ov).set 1 (.string (bstr c.nm))
  have p1 := (HO.out.rv).set_ne ob 1 (.string (bstr c.nm)) HO.out.n3
  have ro := cm_row (o1)
  have tr := cm_thr (p1)
  have hfin : Blk ((W.setCell ⟨ob, 1, none⟩ (.string (bstr c.nm))).setCells rb 0 (cmC ⟨c.kd, c.nm, [], 0, 0, ps0⟩ none 0 0)) rb (cmC ⟨c.kd, c.nm, [], 0, 0, ps0⟩ none 0 0).toArray 38 := cm_all (p1)
  have hst := ((HO.out.st).setCell (b := ob) (.inr HO.out.h2) 1 (.string (bstr c.nm))).setCells (b := rb) (.inr HO.out.h1) (cmC ⟨c.kd, c.nm, [], 0, 0, ps0⟩ none 0 0) 0
  have hoc : onlyC c = ⟨c.kd, c.nm, [], 0, 0, ps0⟩ := by
    unfold onlyC
    rw [HK.out]
    simp
  have HF := Lib.hid (show OnlyR c w (.returned (.agg (cmC ⟨c.kd, c.nm, [], 0, 0, ps0⟩ none 0 0).toArray)) ((W.setCell ⟨ob, 1, none⟩ (.string (bstr c.nm))).setCells rb 0 (cmC ⟨c.kd, c.nm, [], 0, 0, ps0⟩ none 0 0)) from by
    refine ⟨none, 0, ?_, ?_, hst⟩
    · rw [hoc]; rfl
    · rw [hoc]; intro i hi; simp [ps0] at hi)
  have HX := Lib.hid hfin
  clear hfin hst hoc o1 p1
  have HKI := Lib.hid (Int.natCast_nonneg 0)
  go_enter Try.func14, Try.ntmps14
  go_wp2_with (first | rw [H1.out.1, H1.out.2] | rw [H2.out.1, H2.out.2] | rw [HE.out, H3.out.1, H3.out.2])
  all_goals (refine bodyPost_ret (v := .agg (cmC ⟨c.kd, c.nm, [], 0, 0, ps0⟩ none 0 0).toArray) (results_cell_row rfl _ _ rb 38 _ (0, 0) _ rfl HX.out Try.underlying38 rfl (by kernel_rfl)) rfl HF.out)
set_option maxRecDepth 20000 in
set_option maxHeartbeats 2000000 in
theorem only_7 (c : PC) (a : Option Addr) (k : Nat) (w : World) (hk : c.kd = 7) (hn : a = none → c.sp.ds.length = 0 ∧ k = 0) (ha : TxS w a c.sp.ds) (hl : LitC c) :
    Calls Try.prog 14 #[.agg (cmC c a c.sp.ds.length k).toArray] w (OnlyR c w) := by
  obtain ⟨n, hnn⟩ : ∃ n, c.sp.ds.length = n := ⟨_, rfl⟩
  have HN := Lib.hid hnn
  rw [hnn]
  obtain ⟨W1, W2, W, cb, rb, ob, h1, h2, h3, t0, k0, hO⟩ := ok3_start c a n k w
  have H1 := Lib.hid h1
  have H2 := Lib.hid h2
  have H3 := Lib.hid h3
  have HO := Lib.hid hO
  have HA := Lib.hid (And.intro hn (And.intro ha hl))
  have HK := Lib.hid hk
  clear h1 h2 h3 hO hnn hn ha hl
  rw [hk] at k0
  have HE := Lib.hid (show cmC ⟨7, [], [], 0, 0, ps0⟩ none 0 0 = cmC ⟨c.kd, [], [], 0, 0, ps0⟩ none 0 0 by rw [hk])
  clear hk
  have j0 : W.cell? ⟨cb, 0, none⟩ = some (.int .i64 c.kd) := HO.out.cv.cell 0
  rw [HK.out] at j0
  have j1 : W.cell? ⟨cb, 1, none⟩ = some (.string (bstr c.nm)) := HO.out.cv.cell 1
  have f1 := HO.out.ov.free 1
  have l1 := HO.out.ov.cell 1
  simp only [cmC, pcZ, List.getElem?_toArray, List.getElem?_cons_zero, List.getElem?_cons_succ] at l1
  have o1 : Blk (W.setCell ⟨ob, 1, none⟩ (.string (bstr c.nm))) ob (cmC ⟨c.kd, c.nm, [], 0, 0, ps0⟩ none 0 0).toArray 38 := (HO.out.ov).set 1 (.string (bstr c.nm))
  have p1 := (HO.out.rv).set_ne ob 1 (.string (bstr c.nm)) HO.out.n3
  have ro := cm_row (o1)
  have tr := cm_thr (p1)
  have hfin : Blk ((W.setCell ⟨ob, 1, none⟩ (.string (bstr c.nm))).setCells rb 0 (cmC ⟨c.kd, c.nm, [], 0, 0, ps0⟩ none 0 0)) rb (cmC ⟨c.kd, c.nm, [], 0, 0, ps0⟩ none 0 0).toArray 38 := cm_all (p1)
  have hst := ((HO.out.st).setCell (b := ob) (.inr HO.out.h2) 1 (.string (bstr c.nm))).setCells (b := rb) (.inr HO.out.h1) (cmC ⟨c.kd, c.nm, [], 0, 0, ps0⟩ none 0 0) 0
  have hoc : onlyC c = ⟨c.kd, c.nm, [], 0, 0, ps0⟩ := by
    unfold onlyC
    rw [HK.out]
    simp
  have HF := Lib.hid (show OnlyR c w (.returned (.agg (cmC ⟨c.kd, c.nm, [], 0, 0, ps0⟩ none 0 0).toArray)) ((W.setCell ⟨ob, 1, none⟩ (.string (bstr c.nm))).setCells rb 0 (cmC ⟨c.kd, c.nm, [], 0, 0, ps0⟩ none 0 0)) from by
    refine ⟨none, 0, ?_, ?_, hst⟩
    · rw [hoc]; rfl
    · rw [hoc]; intro i hi; simp [ps0] at hi)
  have HX := Lib.hid hfin
  clear hfin hst hoc o1 p1
  have HKI := Lib.hid (Int.natCast_nonneg 0)
  go_enter Try.func14, Try.ntmps14
  go_wp2_with (first | rw [H1.out.1, H1.out.2] | rw [H2.out.1, H2.out.2] | rw [HE.out, H3.out.1, H3.out.2])
  all_goals (refine bodyPost_ret (v := .agg (cmC ⟨c.kd, c.nm, [], 0, 0, ps0⟩ none 0 0).toArray) (results_cell_row rfl _ _ rb 38 _ (0, 0) _ rfl HX.out Try.underlying38 rfl (by kernel_rfl)) rfl HF.out)
set_option maxRecDepth 20000 in
set_option maxHeartbeats 2000000 in
theorem only_8 (c : PC) (a : Option Addr) (k : Nat) (w : World) (hk : c.kd = 8) (hn : a = none → c.sp.ds.length = 0 ∧ k = 0) (ha : TxS w a c.sp.ds) (hl : LitC c) :
    Calls Try.prog 14 #[.agg (cmC c a c.sp.ds.length k).toArray] w (OnlyR c w) := by
  obtain ⟨n, hnn⟩ : ∃ n, c.sp.ds.length = n := ⟨_, rfl⟩
  have HN := Lib.hid hnn
  rw [hnn]
  obtain ⟨W1, W2, W, cb, rb, ob, h1, h2, h3, t0, k0, hO⟩ := ok3_start c a n k w
  have H1 := Lib.hid h1
  have H2 := Lib.hid h2
  have H3 := Lib.hid h3
  have HO := Lib.hid hO
  have HA := Lib.hid (And.intro hn (And.intro ha hl))
  have HK := Lib.hid hk
  clear h1 h2 h3 hO hnn hn ha hl
  rw [hk] at k0
  have HE := Lib.hid (show cmC ⟨8, [], [], 0, 0, ps0⟩ none 0 0 = cmC ⟨c.kd, [], [], 0, 0, ps0⟩ none 0 0 by rw [hk])
  clear hk
  have j0 : W.cell? ⟨cb, 0, none⟩ = some (.int .i64 c.kd) := HO.out.cv.cell 0
  rw [HK.out] at j0
  have j1 : W.cell? ⟨cb, 1, none⟩ = some (.string (bstr c.nm)) := HO.out.cv.cell 1
  have f1 := HO.out.ov.free 1
  have l1 := HO.out.ov.cell 1
  simp only [cmC, pcZ, List.getElem?_toArray, List.getElem?_cons_zero, List.getElem?_cons_succ] at l1
  have o1 : Blk (W.setCell ⟨ob, 1, none⟩ (.string (bstr c.nm))) ob (cmC ⟨c.kd, c.nm, [], 0, 0, ps0⟩ none 0 0).toArray 38 := (HO.out.ov).set 1 (.string (bstr c.nm))
  have p1 := (HO.out.rv).set_ne ob 1 (.string (bstr c.nm)) HO.out.n3
  have ro := cm_row (o1)
  have tr := cm_thr (p1)
  have hfin : Blk ((W.setCell ⟨ob, 1, none⟩ (.string (bstr c.nm))).setCells rb 0 (cmC ⟨c.kd, c.nm, [], 0, 0, ps0⟩ none 0 0)) rb (cmC ⟨c.kd, c.nm, [], 0, 0, ps0⟩ none 0 0).toArray 38 := cm_all (p1)
  have hst := ((HO.out.st).setCell (b := ob) (.inr HO.out.h2) 1 (.string (bstr c.nm))).setCells (b := rb) (.inr HO.out.h1) (cmC ⟨c.kd, c.nm, [], 0, 0, ps0⟩ none 0 0) 0
  have hoc : onlyC c = ⟨c.kd, c.nm, [], 0, 0, ps0⟩ := by
    unfold onlyC
    rw [HK.out]
    simp
  have HF := Lib.hid (show OnlyR c w (.returned (.agg (cmC ⟨c.kd, c.nm, [], 0, 0, ps0⟩ none 0 0).toArray)) ((W.setCell ⟨ob, 1, none⟩ (.string (bstr c.nm))).setCells rb 0 (cmC ⟨c.kd, c.nm, [], 0, 0, ps0⟩ none 0 0)) from by
    refine ⟨none, 0, ?_, ?_, hst⟩
    · rw [hoc]; rfl
    · rw [hoc]; intro i hi; simp [ps0] at hi)
  have HX := Lib.hid hfin
  clear hfin hst hoc o1 p1
  have HKI := Lib.hid (Int.natCast_nonneg 0)
  go_enter Try.func14, Try.ntmps14
  go_wp2_with (first | rw [H1.out.1, H1.out.2] | rw [H2.out.1, H2.out.2] | rw [HE.out, H3.out.1, H3.out.2])
  all_goals (refine bodyPost_ret (v := .agg (cmC ⟨c.kd, c.nm, [], 0, 0, ps0⟩ none 0 0).toArray) (results_cell_row rfl _ _ rb 38 _ (0, 0) _ rfl HX.out Try.underlying38 rfl (by kernel_rfl)) rfl HF.out)
set_option maxRecDepth 20000 in
set_option maxHeartbeats 2000000 in
theorem only_9 (c : PC) (a : Option Addr) (k : Nat) (w : World) (hk : c.kd = 9) (hn : a = none → c.sp.ds.length = 0 ∧ k = 0) (ha : TxS w a c.sp.ds) (hl : LitC c) :
    Calls Try.prog 14 #[.agg (cmC c a c.sp.ds.length k).toArray] w (OnlyR c w) := by
  obtain ⟨n, hnn⟩ : ∃ n, c.sp.ds.length = n := ⟨_, rfl⟩
  have HN := Lib.hid hnn
  rw [hnn]
  obtain ⟨W1, W2, W, cb, rb, ob, h1, h2, h3, t0, k0, hO⟩ := ok3_start c a n k w
  have H1 := Lib.hid h1
  have H2 := Lib.hid h2
  have H3 := Lib.hid h3
  have HO := Lib.hid hO
  have HA := Lib.hid (And.intro hn (And.intro ha hl))
  have HK := Lib.hid hk
  clear h1 h2 h3 hO hnn hn ha hl
  rw [hk] at k0
  have HE := Lib.hid (show cmC ⟨9, [], [], 0, 0, ps0⟩ none 0 0 = cmC ⟨c.kd, [], [], 0, 0, ps0⟩ none 0 0 by rw [hk])
  clear hk
  have j0 : W.cell? ⟨cb, 0, none⟩ = some (.int .i64 c.kd) := HO.out.cv.cell 0
  rw [HK.out] at j0
  have j4 : W.cell? ⟨cb, 4, none⟩ = some (.int .i64 c.vl) := HO.out.cv.cell 4
  have f4 := HO.out.ov.free 4
  have l4 := HO.out.ov.cell 4
  simp only [cmC, pcZ, List.getElem?_toArray, List.getElem?_cons_zero, List.getElem?_cons_succ] at l4
  have o4 : Blk (W.setCell ⟨ob, 4, none⟩ (.int .i64 c.vl)) ob (cmC ⟨c.kd, [], [], 0, c.vl, ps0⟩ none 0 0).toArray 38 := (HO.out.ov).set 4 (.int .i64 c.vl)
  have p4 := (HO.out.rv).set_ne ob 4 (.int .i64 c.vl) HO.out.n3
  have ro := cm_row (o4)
  have tr := cm_thr (p4)
  have hfin : Blk ((W.setCell ⟨ob, 4, none⟩ (.int .i64 c.vl)).setCells rb 0 (cmC ⟨c.kd, [], [], 0, c.vl, ps0⟩ none 0 0)) rb (cmC ⟨c.kd, [], [], 0, c.vl, ps0⟩ none 0 0).toArray 38 := cm_all (p4)
  have hst := ((HO.out.st).setCell (b := ob) (.inr HO.out.h2) 4 (.int .i64 c.vl)).setCells (b := rb) (.inr HO.out.h1) (cmC ⟨c.kd, [], [], 0, c.vl, ps0⟩ none 0 0) 0
  have hoc : onlyC c = ⟨c.kd, [], [], 0, c.vl, ps0⟩ := by
    unfold onlyC
    rw [HK.out]
    simp
  have HF := Lib.hid (show OnlyR c w (.returned (.agg (cmC ⟨c.kd, [], [], 0, c.vl, ps0⟩ none 0 0).toArray)) ((W.setCell ⟨ob, 4, none⟩ (.int .i64 c.vl)).setCells rb 0 (cmC ⟨c.kd, [], [], 0, c.vl, ps0⟩ none 0 0)) from by
    refine ⟨none, 0, ?_, ?_, hst⟩
    · rw [hoc]; rfl
    · rw [hoc]; intro i hi; simp [ps0] at hi)
  have HX := Lib.hid hfin
  clear hfin hst hoc o4 p4
  have HKI := Lib.hid (Int.natCast_nonneg 0)
  go_enter Try.func14, Try.ntmps14
  go_wp2_with (first | rw [H1.out.1, H1.out.2] | rw [H2.out.1, H2.out.2] | rw [HE.out, H3.out.1, H3.out.2])
  all_goals (refine bodyPost_ret (v := .agg (cmC ⟨c.kd, [], [], 0, c.vl, ps0⟩ none 0 0).toArray) (results_cell_row rfl _ _ rb 38 _ (0, 0) _ rfl HX.out Try.underlying38 rfl (by kernel_rfl)) rfl HF.out)
theorem only_any (c : PC) (a : Option Addr) (k : Nat) (w : World) (hk : okK c.kd) (hn : a = none → c.sp.ds.length = 0 ∧ k = 0) (ha : TxS w a c.sp.ds) (hl : LitC c) :
    Calls Try.prog 14 #[.agg (cmC c a c.sp.ds.length k).toArray] w (OnlyR c w) := by
  rcases kinds hk with h | h | h | h | h | h | h | h | h | h
  · exact only_0 c a k w h hn ha hl
  · exact only_1 c a k w h hn ha hl
  · exact only_2 c a k w h hn ha hl
  · exact only_3 c a k w h hn ha hl
  · exact only_4 c a k w h hn ha hl
  · exact only_5 c a k w h hn ha hl
  · exact only_6 c a k w h hn ha hl
  · exact only_7 c a k w h hn ha hl
  · exact only_8 c a k w h hn ha hl
  · exact only_9 c a k w h hn ha hl
end Go.Proofs.Ytdfkagpnfgmbeaa
