/- spec.Get of any bytes: what was there, if nothing is wrong. -/
import Derived.Test.YtdfkagpnfgmbeaaGetS
namespace Go.Proofs.Ytdfkagpnfgmbeaa
set_option linter.unusedVariables false
set_option linter.unusedSimpArgs false
open Go.RowKit
attribute [local go_sem ↓] exec_load_s exec_store_s
attribute [local go_sem] Try.load_s row_drew Try.store_s zeroS'

theorem Try.store_s0 (w : World) (b o : Nat) (ht : w.there b o 11) : (storeBig 36 (.pointer (some ⟨b, o, none⟩)) (.agg #[.string { data := #[] }, .string { data := #[] }, .int .i64 0, .int .i64 0, .slice none 0 0, .int .i64 0, .int .i64 0, .int .i64 0, .int .i64 0, .string { data := #[] }, .int .i64 0])).run Try.prog w = .ok () (w.setCells b o (spC ps0 none 0 0)) :=
  Try.store_s w b o ps0 none 0 0 ht
attribute [local go_sem] Try.store_s0
/-- a spec that is read: two variables of Get's own, the reader, what was there -/
structure Gk (w0 : World) (rb db : Nat) (l0 : List UInt8) (e0 : Int) (s : PS) (a : Option Addr) (c : Nat) (enc : List UInt8) (m : List UInt8) (e : Int) (w : World) : Prop where
  rd : Rd w rb db m e
  st : Step [rb] w0 w
  res : Blk w w0.heap.size (spC ps0 none 0 0).toArray 36
  blk : Blk w (w0.heap.size + 1) (spC s a s.ds.length c).toArray 36
  lt : rb < w0.heap.size
  ltd : 0 < l0.length → db < w0.heap.size
  ml : m.length ≤ l0.length
  bk : e = 0 → e0 = 0 ∧ l0 = enc ++ m
  tx : TxS w a s.ds
  nil : a = none → s.ds.length = 0 ∧ c = 0
  new : 0 < s.ds.length → ∀ b off, a = some ⟨b, off, none⟩ → w0.heap.size + 2 ≤ b
  wf : WfS s
  nm : s.nm.length ≤ 255
  tn : s.tn.length ≤ 255
  dl : s.ds.length ≤ 255
  dd : ∀ d ∈ s.ds, d.length ≤ 255
  cr : s.cr.length ≤ 255

section
variable {w0 : World} {rb db : Nat} {l0 : List UInt8} {e0 : Int} {s : PS} {a : Option Addr} {c : Nat} {enc m m' : List UInt8} {e e' : Int} {w w' : World}
/-- behind a reading -/
theorem Gk.read (h : Gk w0 rb db l0 e0 s a c enc m e w) (x : List UInt8) (hL : Left rb db m' e' w w') (hm : m'.length ≤ m.length) (hb : e' = 0 → e = 0 ∧ m = x ++ m') : Gk w0 rb db l0 e0 s a c (enc ++ x) m' e' w' where
  rd := hL.1
  st := h.st.then hL.2 (fun k hk => .inl hk)
  res := h.res.step hL.2 (by have := h.lt; simp; omega)
  blk := h.blk.step hL.2 (by have := h.lt; simp; omega)
  lt := h.lt
  ltd := h.ltd
  ml := Nat.le_trans hm h.ml
  bk := fun h1 => by
    obtain ⟨h2, h3⟩ := hb h1
    obtain ⟨h4, h5⟩ := h.bk h2
    exact ⟨h4, by rw [h5, h3, List.append_assoc]⟩
  tx := h.tx.step' hL.2 (fun hl b off ha => by have := h.new hl b off ha; have := h.lt; simp; omega)
  nil := h.nil
  new := h.new
  wf := h.wf
  nm := h.nm
  tn := h.tn
  dl := h.dl
  dd := h.dd
  cr := h.cr
/-- behind a store into the spec -/
theorem Gk.put (h : Gk w0 rb db l0 e0 s a c enc m e w) (i : Nat) (v : Value) (s' : PS) (hs : (spC s a s.ds.length c).toArray.setIfInBounds i v = (spC s' a s'.ds.length c).toArray) (hd : s'.ds = s.ds) (wf : WfS s') (nm : s'.nm.length ≤ 255) (tn : s'.tn.length ≤ 255) (cr : s'.cr.length ≤ 255) :
    Gk w0 rb db l0 e0 s' a c enc m e (w.setCell ⟨w0.heap.size + 1, i, none⟩ v) where
  rd := h.rd.stepM ((Step.refl [w0.heap.size + 1] _).setCell (.inl (by simp)) _ _) (by have := h.lt; simp; omega) (fun hl => by have := h.ltd (Nat.lt_of_lt_of_le hl h.ml); simp; omega)
  st := h.st.setCell (.inr (by omega)) _ _
  res := h.res.set_ne _ _ _ (by omega)
  blk := by
    have := h.blk.set i v
    rwa [hs] at this
  lt := h.lt
  ltd := h.ltd
  ml := h.ml
  bk := h.bk
  tx := by
    rw [hd]
    exact h.tx.step' ((Step.refl [w0.heap.size + 1] _).setCell (.inl (by simp)) _ _) (fun hl b off ha => by have := h.new hl b off ha; simp; omega)
  nil := by rw [hd]; exact h.nil
  new := by rw [hd]; exact h.new
  wf := wf
  nm := nm
  tn := tn
  dl := by rw [hd]; exact h.dl
  dd := by rw [hd]; exact h.dd
  cr := cr
/-- behind the store of the row -/
theorem Gk.row (h : Gk w0 rb db l0 e0 s none 0 enc m e w) (hds : s.ds = []) (ds : List (List UInt8)) (v : Value) (base : Nat) (hbase : w0.heap.size + 2 ≤ base) (hown : w.ownsRow base 9 1 v ds.length (ds.map txV)) (hl : ds.length ≤ 255) (hd : ∀ d ∈ ds, d.length ≤ 255) :
    ∃ a c, v = .slice a ds.length c ∧ Gk w0 rb db l0 e0 ⟨s.nm, s.tn, s.pr, s.de, ds, s.ba, s.ca, s.at', s.le, s.cr, s.ct⟩ a c enc m e (w.setCell ⟨w0.heap.size + 1, 4, none⟩ v) := by
  have hform : ∃ a c, v = .slice a ds.length c ∧ TxS w a ds ∧ (a = none → ds.length = 0 ∧ c = 0) ∧ ∀ b off, a = some ⟨b, off, none⟩ → base ≤ b := by
    rcases hown.2 with ⟨hv, h0⟩ | ⟨g, c', cur, hv, hg, -⟩
    · refine ⟨none, 0, by rw [hv, h0], fun i hi => by omega, fun _ => ⟨h0, rfl⟩, fun b off hb => (by cases hb)⟩
    · subst hv
      exact ⟨_, _, rfl, owns_txs hown, fun h => (by cases h), fun b off hb => (by cases hb; exact owns_base hown g (by simp [foot, Value.ownBlock]))⟩
  obtain ⟨a, c, rfl, ht, hn, hb⟩ := hform
  refine ⟨a, c, rfl, ?_⟩
  exact {
    rd := h.rd.stepM ((Step.refl [w0.heap.size + 1] _).setCell (.inl (by simp)) _ _) (by have := h.lt; simp; omega) (fun hl => by have := h.ltd (Nat.lt_of_lt_of_le hl h.ml); simp; omega)
    st := h.st.setCell (.inr (by omega)) _ _
    res := h.res.set_ne _ _ _ (by omega)
    blk := h.blk.set 4 _
    lt := h.lt
    ltd := h.ltd
    ml := h.ml
    bk := h.bk
    tx := ht.step' ((Step.refl [w0.heap.size + 1] _).setCell (.inl (by simp)) _ _) (fun hl b off ha => by have := hb b off ha; simp; omega)
    nil := hn
    new := fun _ b off ha => Nat.le_trans hbase (hb b off ha)
    wf := ⟨h.wf.pr, h.wf.de, h.wf.ba, h.wf.ca, h.wf.at', h.wf.le, h.wf.ct⟩
    nm := h.nm
    tn := h.tn
    dl := hl
    dd := hd
    cr := h.cr }
end

theorem blk2s (w : World) (C D : Array Value) (T : TypeId) : Blk ((w.alloc (.cells C T)).alloc (.cells D T)) w.heap.size C T ∧ Blk ((w.alloc (.cells C T)).alloc (.cells D T)) (w.heap.size + 1) D T ∧ Step [] w ((w.alloc (.cells C T)).alloc (.cells D T)) := by
  refine ⟨(Blk.new w C T).alloc _, ?_, ((Step.refl [] w).alloc _).alloc _⟩
  have := Blk.new (w.alloc (.cells C T)) D T
  rwa [World.size_alloc] at this
/-- what reading a spec leaves -/
def SpecRd (rb db : Nat) (l : List UInt8) (e : Int) (w : World) (en : Ending) (w' : World) : Prop :=
  ∃ (s : PS) (a : Option Addr) (c : Nat) (m : List UInt8) (e1 : Int), en = .returned (.agg (spC s a s.ds.length c).toArray) ∧ Left rb db m e1 w w' ∧ m.length ≤ l.length ∧ TxS w' a s.ds ∧ (a = none → s.ds.length = 0 ∧ c = 0) ∧ (0 < s.ds.length → ∀ b off, a = some ⟨b, off, none⟩ → w.heap.size ≤ b) ∧ LitS s ∧ WfS s ∧ (e1 = 0 → e = 0 ∧ l = bytesS s ++ m)

theorem I64_zero : I64 0 := by unfold I64; omega
theorem WfS_zero : WfS ps0 := ⟨I64_zero, I64_zero, I64_zero, I64_zero, I64_zero, I64_zero, I64_zero⟩
theorem LitS_zero : LitS ps0 := ⟨by simp [ps0], by simp [ps0], by simp [ps0], fun d hd => by simp [ps0] at hd, by simp [ps0]⟩

set_option maxRecDepth 20000 in
set_option maxHeartbeats 4000000 in
theorem sget_rel (rb db : Nat) (l : List UInt8) (e : Int) (w : World) (h : Rd w rb db l e) :
    Calls Try.prog 41 #[.pointer (some ⟨rb, 0, none⟩)] w (SpecRd rb db l e w) := by
  obtain ⟨hb1, hb2, hst⟩ := blk2s w (spC ps0 none 0 0).toArray (spC ps0 none 0 0).toArray 36
  have hlt := h.lts'
  have hG : Gk w rb db l e ps0 none 0 [] l e ((w.alloc (.cells (spC ps0 none 0 0).toArray 36)).alloc (.cells (spC ps0 none 0 0).toArray 36)) :=
    { rd := h.step hst (by simp) (by simp), st := hst.mono (by simp), res := hb1, blk := hb2, lt := hlt.1, ltd := hlt.2, ml := Nat.le_refl _, bk := fun h => ⟨h, rfl⟩, tx := fun i hi => by simp [ps0] at hi, nil := fun _ => ⟨rfl, rfl⟩, new := fun h => by simp [ps0] at h, wf := WfS_zero, nm := by simp [ps0], tn := by simp [ps0], dl := by simp [ps0], dd := fun d hd => by simp [ps0] at hd, cr := by simp [ps0] }
  obtain ⟨W, hW⟩ : ∃ W, (w.alloc (.cells (spC ps0 none 0 0).toArray 36)).alloc (.cells (spC ps0 none 0 0).toArray 36) = W := ⟨_, rfl⟩
  rw [hW] at hG
  have hwsz : W.heap.size = w.heap.size + 2 := by rw [← hW, World.size_alloc, World.size_alloc]
  have HW := Lib.hid (show (w.alloc (.cells #[.string { data := #[] }, .string { data := #[] }, .int .i64 0, .int .i64 0, .slice none 0 0, .int .i64 0, .int .i64 0, .int .i64 0, .int .i64 0, .string { data := #[] }, .int .i64 0] 36)).alloc (.cells #[.string { data := #[] }, .string { data := #[] }, .int .i64 0, .int .i64 0, .slice none 0 0, .int .i64 0, .int .i64 0, .int .i64 0, .int .i64 0, .string { data := #[] }, .int .i64 0] 36) = W from hW)
  have HG := Lib.hid hG
  have HZ := Lib.hid hwsz
  clear hW hb1 hb2 hst hG hlt h hwsz
  go_enter Try.func41, Try.ntmps41
  go_wp2_with (rw [HW.out])
  refine (stext_rel rb db _ _ _ HG.out.rd).mono ?_
  rintro en w1 ⟨x1, m1, e1, rfl, hL, hm, hl1, hb⟩
  have hG := HG.out.read (txtB x1) hL hm hb
  have HX1 := Lib.hid hl1
  clear HG hL hm hb hl1
  have HG := Lib.hid hG
  clear hG
  go_wp2_with fail
  refine (stext_rel rb db _ _ _ HG.out.rd).mono ?_
  rintro en w2 ⟨x2, m2, e2, rfl, hL, hm, hl2, hb⟩
  have hG := HG.out.read (txtB x2) hL hm hb
  have HX2 := Lib.hid hl2
  clear HG hL hm hb hl2
  have HG := Lib.hid hG
  have hlt := HG.out.blk.lt
  have hne := Nat.ne_of_gt (Nat.lt_succ_self w.heap.size)
  have f0 := HG.out.blk.free 0
  have k0 := HG.out.blk.cell 0
  simp only [spC, List.getElem?_toArray, List.getElem?_cons_zero, List.getElem?_cons_succ] at k0
  have f1 := HG.out.blk.free 1
  have k1 := HG.out.blk.cell 1
  simp only [spC, List.getElem?_toArray, List.getElem?_cons_zero, List.getElem?_cons_succ] at k1
  clear hG
  have hG := HG.out.put 0 (.string (bstr x1)) ⟨x1, [], 0, 0, [], 0, 0, 0, 0, [], 0⟩ rfl rfl ⟨I64_zero, I64_zero, I64_zero, I64_zero, I64_zero, I64_zero, I64_zero⟩ (HX1.out) (Nat.zero_le _) (Nat.zero_le _)
  have hG := hG.put 1 (.string (bstr x2)) ⟨x1, x2, 0, 0, [], 0, 0, 0, 0, [], 0⟩ rfl rfl ⟨I64_zero, I64_zero, I64_zero, I64_zero, I64_zero, I64_zero, I64_zero⟩ (HX1.out) (HX2.out) (Nat.zero_le _)
  clear HG
  have HG := Lib.hid hG
  clear hG
  go_wp2_with fail
  clear f0 k0
  clear f1 k1
  clear hlt hne
  refine (rint_rel rb db _ _ _ HG.out.rd).mono ?_
  rintro en w3 ⟨x3, m3, e3, rfl, hL, hm, hl3, hb⟩
  have hG := HG.out.read (intB x3) hL hm hb
  have HX3 := Lib.hid hl3
  clear HG hL hm hb hl3
  have HG := Lib.hid hG
  clear hG
  go_wp2_with fail
  refine (rint_rel rb db _ _ _ HG.out.rd).mono ?_
  rintro en w4 ⟨x4, m4, e4, rfl, hL, hm, hl4, hb⟩
  have hG := HG.out.read (intB x4) hL hm hb
  have HX4 := Lib.hid hl4
  clear HG hL hm hb hl4
  have HG := Lib.hid hG
  have hlt := HG.out.blk.lt
  have hne := Nat.ne_of_gt (Nat.lt_succ_self w.heap.size)
  have f2 := HG.out.blk.free 2
  have k2 := HG.out.blk.cell 2
  simp only [spC, List.getElem?_toArray, List.getElem?_cons_zero, List.getElem?_cons_succ] at k2
  have f3 := HG.out.blk.free 3
  have k3 := HG.out.blk.cell 3
  simp only [spC, List.getElem?_toArray, List.getElem?_cons_zero, List.getElem?_cons_succ] at k3
  clear hG
  have hG := HG.out.put 2 (.int .i64 x3) ⟨x1, x2, x3, 0, [], 0, 0, 0, 0, [], 0⟩ rfl rfl ⟨HX3.out, I64_zero, I64_zero, I64_zero, I64_zero, I64_zero, I64_zero⟩ (HX1.out) (HX2.out) (Nat.zero_le _)
  have hG := hG.put 3 (.int .i64 x4) ⟨x1, x2, x3, x4, [], 0, 0, 0, 0, [], 0⟩ rfl rfl ⟨HX3.out, HX4.out, I64_zero, I64_zero, I64_zero, I64_zero, I64_zero⟩ (HX1.out) (HX2.out) (Nat.zero_le _)
  clear HG
  have HG := Lib.hid hG
  clear hG
  go_wp2_with fail
  clear f2 k2
  clear f3 k3
  clear hlt hne
  refine (gets_rel rb db _ _ _ HG.out.rd).mono ?_
  have hsz5 := HG.out.blk.lt
  have HSZ5 := Lib.hid hsz5
  clear hsz5
  rintro en w5 ⟨x5, m5, e5, v5, rfl, hown, hL, hm, hl5, hdd, hb⟩
  have hG := HG.out.read (numB x5.length ++ depsS x5) hL hm (fun h => ⟨(hb h).1, by rw [List.append_assoc]; exact (hb h).2⟩)
  have HOWN := Lib.hid hown
  have HDD := Lib.hid hdd
  clear hown hdd
  have HX5 := Lib.hid hl5
  clear HG hL hm hb hl5
  have HG := Lib.hid hG
  have hlt := HG.out.blk.lt
  have hne := Nat.ne_of_gt (Nat.lt_succ_self w.heap.size)
  have f4 := HG.out.blk.free 4
  have k4 := HG.out.blk.cell 4
  simp only [spC, List.getElem?_toArray, List.getElem?_cons_zero, List.getElem?_cons_succ] at k4
  clear hG
  obtain ⟨a5, c5, rfl, hG⟩ := HG.out.row rfl x5 v5 _ (by have := HSZ5.out; omega) HOWN.out HX5.out HDD.out
  clear HG
  have HG := Lib.hid hG
  clear hG
  go_wp2_with fail
  clear f4 k4
  clear hlt hne
  refine (rint_rel rb db _ _ _ HG.out.rd).mono ?_
  rintro en w6 ⟨x6, m6, e6, rfl, hL, hm, hl6, hb⟩
  have hG := HG.out.read (intB x6) hL hm hb
  have HX6 := Lib.hid hl6
  clear HG hL hm hb hl6
  have HG := Lib.hid hG
  clear hG
  go_wp2_with fail
  refine (rint_rel rb db _ _ _ HG.out.rd).mono ?_
  rintro en w7 ⟨x7, m7, e7, rfl, hL, hm, hl7, hb⟩
  have hG := HG.out.read (intB x7) hL hm hb
  have HX7 := Lib.hid hl7
  clear HG hL hm hb hl7
  have HG := Lib.hid hG
  have hlt := HG.out.blk.lt
  have hne := Nat.ne_of_gt (Nat.lt_succ_self w.heap.size)
  have f5 := HG.out.blk.free 5
  have k5 := HG.out.blk.cell 5
  simp only [spC, List.getElem?_toArray, List.getElem?_cons_zero, List.getElem?_cons_succ] at k5
  have f6 := HG.out.blk.free 6
  have k6 := HG.out.blk.cell 6
  simp only [spC, List.getElem?_toArray, List.getElem?_cons_zero, List.getElem?_cons_succ] at k6
  clear hG
  have hG := HG.out.put 5 (.int .i64 x6) ⟨x1, x2, x3, x4, x5, x6, 0, 0, 0, [], 0⟩ rfl rfl ⟨HX3.out, HX4.out, HX6.out, I64_zero, I64_zero, I64_zero, I64_zero⟩ (HX1.out) (HX2.out) (Nat.zero_le _)
  have hG := hG.put 6 (.int .i64 x7) ⟨x1, x2, x3, x4, x5, x6, x7, 0, 0, [], 0⟩ rfl rfl ⟨HX3.out, HX4.out, HX6.out, HX7.out, I64_zero, I64_zero, I64_zero⟩ (HX1.out) (HX2.out) (Nat.zero_le _)
  clear HG
  have HG := Lib.hid hG
  clear hG
  go_wp2_with fail
  clear f5 k5
  clear f6 k6
  clear hlt hne
  refine (rint_rel rb db _ _ _ HG.out.rd).mono ?_
  rintro en w8 ⟨x8, m8, e8, rfl, hL, hm, hl8, hb⟩
  have hG := HG.out.read (intB x8) hL hm hb
  have HX8 := Lib.hid hl8
  clear HG hL hm hb hl8
  have HG := Lib.hid hG
  clear hG
  go_wp2_with fail
  refine (rint_rel rb db _ _ _ HG.out.rd).mono ?_
  rintro en w9 ⟨x9, m9, e9, rfl, hL, hm, hl9, hb⟩
  have hG := HG.out.read (intB x9) hL hm hb
  have HX9 := Lib.hid hl9
  clear HG hL hm hb hl9
  have HG := Lib.hid hG
  have hlt := HG.out.blk.lt
  have hne := Nat.ne_of_gt (Nat.lt_succ_self w.heap.size)
  have f7 := HG.out.blk.free 7
  have k7 := HG.out.blk.cell 7
  simp only [spC, List.getElem?_toArray, List.getElem?_cons_zero, List.getElem?_cons_succ] at k7
  have f8 := HG.out.blk.free 8
  have k8 := HG.out.blk.cell 8
  simp only [spC, List.getElem?_toArray, List.getElem?_cons_zero, List.getElem?_cons_succ] at k8
  clear hG
  have hG := HG.out.put 7 (.int .i64 x8) ⟨x1, x2, x3, x4, x5, x6, x7, x8, 0, [], 0⟩ rfl rfl ⟨HX3.out, HX4.out, HX6.out, HX7.out, HX8.out, I64_zero, I64_zero⟩ (HX1.out) (HX2.out) (Nat.zero_le _)
  have hG := hG.put 8 (.int .i64 x9) ⟨x1, x2, x3, x4, x5, x6, x7, x8, x9, [], 0⟩ rfl rfl ⟨HX3.out, HX4.out, HX6.out, HX7.out, HX8.out, HX9.out, I64_zero⟩ (HX1.out) (HX2.out) (Nat.zero_le _)
  clear HG
  have HG := Lib.hid hG
  clear hG
  go_wp2_with fail
  clear f7 k7
  clear f8 k8
  clear hlt hne
  refine (stext_rel rb db _ _ _ HG.out.rd).mono ?_
  rintro en w10 ⟨x10, m10, e10, rfl, hL, hm, hl10, hb⟩
  have hG := HG.out.read (txtB x10) hL hm hb
  have HX10 := Lib.hid hl10
  clear HG hL hm hb hl10
  have HG := Lib.hid hG
  clear hG
  go_wp2_with fail
  refine (rint_rel rb db _ _ _ HG.out.rd).mono ?_
  rintro en w11 ⟨x11, m11, e11, rfl, hL, hm, hl11, hb⟩
  have hG := HG.out.read (intB x11) hL hm hb
  have HX11 := Lib.hid hl11
  clear HG hL hm hb hl11
  have HG := Lib.hid hG
  have hlt := HG.out.blk.lt
  have hne := Nat.ne_of_gt (Nat.lt_succ_self w.heap.size)
  have f9 := HG.out.blk.free 9
  have k9 := HG.out.blk.cell 9
  simp only [spC, List.getElem?_toArray, List.getElem?_cons_zero, List.getElem?_cons_succ] at k9
  have f10 := HG.out.blk.free 10
  have k10 := HG.out.blk.cell 10
  simp only [spC, List.getElem?_toArray, List.getElem?_cons_zero, List.getElem?_cons_succ] at k10
  clear hG
  have hG := HG.out.put 9 (.string (bstr x10)) ⟨x1, x2, x3, x4, x5, x6, x7, x8, x9, x10, 0⟩ rfl rfl ⟨HX3.out, HX4.out, HX6.out, HX7.out, HX8.out, HX9.out, I64_zero⟩ (HX1.out) (HX2.out) (HX10.out)
  have hG := hG.put 10 (.int .i64 x11) ⟨x1, x2, x3, x4, x5, x6, x7, x8, x9, x10, x11⟩ rfl rfl ⟨HX3.out, HX4.out, HX6.out, HX7.out, HX8.out, HX9.out, HX11.out⟩ (HX1.out) (HX2.out) (HX10.out)
  clear HG
  have HG := Lib.hid hG
  clear hG
  go_wp2_with fail
  clear f9 k9
  clear f10 k10
  clear hlt hne
  obtain ⟨V, hV⟩ : ∃ V, (w11.setCell ⟨w.heap.size + 1, 9, none⟩ (.string (bstr x10))).setCell ⟨w.heap.size + 1, 10, none⟩ (.int .i64 x11) = V := ⟨_, rfl⟩
  rw [hV] at HG ⊢
  have HV := Lib.hid hV
  clear hV
  refine (rerr_any rb db _ _ _ HG.out.rd).mono ?_
  rintro en w14 ⟨rfl, rfl⟩
  obtain ⟨S, hS⟩ : ∃ S, (⟨x1, x2, x3, x4, x5, x6, x7, x8, x9, x10, x11⟩ : PS) = S := ⟨_, rfl⟩
  have hdS : S.ds = x5 := by rw [← hS]
  rw [hS] at HG
  have HS := Lib.hid (And.intro hS hdS)
  clear hS hdS
  obtain ⟨b, hb⟩ : ∃ b, w.heap.size = b := ⟨_, rfl⟩
  have hB1 := HG.out.res
  have hB2 := HG.out.blk
  have HB := Lib.hid hb
  rw [hb] at hB1 hB2 ⊢
  have q1 := sp_there hB1
  by_cases he : ¬ e11 = 0
  · have p1 : (e11 != 0) = true := by simpa using he
    have p2 : (e11 == 0) = false := by simpa using he
    have HNE := Lib.hid he
    have hfin : Blk (V.setCells b 0 (spC ps0 none 0 0)) b (spC ps0 none 0 0).toArray 36 := sp_set hB1
    have hst : Step [rb] w (V.setCells b 0 (spC ps0 none 0 0)) := HG.out.st.setCells (.inr (by omega)) _ _
    have hrd := HG.out.rd.stepM (F := [b]) ((Step.refl [b] V).setCells (b := b) (.inl (by simp)) (spC ps0 none 0 0) 0) (by have := HG.out.lt; simp; omega) (fun hl => by have := HG.out.ltd (Nat.lt_of_lt_of_le hl HG.out.ml); simp; omega)
    have HF := Lib.hid (show SpecRd rb db l e w (.returned (.agg (spC ps0 none 0 0).toArray)) (V.setCells b 0 (spC ps0 none 0 0)) from ⟨ps0, none, 0, m11, e11, rfl, ⟨hrd, hst⟩, HG.out.ml, fun i hi => by simp [ps0] at hi, fun _ => ⟨rfl, rfl⟩, fun h => by simp [ps0] at h, LitS_zero, WfS_zero, fun h => absurd h HNE.out⟩)
    have HX := Lib.hid hfin
    clear hfin hst hrd hB1 hB2 hb he
    go_wp2_with fail
    refine bodyPost_ret (v := .agg (spC ps0 none 0 0).toArray) (results_cell_row rfl _ _ b 36 _ (0, 0) _ rfl HX.out Try.underlying36 rfl (by kernel_rfl)) rfl HF.out
  replace he : e11 = 0 := Decidable.not_not.1 he
  subst he
  have q2 := sp_row hB2
  have hfin : Blk (V.setCells b 0 (spC S a5 S.ds.length c5)) b (spC S a5 S.ds.length c5).toArray 36 := sp_set hB1
  have hst : Step [rb] w (V.setCells b 0 (spC S a5 S.ds.length c5)) := HG.out.st.setCells (.inr (by omega)) _ _
  have hrd := HG.out.rd.stepM (F := [b]) ((Step.refl [b] V).setCells (b := b) (.inl (by simp)) (spC S a5 S.ds.length c5) 0) (by have := HG.out.lt; simp; omega) (fun hl => by have := HG.out.ltd (Nat.lt_of_lt_of_le hl HG.out.ml); simp; omega)
  have htx := HG.out.tx.step' ((Step.refl [b] V).setCells (b := b) (.inl (by simp)) (spC S a5 S.ds.length c5) 0) (fun hl b' off ha => by have := HG.out.new hl b' off ha; simp; omega)
  have hby : l = bytesS S ++ m11 := by
    have := (HG.out.bk rfl).2
    rw [this, ← HS.out.1]
    unfold bytesS headS tailS
    simp only [List.append_assoc, List.nil_append]
  have HF := Lib.hid (show SpecRd rb db l e w (.returned (.agg (spC S a5 S.ds.length c5).toArray)) (V.setCells b 0 (spC S a5 S.ds.length c5)) from ⟨S, a5, c5, m11, 0, rfl, ⟨hrd, hst⟩, HG.out.ml, htx, HG.out.nil, fun hl b' off ha => by have := HG.out.new hl b' off ha; omega, ⟨Nat.le_trans HG.out.nm (by decide), Nat.le_trans HG.out.tn (by decide), Nat.le_trans HG.out.dl (by decide), fun d hd => Nat.le_trans (HG.out.dd d hd) (by decide), Nat.le_trans HG.out.cr (by decide)⟩, HG.out.wf, fun _ => ⟨(HG.out.bk rfl).1, hby⟩⟩)
  have HX := Lib.hid hfin
  clear hfin hst hrd htx hby hB1 hB2 hb
  go_wp2_with fail
  refine bodyPost_ret (v := .agg (spC S a5 S.ds.length c5).toArray) (results_cell_row rfl _ _ b 36 _ (0, 0) _ rfl HX.out Try.underlying36 rfl (by kernel_rfl)) rfl HF.out
end Go.Proofs.Ytdfkagpnfgmbeaa
