/- command.coder.fields that writes. -/
import Derived.Test.YtdfkagpnfgmbeaaCoder
import Derived.Test.YtdfkagpnfgmbeaaCmdP
namespace Go.Proofs.Ytdfkagpnfgmbeaa
set_option linter.unusedVariables false
set_option linter.unusedSimpArgs false
open Go.RowKit
attribute [local go_sem ↓] exec_load_s exec_store_s
attribute [local go_sem] Try.load_s row_drew Try.store_s

theorem anti_tailF {P : Program} {ops : Array Oper} {Q : Exit → Act → World → Prop} {l : List Oper} {G : World → World → Prop} {W0 : World} (a : Act) (F F' : World → Prop) (h : ∀ w, F' w → F w)
    (hQ : ∀ w', G W0 w' → F w' → wpList P ops Q l a w') : ∀ w', G W0 w' → F' w' → wpList P ops Q l a w' := fun w' hg hf => hQ w' hg (h w' hf)
theorem rq_sp {w : World} {xb : Nat} {q : PQ} {a : Option Addr} {n k : Nat} {T : TypeId} (h : Blk w xb (rqC q a n k).toArray T) : rowC w xb 7 11 = some (spC q.c.sp a n k) :=
  row_of_range w xb (spC q.c.sp a n k) 7 (fun j v hv => by
    rw [h.cell (7 + j)]
    have : (rqC q a n k).toArray[7 + j]? = (spC q.c.sp a n k)[j]? := by
      rw [List.getElem?_toArray]
      show (rqC q a n k)[7 + j]? = _
      rw [show 7 + j = j + 7 by omega]
      rfl
    rw [this]
    exact hv)
theorem rq_there {w : World} {xb : Nat} {q : PQ} {a : Option Addr} {n k : Nat} {T : TypeId} (h : Blk w xb (rqC q a n k).toArray T) : w.there xb 7 11 := h.there (o := 7) (n := 11) (Nat.le_refl 18)
/-- what fields keeps: the coder's block, the request's -/
structure Fk (w0 : World) (base pb : Nat) (v0 : Value) (B : Nat) (C : Array Value) (T : TypeId) (xb : Nat) (D : Array Value) (T2 : TypeId) (n : Nat) (v : Value) (bs : List UInt8) (w : World) : Prop where
  wr : Wr w base pb v bs
  st : Step (pb :: foot v0) w0 w
  fr : Fresh w0 (foot v0) (foot v)
  blk : Blk w B C T
  ap : B ∉ pb :: foot v
  blk2 : Blk w xb D T2
  ap2 : xb ∉ pb :: foot v
  len : bs.length ≤ n
theorem Fk.next {w0 : World} {base pb : Nat} {v0 : Value} {B : Nat} {C : Array Value} {T : TypeId} {xb : Nat} {D : Array Value} {T2 : TypeId} {n : Nat} {v : Value} {bs : List UInt8} {w : World} (h : Fk w0 base pb v0 B C T xb D T2 n v bs w) {x : List UInt8} {m : Nat} (hx : x.length ≤ m) {e : Ending} {w1 w' : World} (hw1 : Step [] w w1) (he : Wrote base pb v (bs ++ x) w1 e w') :
    e = .returned (.tuple #[]) ∧ ∃ v', Fk w0 base pb v0 B C T xb D T2 (n + m) v' (bs ++ x) w' := by
  have he := Wrote.pre hw1 he
  obtain ⟨h1, v', h2, h3, h4, h5, h6⟩ := he.next h.st h.fr
  have hap : ∀ b, b < w.heap.size → b ∉ pb :: foot v → b ∉ pb :: foot v' := fun b hb hn hm => by
    rcases List.mem_cons.1 hm with rfl | hm
    · exact hn List.mem_cons_self
    · rcases h6 _ hm with h7 | h7
      · exact hn (List.mem_cons_of_mem _ h7)
      · omega
  exact ⟨h1, v', h2, h3, h4, h.blk.step h5 h.ap, hap _ h.blk.lt h.ap, h.blk2.step h5 h.ap2, hap _ h.blk2.lt h.ap2, by rw [List.length_append]; have := h.len; omega⟩
theorem Fk.wrote {w0 : World} {base pb : Nat} {v0 : Value} {B : Nat} {C : Array Value} {T : TypeId} {xb : Nat} {D : Array Value} {T2 : TypeId} {n : Nat} {v : Value} {bs : List UInt8} {w : World} (h : Fk w0 base pb v0 B C T xb D T2 n v bs w) : Wrote base pb v0 bs w0 (.returned (.tuple #[])) w :=
  ⟨rfl, v, h.wr, h.st, h.fr⟩

set_option maxRecDepth 20000 in
theorem fk_new (w0 : World) (base pb : Nat) (v : Value) (bs : List UInt8) (q : PQ) (a : Option Addr) (k : Nat) (xb : Nat) (w : World) (hW : Wr w base pb v bs) (h0 : w0.heap.size ≤ base) (hs : Step [] w0 w) (ha : TxS w0 a q.c.sp.ds)
    (hB : Blk w xb (rqC q a q.c.sp.ds.length k).toArray 40) (hap : xb ∉ pb :: foot v) (hl : LitC q.c) (hw : WfC q.c) (hbl : bs.length ≤ 1000) :
    ∃ W cb, w.alloc (.cells #[.pointer (some ⟨pb, 0, none⟩), .pointer none] 68) = W ∧ w.heap.size = cb ∧ Step [] w0 W ∧ Fk w base pb v cb #[.pointer (some ⟨pb, 0, none⟩), .pointer none] 68 xb (rqC q a q.c.sp.ds.length k).toArray 40 1000 v bs W := by
  have hb := (Blk.new w #[.pointer (some ⟨pb, 0, none⟩), .pointer none] 68)
  have hst := ((Step.refl [] w).alloc (.cells #[.pointer (some ⟨pb, 0, none⟩), .pointer none] 68))
  have hap0 : w.heap.size ∉ pb :: foot v := fun hm => by
    rcases List.mem_cons.1 hm with h | hm
    · have := hW.blk.lt; omega
    · have := owns_live hW.own _ hm; omega
  exact ⟨_, _, rfl, rfl, hs.then hst (by simp), hW.step hst (by simp) (by simp), hst.mono (by simp), fun k hk => .inl hk, hb, hap0, hB.step hst (by simp), hap, hbl⟩

set_option maxRecDepth 20000 in
set_option maxHeartbeats 4000000 in
theorem fields_w0 (w0 : World) (base pb : Nat) (v : Value) (bs : List UInt8) (q : PQ) (a : Option Addr) (k : Nat) (xb : Nat) (w : World) (hW : Wr w base pb v bs) (h0 : w0.heap.size ≤ base) (hs : Step [] w0 w) (ha : TxS w0 a q.c.sp.ds)
    (hB : Blk w xb (rqC q a q.c.sp.ds.length k).toArray 40) (hap : xb ∉ pb :: foot v) (hl : LitC q.c) (hw : WfC q.c) (hbl : bs.length ≤ 1000) (hk : q.c.kd = 0) :
    Calls Try.prog 31 #[cdW pb, .pointer (some ⟨xb, 2, none⟩)] w (Wrote base pb v (bs ++ fieldsB q.c) w) := by
  obtain ⟨W, cb, hWW, hcb, hsW, hF⟩ := fk_new w0 base pb v bs q a k xb w hW h0 hs ha hB hap hl hw hbl
  have hfB : fieldsB q.c = [] := by
    unfold fieldsB
    rw [hk]
    simp
  have HFB := Lib.hid hfB
  have HWW := Lib.hid (And.intro hWW hcb)
  have HF := Lib.hid hF
  have HX := Lib.hid (And.intro hl hw)
  have HK := Lib.hid hk
  have HT := Lib.hid (And.intro h0 (And.intro hsW ha))
  clear hfB hWW hcb hsW hF hW hs ha hB hap hl hw hbl h0 hk
  obtain ⟨n, hn⟩ : ∃ n, q.c.sp.ds.length = n := ⟨_, rfl⟩
  have HN := Lib.hid hn
  rw [hn] at HF
  clear hn
  have c2 : W.cell? ⟨xb, 2, none⟩ = some (.int .i64 q.c.kd) := HF.out.blk2.cell 2
  rw [HK.out] at c2
  have c3 : W.cell? ⟨xb, 3, none⟩ = some (.string (bstr q.c.nm)) := HF.out.blk2.cell 3
  have c4 : W.cell? ⟨xb, 4, none⟩ = some (.string (bstr q.c.wk)) := HF.out.blk2.cell 4
  have c5 : W.cell? ⟨xb, 5, none⟩ = some (.int .u64 q.c.tk) := HF.out.blk2.cell 5
  have c6 : W.cell? ⟨xb, 6, none⟩ = some (.int .i64 q.c.vl) := HF.out.blk2.cell 6
  have c7 := rq_sp HF.out.blk2
  have d0 : W.cell? ⟨cb, 0, none⟩ = some (.pointer (some ⟨pb, 0, none⟩)) := HF.out.blk.cell 0
  have d1 : W.cell? ⟨cb, 1, none⟩ = some (.pointer none) := HF.out.blk.cell 1
  have HLT := Lib.hid HF.out.blk2.lt
  unfold cdW
  go_enter Try.func31, Try.ntmps31
  go_wp2_with (rw [HWW.out.1, HWW.out.2])
  go_end0
  rw [HFB.out, List.append_nil]
  exact HF.out.wrote
set_option maxRecDepth 20000 in
set_option maxHeartbeats 4000000 in
theorem fields_w1 (w0 : World) (base pb : Nat) (v : Value) (bs : List UInt8) (q : PQ) (a : Option Addr) (k : Nat) (xb : Nat) (w : World) (hW : Wr w base pb v bs) (h0 : w0.heap.size ≤ base) (hs : Step [] w0 w) (ha : TxS w0 a q.c.sp.ds)
    (hB : Blk w xb (rqC q a q.c.sp.ds.length k).toArray 40) (hap : xb ∉ pb :: foot v) (hl : LitC q.c) (hw : WfC q.c) (hbl : bs.length ≤ 1000) (hk : q.c.kd = 1) :
    Calls Try.prog 31 #[cdW pb, .pointer (some ⟨xb, 2, none⟩)] w (Wrote base pb v (bs ++ fieldsB q.c) w) := by
  obtain ⟨W, cb, hWW, hcb, hsW, hF⟩ := fk_new w0 base pb v bs q a k xb w hW h0 hs ha hB hap hl hw hbl
  have hfB : fieldsB q.c = bytesS q.c.sp := by
    unfold fieldsB
    rw [hk]
    simp
  have HFB := Lib.hid hfB
  have HWW := Lib.hid (And.intro hWW hcb)
  have HF := Lib.hid hF
  have HX := Lib.hid (And.intro hl hw)
  have HK := Lib.hid hk
  have HT := Lib.hid (And.intro h0 (And.intro hsW ha))
  clear hfB hWW hcb hsW hF hW hs ha hB hap hl hw hbl h0 hk
  obtain ⟨n, hn⟩ : ∃ n, q.c.sp.ds.length = n := ⟨_, rfl⟩
  have HN := Lib.hid hn
  rw [hn] at HF
  clear hn
  have c2 : W.cell? ⟨xb, 2, none⟩ = some (.int .i64 q.c.kd) := HF.out.blk2.cell 2
  rw [HK.out] at c2
  have c3 : W.cell? ⟨xb, 3, none⟩ = some (.string (bstr q.c.nm)) := HF.out.blk2.cell 3
  have c4 : W.cell? ⟨xb, 4, none⟩ = some (.string (bstr q.c.wk)) := HF.out.blk2.cell 4
  have c5 : W.cell? ⟨xb, 5, none⟩ = some (.int .u64 q.c.tk) := HF.out.blk2.cell 5
  have c6 : W.cell? ⟨xb, 6, none⟩ = some (.int .i64 q.c.vl) := HF.out.blk2.cell 6
  have c7 := rq_sp HF.out.blk2
  have d0 : W.cell? ⟨cb, 0, none⟩ = some (.pointer (some ⟨pb, 0, none⟩)) := HF.out.blk.cell 0
  have d1 : W.cell? ⟨cb, 1, none⟩ = some (.pointer none) := HF.out.blk.cell 1
  have HLT := Lib.hid HF.out.blk2.lt
  unfold cdW
  go_enter Try.func31, Try.ntmps31
  go_wp2_with (rw [HWW.out.1, HWW.out.2])
  have hne : Nonempty (ClsW (Step [] W.drew)) := ⟨⟨_, Step.refl _ _⟩⟩
  have k0 : ∀ y : ClsW (Step [] W.drew), y.val.cell? ⟨cb, 0, none⟩ = some (.pointer (some ⟨pb, 0, none⟩)) := fun y => (HF.out.blk.drew.step y.ok (by simp)).cell 0
  have k7 : ∀ y : ClsW (Step [] W.drew), rowC y.val xb 7 11 = some (spC q.c.sp a n k) := fun y => rq_sp (HF.out.blk2.drew.step y.ok (by simp))
  refine wp_region_rel_tail (G := Step []) (Sp := fun _ _ _ _ => False) ⟨fun w => Step.refl _ _, fun w w' w'' h1 h2 => h1.then h2 (by simp), fun f args v w w' h _ => h⟩ 6 (by kernel_rfl) (by kernel_rfl) ?_
  simp only [List.take_succ_cons, List.take_zero, List.drop_succ_cons, List.drop_zero]
  refine wpR_pre ⟨fun w => Step.refl _ _, fun w w' w'' h1 h2 => h1.then h2 (by simp), fun f args v w w' h _ => h⟩ anti_tailF 6 _ _ _ ?_ rfl
  simp only [List.take_succ_cons, List.take_zero, List.drop_succ_cons, List.drop_zero]
  repeat (go_big_quiet_step (fail))
  refine wpQuiet_nil ?_
  unfold wpR
  intro w7 hs7 _
  have s7 : Step [] W w7 := (Step.refl [] W).drew.then hs7 (by simp)
  have HC7 := Lib.hid (sput_any w0 base pb _ _ q.c.sp a k w7 (HF.out.wr.step s7 (by simp) (by simp)) HT.out.1 (HT.out.2.1.then s7 (by simp)) HT.out.2.2 HX.out.1.sp HX.out.2.sp (by have := HF.out.len; omega))
  rw [HN.out] at HC7
  have HS7 := Lib.hid s7
  clear c2 c3 c4 c5 c6 c7 d0 d1 HLT k0 k7 hne hs7 s7
  go_wp2_with (first | (refine HC7.out.mono ?_; rintro e w1 hwr; obtain ⟨rfl, v1, hF⟩ := HF.out.next (show (bytesS q.c.sp).length ≤ (bytesS q.c.sp).length from Nat.le_refl _) HS7.out hwr))
  go_end0
  have h := hF.wrote
  rw [HFB.out]
  exact h
set_option maxRecDepth 20000 in
set_option maxHeartbeats 4000000 in
theorem fields_w2 (w0 : World) (base pb : Nat) (v : Value) (bs : List UInt8) (q : PQ) (a : Option Addr) (k : Nat) (xb : Nat) (w : World) (hW : Wr w base pb v bs) (h0 : w0.heap.size ≤ base) (hs : Step [] w0 w) (ha : TxS w0 a q.c.sp.ds)
    (hB : Blk w xb (rqC q a q.c.sp.ds.length k).toArray 40) (hap : xb ∉ pb :: foot v) (hl : LitC q.c) (hw : WfC q.c) (hbl : bs.length ≤ 1000) (hk : q.c.kd = 2) :
    Calls Try.prog 31 #[cdW pb, .pointer (some ⟨xb, 2, none⟩)] w (Wrote base pb v (bs ++ fieldsB q.c) w) := by
  obtain ⟨W, cb, hWW, hcb, hsW, hF⟩ := fk_new w0 base pb v bs q a k xb w hW h0 hs ha hB hap hl hw hbl
  have hfB : fieldsB q.c = txtB q.c.wk := by
    unfold fieldsB
    rw [hk]
    simp
  have HFB := Lib.hid hfB
  have HWW := Lib.hid (And.intro hWW hcb)
  have HF := Lib.hid hF
  have HX := Lib.hid (And.intro hl hw)
  have HK := Lib.hid hk
  have HT := Lib.hid (And.intro h0 (And.intro hsW ha))
  clear hfB hWW hcb hsW hF hW hs ha hB hap hl hw hbl h0 hk
  obtain ⟨n, hn⟩ : ∃ n, q.c.sp.ds.length = n := ⟨_, rfl⟩
  have HN := Lib.hid hn
  rw [hn] at HF
  clear hn
  have c2 : W.cell? ⟨xb, 2, none⟩ = some (.int .i64 q.c.kd) := HF.out.blk2.cell 2
  rw [HK.out] at c2
  have c3 : W.cell? ⟨xb, 3, none⟩ = some (.string (bstr q.c.nm)) := HF.out.blk2.cell 3
  have c4 : W.cell? ⟨xb, 4, none⟩ = some (.string (bstr q.c.wk)) := HF.out.blk2.cell 4
  have c5 : W.cell? ⟨xb, 5, none⟩ = some (.int .u64 q.c.tk) := HF.out.blk2.cell 5
  have c6 : W.cell? ⟨xb, 6, none⟩ = some (.int .i64 q.c.vl) := HF.out.blk2.cell 6
  have c7 := rq_sp HF.out.blk2
  have d0 : W.cell? ⟨cb, 0, none⟩ = some (.pointer (some ⟨pb, 0, none⟩)) := HF.out.blk.cell 0
  have d1 : W.cell? ⟨cb, 1, none⟩ = some (.pointer none) := HF.out.blk.cell 1
  have HLT := Lib.hid HF.out.blk2.lt
  unfold cdW
  go_enter Try.func31, Try.ntmps31
  go_wp2_with (rw [HWW.out.1, HWW.out.2])
  have HCall := Lib.hid (ctext_w base pb _ _ q.c.wk xb 4 _ (HF.out.wr.step (Step.refl [] _).drew (by simp) (by simp)) c4 HLT.out (by have := HX.out.1.wk; omega) (by have := HF.out.len; omega))
  go_region_with (first | (refine HCall.out.mono ?_; rintro e w1 hwr; obtain ⟨rfl, v1, hF⟩ := HF.out.next (show (txtB q.c.wk).length ≤ 1010 by have := txtB_len q.c.wk; have := HX.out.1.wk; omega) (Step.refl [] _).drew hwr))
  all_goals
    clear c2 c3 c4 c5 c6 c7 d0 d1 HLT
    clear HF hwr HCall
    have HF := Lib.hid hF
    clear hF
    have c2 : w1.cell? ⟨xb, 2, none⟩ = some (.int .i64 q.c.kd) := HF.out.blk2.cell 2
    rw [HK.out] at c2
    have c3 : w1.cell? ⟨xb, 3, none⟩ = some (.string (bstr q.c.nm)) := HF.out.blk2.cell 3
    have c4 : w1.cell? ⟨xb, 4, none⟩ = some (.string (bstr q.c.wk)) := HF.out.blk2.cell 4
    have c5 : w1.cell? ⟨xb, 5, none⟩ = some (.int .u64 q.c.tk) := HF.out.blk2.cell 5
    have c6 : w1.cell? ⟨xb, 6, none⟩ = some (.int .i64 q.c.vl) := HF.out.blk2.cell 6
    have c7 := rq_sp HF.out.blk2
    have d0 : w1.cell? ⟨cb, 0, none⟩ = some (.pointer (some ⟨pb, 0, none⟩)) := HF.out.blk.cell 0
    have d1 : w1.cell? ⟨cb, 1, none⟩ = some (.pointer none) := HF.out.blk.cell 1
    have HLT := Lib.hid HF.out.blk2.lt
    go_wp2_with fail
    go_end0
    have h := HF.out.wrote
    rw [HFB.out]
    try simp only [List.append_assoc] at h ⊢
    exact h
set_option maxRecDepth 20000 in
set_option maxHeartbeats 4000000 in
theorem fields_w3 (w0 : World) (base pb : Nat) (v : Value) (bs : List UInt8) (q : PQ) (a : Option Addr) (k : Nat) (xb : Nat) (w : World) (hW : Wr w base pb v bs) (h0 : w0.heap.size ≤ base) (hs : Step [] w0 w) (ha : TxS w0 a q.c.sp.ds)
    (hB : Blk w xb (rqC q a q.c.sp.ds.length k).toArray 40) (hap : xb ∉ pb :: foot v) (hl : LitC q.c) (hw : WfC q.c) (hbl : bs.length ≤ 1000) (hk : q.c.kd = 3) :
    Calls Try.prog 31 #[cdW pb, .pointer (some ⟨xb, 2, none⟩)] w (Wrote base pb v (bs ++ fieldsB q.c) w) := by
  obtain ⟨W, cb, hWW, hcb, hsW, hF⟩ := fk_new w0 base pb v bs q a k xb w hW h0 hs ha hB hap hl hw hbl
  have hfB : fieldsB q.c = txtB q.c.nm ++ numB q.c.tk := by
    unfold fieldsB
    rw [hk]
    simp
  have HFB := Lib.hid hfB
  have HWW := Lib.hid (And.intro hWW hcb)
  have HF := Lib.hid hF
  have HX := Lib.hid (And.intro hl hw)
  have HK := Lib.hid hk
  have HT := Lib.hid (And.intro h0 (And.intro hsW ha))
  clear hfB hWW hcb hsW hF hW hs ha hB hap hl hw hbl h0 hk
  obtain ⟨n, hn⟩ : ∃ n, q.c.sp.ds.length = n := ⟨_, rfl⟩
  have HN := Lib.hid hn
  rw [hn] at HF
  clear hn
  have c2 : W.cell? ⟨xb, 2, none⟩ = some (.int .i64 q.c.kd) := HF.out.blk2.cell 2
  rw [HK.out] at c2
  have c3 : W.cell? ⟨xb, 3, none⟩ = some (.string (bstr q.c.nm)) := HF.out.blk2.cell 3
  have c4 : W.cell? ⟨xb, 4, none⟩ = some (.string (bstr q.c.wk)) := HF.out.blk2.cell 4
  have c5 : W.cell? ⟨xb, 5, none⟩ = some (.int .u64 q.c.tk) := HF.out.blk2.cell 5
  have c6 : W.cell? ⟨xb, 6, none⟩ = some (.int .i64 q.c.vl) := HF.out.blk2.cell 6
  have c7 := rq_sp HF.out.blk2
  have d0 : W.cell? ⟨cb, 0, none⟩ = some (.pointer (some ⟨pb, 0, none⟩)) := HF.out.blk.cell 0
  have d1 : W.cell? ⟨cb, 1, none⟩ = some (.pointer none) := HF.out.blk.cell 1
  have HLT := Lib.hid HF.out.blk2.lt
  unfold cdW
  go_enter Try.func31, Try.ntmps31
  go_wp2_with (rw [HWW.out.1, HWW.out.2])
  have HCall := Lib.hid (ctext_w base pb _ _ q.c.nm xb 3 _ (HF.out.wr.step (Step.refl [] _).drew (by simp) (by simp)) c3 HLT.out (by have := HX.out.1.nm; omega) (by have := HF.out.len; omega))
  go_region_with (first | (refine HCall.out.mono ?_; rintro e w1 hwr; obtain ⟨rfl, v1, hF⟩ := HF.out.next (show (txtB q.c.nm).length ≤ 1010 by have := txtB_len q.c.nm; have := HX.out.1.nm; omega) (Step.refl [] _).drew hwr))
  all_goals
    clear c2 c3 c4 c5 c6 c7 d0 d1 HLT
    clear HF hwr HCall
    have HF := Lib.hid hF
    clear hF
    have c2 : w1.cell? ⟨xb, 2, none⟩ = some (.int .i64 q.c.kd) := HF.out.blk2.cell 2
    rw [HK.out] at c2
    have c3 : w1.cell? ⟨xb, 3, none⟩ = some (.string (bstr q.c.nm)) := HF.out.blk2.cell 3
    have c4 : w1.cell? ⟨xb, 4, none⟩ = some (.string (bstr q.c.wk)) := HF.out.blk2.cell 4
    have c5 : w1.cell? ⟨xb, 5, none⟩ = some (.int .u64 q.c.tk) := HF.out.blk2.cell 5
    have c6 : w1.cell? ⟨xb, 6, none⟩ = some (.int .i64 q.c.vl) := HF.out.blk2.cell 6
    have c7 := rq_sp HF.out.blk2
    have d0 : w1.cell? ⟨cb, 0, none⟩ = some (.pointer (some ⟨pb, 0, none⟩)) := HF.out.blk.cell 0
    have d1 : w1.cell? ⟨cb, 1, none⟩ = some (.pointer none) := HF.out.blk.cell 1
    have HLT := Lib.hid HF.out.blk2.lt
    go_wp2_with fail
    skip
  have HCall := Lib.hid (cnum_w base pb _ _ q.c.tk xb 5 _ (HF.out.wr.step (Step.refl [] _).drew (by simp) (by simp)) c5 HLT.out HX.out.2.tk (by have := HF.out.len; omega))
  go_region_with (first | (refine HCall.out.mono ?_; rintro e w2 hwr; obtain ⟨rfl, v2, hF⟩ := HF.out.next (show (numB q.c.tk).length ≤ 10 from (numB_len _).2) (Step.refl [] _).drew hwr))
  all_goals
    clear c2 c3 c4 c5 c6 c7 d0 d1 HLT
    clear HF hwr HCall
    have HF := Lib.hid hF
    clear hF
    have c2 : w2.cell? ⟨xb, 2, none⟩ = some (.int .i64 q.c.kd) := HF.out.blk2.cell 2
    rw [HK.out] at c2
    have c3 : w2.cell? ⟨xb, 3, none⟩ = some (.string (bstr q.c.nm)) := HF.out.blk2.cell 3
    have c4 : w2.cell? ⟨xb, 4, none⟩ = some (.string (bstr q.c.wk)) := HF.out.blk2.cell 4
    have c5 : w2.cell? ⟨xb, 5, none⟩ = some (.int .u64 q.c.tk) := HF.out.blk2.cell 5
    have c6 : w2.cell? ⟨xb, 6, none⟩ = some (.int .i64 q.c.vl) := HF.out.blk2.cell 6
    have c7 := rq_sp HF.out.blk2
    have d0 : w2.cell? ⟨cb, 0, none⟩ = some (.pointer (some ⟨pb, 0, none⟩)) := HF.out.blk.cell 0
    have d1 : w2.cell? ⟨cb, 1, none⟩ = some (.pointer none) := HF.out.blk.cell 1
    have HLT := Lib.hid HF.out.blk2.lt
    go_wp2_with fail
    go_end0
    have h := HF.out.wrote
    rw [HFB.out]
    try simp only [List.append_assoc] at h ⊢
    exact h
set_option maxRecDepth 20000 in
set_option maxHeartbeats 4000000 in
theorem fields_w4 (w0 : World) (base pb : Nat) (v : Value) (bs : List UInt8) (q : PQ) (a : Option Addr) (k : Nat) (xb : Nat) (w : World) (hW : Wr w base pb v bs) (h0 : w0.heap.size ≤ base) (hs : Step [] w0 w) (ha : TxS w0 a q.c.sp.ds)
    (hB : Blk w xb (rqC q a q.c.sp.ds.length k).toArray 40) (hap : xb ∉ pb :: foot v) (hl : LitC q.c) (hw : WfC q.c) (hbl : bs.length ≤ 1000) (hk : q.c.kd = 4) :
    Calls Try.prog 31 #[cdW pb, .pointer (some ⟨xb, 2, none⟩)] w (Wrote base pb v (bs ++ fieldsB q.c) w) := by
  obtain ⟨W, cb, hWW, hcb, hsW, hF⟩ := fk_new w0 base pb v bs q a k xb w hW h0 hs ha hB hap hl hw hbl
  have hfB : fieldsB q.c = txtB q.c.nm ++ (numB q.c.tk ++ intB q.c.vl) := by
    unfold fieldsB
    rw [hk]
    simp
  have HFB := Lib.hid hfB
  have HWW := Lib.hid (And.intro hWW hcb)
  have HF := Lib.hid hF
  have HX := Lib.hid (And.intro hl hw)
  have HK := Lib.hid hk
  have HT := Lib.hid (And.intro h0 (And.intro hsW ha))
  clear hfB hWW hcb hsW hF hW hs ha hB hap hl hw hbl h0 hk
  obtain ⟨n, hn⟩ : ∃ n, q.c.sp.ds.length = n := ⟨_, rfl⟩
  have HN := Lib.hid hn
  rw [hn] at HF
  clear hn
  have c2 : W.cell? ⟨xb, 2, none⟩ = some (.int .i64 q.c.kd) := HF.out.blk2.cell 2
  rw [HK.out] at c2
  have c3 : W.cell? ⟨xb, 3, none⟩ = some (.string (bstr q.c.nm)) := HF.out.blk2.cell 3
  have c4 : W.cell? ⟨xb, 4, none⟩ = some (.string (bstr q.c.wk)) := HF.out.blk2.cell 4
  have c5 : W.cell? ⟨xb, 5, none⟩ = some (.int .u64 q.c.tk) := HF.out.blk2.cell 5
  have c6 : W.cell? ⟨xb, 6, none⟩ = some (.int .i64 q.c.vl) := HF.out.blk2.cell 6
  have c7 := rq_sp HF.out.blk2
  have d0 : W.cell? ⟨cb, 0, none⟩ = some (.pointer (some ⟨pb, 0, none⟩)) := HF.out.blk.cell 0
  have d1 : W.cell? ⟨cb, 1, none⟩ = some (.pointer none) := HF.out.blk.cell 1
  have HLT := Lib.hid HF.out.blk2.lt
  unfold cdW
  go_enter Try.func31, Try.ntmps31
  go_wp2_with (rw [HWW.out.1, HWW.out.2])
  have HCall := Lib.hid (ctext_w base pb _ _ q.c.nm xb 3 _ (HF.out.wr.step (Step.refl [] _).drew (by simp) (by simp)) c3 HLT.out (by have := HX.out.1.nm; omega) (by have := HF.out.len; omega))
  go_region_with (first | (refine HCall.out.mono ?_; rintro e w1 hwr; obtain ⟨rfl, v1, hF⟩ := HF.out.next (show (txtB q.c.nm).length ≤ 1010 by have := txtB_len q.c.nm; have := HX.out.1.nm; omega) (Step.refl [] _).drew hwr))
  all_goals
    clear c2 c3 c4 c5 c6 c7 d0 d1 HLT
    clear HF hwr HCall
    have HF := Lib.hid hF
    clear hF
    have c2 : w1.cell? ⟨xb, 2, none⟩ = some (.int .i64 q.c.kd) := HF.out.blk2.cell 2
    rw [HK.out] at c2
    have c3 : w1.cell? ⟨xb, 3, none⟩ = some (.string (bstr q.c.nm)) := HF.out.blk2.cell 3
    have c4 : w1.cell? ⟨xb, 4, none⟩ = some (.string (bstr q.c.wk)) := HF.out.blk2.cell 4
    have c5 : w1.cell? ⟨xb, 5, none⟩ = some (.int .u64 q.c.tk) := HF.out.blk2.cell 5
    have c6 : w1.cell? ⟨xb, 6, none⟩ = some (.int .i64 q.c.vl) := HF.out.blk2.cell 6
    have c7 := rq_sp HF.out.blk2
    have d0 : w1.cell? ⟨cb, 0, none⟩ = some (.pointer (some ⟨pb, 0, none⟩)) := HF.out.blk.cell 0
    have d1 : w1.cell? ⟨cb, 1, none⟩ = some (.pointer none) := HF.out.blk.cell 1
    have HLT := Lib.hid HF.out.blk2.lt
    go_wp2_with fail
    skip
  have HCall := Lib.hid (cnum_w base pb _ _ q.c.tk xb 5 _ (HF.out.wr.step (Step.refl [] _).drew (by simp) (by simp)) c5 HLT.out HX.out.2.tk (by have := HF.out.len; omega))
  go_region_with (first | (refine HCall.out.mono ?_; rintro e w2 hwr; obtain ⟨rfl, v2, hF⟩ := HF.out.next (show (numB q.c.tk).length ≤ 10 from (numB_len _).2) (Step.refl [] _).drew hwr))
  all_goals
    clear c2 c3 c4 c5 c6 c7 d0 d1 HLT
    clear HF hwr HCall
    have HF := Lib.hid hF
    clear hF
    have c2 : w2.cell? ⟨xb, 2, none⟩ = some (.int .i64 q.c.kd) := HF.out.blk2.cell 2
    rw [HK.out] at c2
    have c3 : w2.cell? ⟨xb, 3, none⟩ = some (.string (bstr q.c.nm)) := HF.out.blk2.cell 3
    have c4 : w2.cell? ⟨xb, 4, none⟩ = some (.string (bstr q.c.wk)) := HF.out.blk2.cell 4
    have c5 : w2.cell? ⟨xb, 5, none⟩ = some (.int .u64 q.c.tk) := HF.out.blk2.cell 5
    have c6 : w2.cell? ⟨xb, 6, none⟩ = some (.int .i64 q.c.vl) := HF.out.blk2.cell 6
    have c7 := rq_sp HF.out.blk2
    have d0 : w2.cell? ⟨cb, 0, none⟩ = some (.pointer (some ⟨pb, 0, none⟩)) := HF.out.blk.cell 0
    have d1 : w2.cell? ⟨cb, 1, none⟩ = some (.pointer none) := HF.out.blk.cell 1
    have HLT := Lib.hid HF.out.blk2.lt
    go_wp2_with fail
    skip
  have HCall := Lib.hid (cint_w base pb _ _ q.c.vl xb 6 _ (HF.out.wr.step (Step.refl [] _).drew (by simp) (by simp)) c6 HLT.out HX.out.2.vl (by have := HF.out.len; omega))
  go_region_with (first | (refine HCall.out.mono ?_; rintro e w3 hwr; obtain ⟨rfl, v3, hF⟩ := HF.out.next (show (intB q.c.vl).length ≤ 10 from intB_len _) (Step.refl [] _).drew hwr))
  all_goals
    clear c2 c3 c4 c5 c6 c7 d0 d1 HLT
    clear HF hwr HCall
    have HF := Lib.hid hF
    clear hF
    have c2 : w3.cell? ⟨xb, 2, none⟩ = some (.int .i64 q.c.kd) := HF.out.blk2.cell 2
    rw [HK.out] at c2
    have c3 : w3.cell? ⟨xb, 3, none⟩ = some (.string (bstr q.c.nm)) := HF.out.blk2.cell 3
    have c4 : w3.cell? ⟨xb, 4, none⟩ = some (.string (bstr q.c.wk)) := HF.out.blk2.cell 4
    have c5 : w3.cell? ⟨xb, 5, none⟩ = some (.int .u64 q.c.tk) := HF.out.blk2.cell 5
    have c6 : w3.cell? ⟨xb, 6, none⟩ = some (.int .i64 q.c.vl) := HF.out.blk2.cell 6
    have c7 := rq_sp HF.out.blk2
    have d0 : w3.cell? ⟨cb, 0, none⟩ = some (.pointer (some ⟨pb, 0, none⟩)) := HF.out.blk.cell 0
    have d1 : w3.cell? ⟨cb, 1, none⟩ = some (.pointer none) := HF.out.blk.cell 1
    have HLT := Lib.hid HF.out.blk2.lt
    go_wp2_with fail
    go_end0
    have h := HF.out.wrote
    rw [HFB.out]
    try simp only [List.append_assoc] at h ⊢
    exact h
set_option maxRecDepth 20000 in
set_option maxHeartbeats 4000000 in
theorem fields_w5 (w0 : World) (base pb : Nat) (v : Value) (bs : List UInt8) (q : PQ) (a : Option Addr) (k : Nat) (xb : Nat) (w : World) (hW : Wr w base pb v bs) (h0 : w0.heap.size ≤ base) (hs : Step [] w0 w) (ha : TxS w0 a q.c.sp.ds)
    (hB : Blk w xb (rqC q a q.c.sp.ds.length k).toArray 40) (hap : xb ∉ pb :: foot v) (hl : LitC q.c) (hw : WfC q.c) (hbl : bs.length ≤ 1000) (hk : q.c.kd = 5) :
    Calls Try.prog 31 #[cdW pb, .pointer (some ⟨xb, 2, none⟩)] w (Wrote base pb v (bs ++ fieldsB q.c) w) := by
  obtain ⟨W, cb, hWW, hcb, hsW, hF⟩ := fk_new w0 base pb v bs q a k xb w hW h0 hs ha hB hap hl hw hbl
  have hfB : fieldsB q.c = txtB q.c.nm ++ numB q.c.tk := by
    unfold fieldsB
    rw [hk]
    simp
  have HFB := Lib.hid hfB
  have HWW := Lib.hid (And.intro hWW hcb)
  have HF := Lib.hid hF
  have HX := Lib.hid (And.intro hl hw)
  have HK := Lib.hid hk
  have HT := Lib.hid (And.intro h0 (And.intro hsW ha))
  clear hfB hWW hcb hsW hF hW hs ha hB hap hl hw hbl h0 hk
  obtain ⟨n, hn⟩ : ∃ n, q.c.sp.ds.length = n := ⟨_, rfl⟩
  have HN := Lib.hid hn
  rw [hn] at HF
  clear hn
  have c2 : W.cell? ⟨xb, 2, none⟩ = some (.int .i64 q.c.kd) := HF.out.blk2.cell 2
  rw [HK.out] at c2
  have c3 : W.cell? ⟨xb, 3, none⟩ = some (.string (bstr q.c.nm)) := HF.out.blk2.cell 3
  have c4 : W.cell? ⟨xb, 4, none⟩ = some (.string (bstr q.c.wk)) := HF.out.blk2.cell 4
  have c5 : W.cell? ⟨xb, 5, none⟩ = some (.int .u64 q.c.tk) := HF.out.blk2.cell 5
  have c6 : W.cell? ⟨xb, 6, none⟩ = some (.int .i64 q.c.vl) := HF.out.blk2.cell 6
  have c7 := rq_sp HF.out.blk2
  have d0 : W.cell? ⟨cb, 0, none⟩ = some (.pointer (some ⟨pb, 0, none⟩)) := HF.out.blk.cell 0
  have d1 : W.cell? ⟨cb, 1, none⟩ = some (.pointer none) := HF.out.blk.cell 1
  have HLT := Lib.hid HF.out.blk2.lt
  unfold cdW
  go_enter Try.func31, Try.ntmps31
  go_wp2_with (rw [HWW.out.1, HWW.out.2])
  have HCall := Lib.hid (ctext_w base pb _ _ q.c.nm xb 3 _ (HF.out.wr.step (Step.refl [] _).drew (by simp) (by simp)) c3 HLT.out (by have := HX.out.1.nm; omega) (by have := HF.out.len; omega))
  go_region_with (first | (refine HCall.out.mono ?_; rintro e w1 hwr; obtain ⟨rfl, v1, hF⟩ := HF.out.next (show (txtB q.c.nm).length ≤ 1010 by have := txtB_len q.c.nm; have := HX.out.1.nm; omega) (Step.refl [] _).drew hwr))
  all_goals
    clear c2 c3 c4 c5 c6 c7 d0 d1 HLT
    clear HF hwr HCall
    have HF := Lib.hid hF
    clear hF
    have c2 : w1.cell? ⟨xb, 2, none⟩ = some (.int .i64 q.c.kd) := HF.out.blk2.cell 2
    rw [HK.out] at c2
    have c3 : w1.cell? ⟨xb, 3, none⟩ = some (.string (bstr q.c.nm)) := HF.out.blk2.cell 3
    have c4 : w1.cell? ⟨xb, 4, none⟩ = some (.string (bstr q.c.wk)) := HF.out.blk2.cell 4
    have c5 : w1.cell? ⟨xb, 5, none⟩ = some (.int .u64 q.c.tk) := HF.out.blk2.cell 5
    have c6 : w1.cell? ⟨xb, 6, none⟩ = some (.int .i64 q.c.vl) := HF.out.blk2.cell 6
    have c7 := rq_sp HF.out.blk2
    have d0 : w1.cell? ⟨cb, 0, none⟩ = some (.pointer (some ⟨pb, 0, none⟩)) := HF.out.blk.cell 0
    have d1 : w1.cell? ⟨cb, 1, none⟩ = some (.pointer none) := HF.out.blk.cell 1
    have HLT := Lib.hid HF.out.blk2.lt
    go_wp2_with fail
    skip
  have HCall := Lib.hid (cnum_w base pb _ _ q.c.tk xb 5 _ (HF.out.wr.step (Step.refl [] _).drew (by simp) (by simp)) c5 HLT.out HX.out.2.tk (by have := HF.out.len; omega))
  go_region_with (first | (refine HCall.out.mono ?_; rintro e w2 hwr; obtain ⟨rfl, v2, hF⟩ := HF.out.next (show (numB q.c.tk).length ≤ 10 from (numB_len _).2) (Step.refl [] _).drew hwr))
  all_goals
    clear c2 c3 c4 c5 c6 c7 d0 d1 HLT
    clear HF hwr HCall
    have HF := Lib.hid hF
    clear hF
    have c2 : w2.cell? ⟨xb, 2, none⟩ = some (.int .i64 q.c.kd) := HF.out.blk2.cell 2
    rw [HK.out] at c2
    have c3 : w2.cell? ⟨xb, 3, none⟩ = some (.string (bstr q.c.nm)) := HF.out.blk2.cell 3
    have c4 : w2.cell? ⟨xb, 4, none⟩ = some (.string (bstr q.c.wk)) := HF.out.blk2.cell 4
    have c5 : w2.cell? ⟨xb, 5, none⟩ = some (.int .u64 q.c.tk) := HF.out.blk2.cell 5
    have c6 : w2.cell? ⟨xb, 6, none⟩ = some (.int .i64 q.c.vl) := HF.out.blk2.cell 6
    have c7 := rq_sp HF.out.blk2
    have d0 : w2.cell? ⟨cb, 0, none⟩ = some (.pointer (some ⟨pb, 0, none⟩)) := HF.out.blk.cell 0
    have d1 : w2.cell? ⟨cb, 1, none⟩ = some (.pointer none) := HF.out.blk.cell 1
    have HLT := Lib.hid HF.out.blk2.lt
    go_wp2_with fail
    go_end0
    have h := HF.out.wrote
    rw [HFB.out]
    try simp only [List.append_assoc] at h ⊢
    exact h
set_option maxRecDepth 20000 in
set_option maxHeartbeats 4000000 in
theorem fields_w6 (w0 : World) (base pb : Nat) (v : Value) (bs : List UInt8) (q : PQ) (a : Option Addr) (k : Nat) (xb : Nat) (w : World) (hW : Wr w base pb v bs) (h0 : w0.heap.size ≤ base) (hs : Step [] w0 w) (ha : TxS w0 a q.c.sp.ds)
    (hB : Blk w xb (rqC q a q.c.sp.ds.length k).toArray 40) (hap : xb ∉ pb :: foot v) (hl : LitC q.c) (hw : WfC q.c) (hbl : bs.length ≤ 1000) (hk : q.c.kd = 6) :
    Calls Try.prog 31 #[cdW pb, .pointer (some ⟨xb, 2, none⟩)] w (Wrote base pb v (bs ++ fieldsB q.c) w) := by
  obtain ⟨W, cb, hWW, hcb, hsW, hF⟩ := fk_new w0 base pb v bs q a k xb w hW h0 hs ha hB hap hl hw hbl
  have hfB : fieldsB q.c = txtB q.c.nm := by
    unfold fieldsB
    rw [hk]
    simp
  have HFB := Lib.hid hfB
  have HWW := Lib.hid (And.intro hWW hcb)
  have HF := Lib.hid hF
  have HX := Lib.hid (And.intro hl hw)
  have HK := Lib.hid hk
  have HT := Lib.hid (And.intro h0 (And.intro hsW ha))
  clear hfB hWW hcb hsW hF hW hs ha hB hap hl hw hbl h0 hk
  obtain ⟨n, hn⟩ : ∃ n, q.c.sp.ds.length = n := ⟨_, rfl⟩
  have HN := Lib.hid hn
  rw [hn] at HF
  clear hn
  have c2 : W.cell? ⟨xb, 2, none⟩ = some (.int .i64 q.c.kd) := HF.out.blk2.cell 2
  rw [HK.out] at c2
  have c3 : W.cell? ⟨xb, 3, none⟩ = some (.string (bstr q.c.nm)) := HF.out.blk2.cell 3
  have c4 : W.cell? ⟨xb, 4, none⟩ = some (.string (bstr q.c.wk)) := HF.out.blk2.cell 4
  have c5 : W.cell? ⟨xb, 5, none⟩ = some (.int .u64 q.c.tk) := HF.out.blk2.cell 5
  have c6 : W.cell? ⟨xb, 6, none⟩ = some (.int .i64 q.c.vl) := HF.out.blk2.cell 6
  have c7 := rq_sp HF.out.blk2
  have d0 : W.cell? ⟨cb, 0, none⟩ = some (.pointer (some ⟨pb, 0, none⟩)) := HF.out.blk.cell 0
  have d1 : W.cell? ⟨cb, 1, none⟩ = some (.pointer none) := HF.out.blk.cell 1
  have HLT := Lib.hid HF.out.blk2.lt
  unfold cdW
  go_enter Try.func31, Try.ntmps31
  go_wp2_with (rw [HWW.out.1, HWW.out.2])
  have HCall := Lib.hid (ctext_w base pb _ _ q.c.nm xb 3 _ (HF.out.wr.step (Step.refl [] _).drew (by simp) (by simp)) c3 HLT.out (by have := HX.out.1.nm; omega) (by have := HF.out.len; omega))
  go_region_with (first | (refine HCall.out.mono ?_; rintro e w1 hwr; obtain ⟨rfl, v1, hF⟩ := HF.out.next (show (txtB q.c.nm).length ≤ 1010 by have := txtB_len q.c.nm; have := HX.out.1.nm; omega) (Step.refl [] _).drew hwr))
  all_goals
    clear c2 c3 c4 c5 c6 c7 d0 d1 HLT
    clear HF hwr HCall
    have HF := Lib.hid hF
    clear hF
    have c2 : w1.cell? ⟨xb, 2, none⟩ = some (.int .i64 q.c.kd) := HF.out.blk2.cell 2
    rw [HK.out] at c2
    have c3 : w1.cell? ⟨xb, 3, none⟩ = some (.string (bstr q.c.nm)) := HF.out.blk2.cell 3
    have c4 : w1.cell? ⟨xb, 4, none⟩ = some (.string (bstr q.c.wk)) := HF.out.blk2.cell 4
    have c5 : w1.cell? ⟨xb, 5, none⟩ = some (.int .u64 q.c.tk) := HF.out.blk2.cell 5
    have c6 : w1.cell? ⟨xb, 6, none⟩ = some (.int .i64 q.c.vl) := HF.out.blk2.cell 6
    have c7 := rq_sp HF.out.blk2
    have d0 : w1.cell? ⟨cb, 0, none⟩ = some (.pointer (some ⟨pb, 0, none⟩)) := HF.out.blk.cell 0
    have d1 : w1.cell? ⟨cb, 1, none⟩ = some (.pointer none) := HF.out.blk.cell 1
    have HLT := Lib.hid HF.out.blk2.lt
    go_wp2_with fail
    go_end0
    have h := HF.out.wrote
    rw [HFB.out]
    try simp only [List.append_assoc] at h ⊢
    exact h
set_option maxRecDepth 20000 in
set_option maxHeartbeats 4000000 in
theorem fields_w7 (w0 : World) (base pb : Nat) (v : Value) (bs : List UInt8) (q : PQ) (a : Option Addr) (k : Nat) (xb : Nat) (w : World) (hW : Wr w base pb v bs) (h0 : w0.heap.size ≤ base) (hs : Step [] w0 w) (ha : TxS w0 a q.c.sp.ds)
    (hB : Blk w xb (rqC q a q.c.sp.ds.length k).toArray 40) (hap : xb ∉ pb :: foot v) (hl : LitC q.c) (hw : WfC q.c) (hbl : bs.length ≤ 1000) (hk : q.c.kd = 7) :
    Calls Try.prog 31 #[cdW pb, .pointer (some ⟨xb, 2, none⟩)] w (Wrote base pb v (bs ++ fieldsB q.c) w) := by
  obtain ⟨W, cb, hWW, hcb, hsW, hF⟩ := fk_new w0 base pb v bs q a k xb w hW h0 hs ha hB hap hl hw hbl
  have hfB : fieldsB q.c = txtB q.c.nm := by
    unfold fieldsB
    rw [hk]
    simp
  have HFB := Lib.hid hfB
  have HWW := Lib.hid (And.intro hWW hcb)
  have HF := Lib.hid hF
  have HX := Lib.hid (And.intro hl hw)
  have HK := Lib.hid hk
  have HT := Lib.hid (And.intro h0 (And.intro hsW ha))
  clear hfB hWW hcb hsW hF hW hs ha hB hap hl hw hbl h0 hk
  obtain ⟨n, hn⟩ : ∃ n, q.c.sp.ds.length = n := ⟨_, rfl⟩
  have HN := Lib.hid hn
  rw [hn] at HF
  clear hn
  have c2 : W.cell? ⟨xb, 2, none⟩ = some (.int .i64 q.c.kd) := HF.out.blk2.cell 2
  rw [HK.out] at c2
  have c3 : W.cell? ⟨xb, 3, none⟩ = some (.string (bstr q.c.nm)) := HF.out.blk2.cell 3
  have c4 : W.cell? ⟨xb, 4, none⟩ = some (.string (bstr q.c.wk)) := HF.out.blk2.cell 4
  have c5 : W.cell? ⟨xb, 5, none⟩ = some (.int .u64 q.c.tk) := HF.out.blk2.cell 5
  have c6 : W.cell? ⟨xb, 6, none⟩ = some (.int .i64 q.c.vl) := HF.out.blk2.cell 6
  have c7 := rq_sp HF.out.blk2
  have d0 : W.cell? ⟨cb, 0, none⟩ = some (.pointer (some ⟨pb, 0, none⟩)) := HF.out.blk.cell 0
  have d1 : W.cell? ⟨cb, 1, none⟩ = some (.pointer none) := HF.out.blk.cell 1
  have HLT := Lib.hid HF.out.blk2.lt
  unfold cdW
  go_enter Try.func31, Try.ntmps31
  go_wp2_with (rw [HWW.out.1, HWW.out.2])
  have HCall := Lib.hid (ctext_w base pb _ _ q.c.nm xb 3 _ (HF.out.wr.step (Step.refl [] _).drew (by simp) (by simp)) c3 HLT.out (by have := HX.out.1.nm; omega) (by have := HF.out.len; omega))
  go_region_with (first | (refine HCall.out.mono ?_; rintro e w1 hwr; obtain ⟨rfl, v1, hF⟩ := HF.out.next (show (txtB q.c.nm).length ≤ 1010 by have := txtB_len q.c.nm; have := HX.out.1.nm; omega) (Step.refl [] _).drew hwr))
  all_goals
    clear c2 c3 c4 c5 c6 c7 d0 d1 HLT
    clear HF hwr HCall
    have HF := Lib.hid hF
    clear hF
    have c2 : w1.cell? ⟨xb, 2, none⟩ = some (.int .i64 q.c.kd) := HF.out.blk2.cell 2
    rw [HK.out] at c2
    have c3 : w1.cell? ⟨xb, 3, none⟩ = some (.string (bstr q.c.nm)) := HF.out.blk2.cell 3
    have c4 : w1.cell? ⟨xb, 4, none⟩ = some (.string (bstr q.c.wk)) := HF.out.blk2.cell 4
    have c5 : w1.cell? ⟨xb, 5, none⟩ = some (.int .u64 q.c.tk) := HF.out.blk2.cell 5
    have c6 : w1.cell? ⟨xb, 6, none⟩ = some (.int .i64 q.c.vl) := HF.out.blk2.cell 6
    have c7 := rq_sp HF.out.blk2
    have d0 : w1.cell? ⟨cb, 0, none⟩ = some (.pointer (some ⟨pb, 0, none⟩)) := HF.out.blk.cell 0
    have d1 : w1.cell? ⟨cb, 1, none⟩ = some (.pointer none) := HF.out.blk.cell 1
    have HLT := Lib.hid HF.out.blk2.lt
    go_wp2_with fail
    go_end0
    have h := HF.out.wrote
    rw [HFB.out]
    try simp only [List.append_assoc] at h ⊢
    exact h
set_option maxRecDepth 20000 in
set_option maxHeartbeats 4000000 in
theorem fields_w8 (w0 : World) (base pb : Nat) (v : Value) (bs : List UInt8) (q : PQ) (a : Option Addr) (k : Nat) (xb : Nat) (w : World) (hW : Wr w base pb v bs) (h0 : w0.heap.size ≤ base) (hs : Step [] w0 w) (ha : TxS w0 a q.c.sp.ds)
    (hB : Blk w xb (rqC q a q.c.sp.ds.length k).toArray 40) (hap : xb ∉ pb :: foot v) (hl : LitC q.c) (hw : WfC q.c) (hbl : bs.length ≤ 1000) (hk : q.c.kd = 8) :
    Calls Try.prog 31 #[cdW pb, .pointer (some ⟨xb, 2, none⟩)] w (Wrote base pb v (bs ++ fieldsB q.c) w) := by
  obtain ⟨W, cb, hWW, hcb, hsW, hF⟩ := fk_new w0 base pb v bs q a k xb w hW h0 hs ha hB hap hl hw hbl
  have hfB : fieldsB q.c = txtB q.c.nm := by
    unfold fieldsB
    rw [hk]
    simp
  have HFB := Lib.hid hfB
  have HWW := Lib.hid (And.intro hWW hcb)
  have HF := Lib.hid hF
  have HX := Lib.hid (And.intro hl hw)
  have HK := Lib.hid hk
  have HT := Lib.hid (And.intro h0 (And.intro hsW ha))
  clear hfB hWW hcb hsW hF hW hs ha hB hap hl hw hbl h0 hk
  obtain ⟨n, hn⟩ : ∃ n, q.c.sp.ds.length = n := ⟨_, rfl⟩
  have HN := Lib.hid hn
  rw [hn] at HF
  clear hn
  have c2 : W.cell? ⟨xb, 2, none⟩ = some (.int .i64 q.c.kd) := HF.out.blk2.cell 2
  rw [HK.out] at c2
  have c3 : W.cell? ⟨xb, 3, none⟩ = some (.string (bstr q.c.nm)) := HF.out.blk2.cell 3
  have c4 : W.cell? ⟨xb, 4, none⟩ = some (.string (bstr q.c.wk)) := HF.out.blk2.cell 4
  have c5 : W.cell? ⟨xb, 5, none⟩ = some (.int .u64 q.c.tk) := HF.out.blk2.cell 5
  have c6 : W.cell? ⟨xb, 6, none⟩ = some (.int .i64 q.c.vl) := HF.out.blk2.cell 6
  have c7 := rq_sp HF.out.blk2
  have d0 : W.cell? ⟨cb, 0, none⟩ = some (.pointer (some ⟨pb, 0, none⟩)) := HF.out.blk.cell 0
  have d1 : W.cell? ⟨cb, 1, none⟩ = some (.pointer none) := HF.out.blk.cell 1
  have HLT := Lib.hid HF.out.blk2.lt
  unfold cdW
  go_enter Try.func31, Try.ntmps31
  go_wp2_with (rw [HWW.out.1, HWW.out.2])
  have HCall := Lib.hid (ctext_w base pb _ _ q.c.nm xb 3 _ (HF.out.wr.step (Step.refl [] _).drew (by simp) (by simp)) c3 HLT.out (by have := HX.out.1.nm; omega) (by have := HF.out.len; omega))
  go_region_with (first | (refine HCall.out.mono ?_; rintro e w1 hwr; obtain ⟨rfl, v1, hF⟩ := HF.out.next (show (txtB q.c.nm).length ≤ 1010 by have := txtB_len q.c.nm; have := HX.out.1.nm; omega) (Step.refl [] _).drew hwr))
  all_goals
    clear c2 c3 c4 c5 c6 c7 d0 d1 HLT
    clear HF hwr HCall
    have HF := Lib.hid hF
    clear hF
    have c2 : w1.cell? ⟨xb, 2, none⟩ = some (.int .i64 q.c.kd) := HF.out.blk2.cell 2
    rw [HK.out] at c2
    have c3 : w1.cell? ⟨xb, 3, none⟩ = some (.string (bstr q.c.nm)) := HF.out.blk2.cell 3
    have c4 : w1.cell? ⟨xb, 4, none⟩ = some (.string (bstr q.c.wk)) := HF.out.blk2.cell 4
    have c5 : w1.cell? ⟨xb, 5, none⟩ = some (.int .u64 q.c.tk) := HF.out.blk2.cell 5
    have c6 : w1.cell? ⟨xb, 6, none⟩ = some (.int .i64 q.c.vl) := HF.out.blk2.cell 6
    have c7 := rq_sp HF.out.blk2
    have d0 : w1.cell? ⟨cb, 0, none⟩ = some (.pointer (some ⟨pb, 0, none⟩)) := HF.out.blk.cell 0
    have d1 : w1.cell? ⟨cb, 1, none⟩ = some (.pointer none) := HF.out.blk.cell 1
    have HLT := Lib.hid HF.out.blk2.lt
    go_wp2_with fail
    go_end0
    have h := HF.out.wrote
    rw [HFB.out]
    try simp only [List.append_assoc] at h ⊢
    exact h
set_option maxRecDepth 20000 in
set_option maxHeartbeats 4000000 in
theorem fields_w9 (w0 : World) (base pb : Nat) (v : Value) (bs : List UInt8) (q : PQ) (a : Option Addr) (k : Nat) (xb : Nat) (w : World) (hW : Wr w base pb v bs) (h0 : w0.heap.size ≤ base) (hs : Step [] w0 w) (ha : TxS w0 a q.c.sp.ds)
    (hB : Blk w xb (rqC q a q.c.sp.ds.length k).toArray 40) (hap : xb ∉ pb :: foot v) (hl : LitC q.c) (hw : WfC q.c) (hbl : bs.length ≤ 1000) (hk : q.c.kd = 9) :
    Calls Try.prog 31 #[cdW pb, .pointer (some ⟨xb, 2, none⟩)] w (Wrote base pb v (bs ++ fieldsB q.c) w) := by
  obtain ⟨W, cb, hWW, hcb, hsW, hF⟩ := fk_new w0 base pb v bs q a k xb w hW h0 hs ha hB hap hl hw hbl
  have hfB : fieldsB q.c = intB q.c.vl := by
    unfold fieldsB
    rw [hk]
    simp
  have HFB := Lib.hid hfB
  have HWW := Lib.hid (And.intro hWW hcb)
  have HF := Lib.hid hF
  have HX := Lib.hid (And.intro hl hw)
  have HK := Lib.hid hk
  have HT := Lib.hid (And.intro h0 (And.intro hsW ha))
  clear hfB hWW hcb hsW hF hW hs ha hB hap hl hw hbl h0 hk
  obtain ⟨n, hn⟩ : ∃ n, q.c.sp.ds.length = n := ⟨_, rfl⟩
  have HN := Lib.hid hn
  rw [hn] at HF
  clear hn
  have c2 : W.cell? ⟨xb, 2, none⟩ = some (.int .i64 q.c.kd) := HF.out.blk2.cell 2
  rw [HK.out] at c2
  have c3 : W.cell? ⟨xb, 3, none⟩ = some (.string (bstr q.c.nm)) := HF.out.blk2.cell 3
  have c4 : W.cell? ⟨xb, 4, none⟩ = some (.string (bstr q.c.wk)) := HF.out.blk2.cell 4
  have c5 : W.cell? ⟨xb, 5, none⟩ = some (.int .u64 q.c.tk) := HF.out.blk2.cell 5
  have c6 : W.cell? ⟨xb, 6, none⟩ = some (.int .i64 q.c.vl) := HF.out.blk2.cell 6
  have c7 := rq_sp HF.out.blk2
  have d0 : W.cell? ⟨cb, 0, none⟩ = some (.pointer (some ⟨pb, 0, none⟩)) := HF.out.blk.cell 0
  have d1 : W.cell? ⟨cb, 1, none⟩ = some (.pointer none) := HF.out.blk.cell 1
  have HLT := Lib.hid HF.out.blk2.lt
  unfold cdW
  go_enter Try.func31, Try.ntmps31
  go_wp2_with (rw [HWW.out.1, HWW.out.2])
  have HCall := Lib.hid (cint_w base pb _ _ q.c.vl xb 6 _ (HF.out.wr.step (Step.refl [] _).drew (by simp) (by simp)) c6 HLT.out HX.out.2.vl (by have := HF.out.len; omega))
  go_region_with (first | (refine HCall.out.mono ?_; rintro e w1 hwr; obtain ⟨rfl, v1, hF⟩ := HF.out.next (show (intB q.c.vl).length ≤ 10 from intB_len _) (Step.refl [] _).drew hwr))
  all_goals
    clear c2 c3 c4 c5 c6 c7 d0 d1 HLT
    clear HF hwr HCall
    have HF := Lib.hid hF
    clear hF
    have c2 : w1.cell? ⟨xb, 2, none⟩ = some (.int .i64 q.c.kd) := HF.out.blk2.cell 2
    rw [HK.out] at c2
    have c3 : w1.cell? ⟨xb, 3, none⟩ = some (.string (bstr q.c.nm)) := HF.out.blk2.cell 3
    have c4 : w1.cell? ⟨xb, 4, none⟩ = some (.string (bstr q.c.wk)) := HF.out.blk2.cell 4
    have c5 : w1.cell? ⟨xb, 5, none⟩ = some (.int .u64 q.c.tk) := HF.out.blk2.cell 5
    have c6 : w1.cell? ⟨xb, 6, none⟩ = some (.int .i64 q.c.vl) := HF.out.blk2.cell 6
    have c7 := rq_sp HF.out.blk2
    have d0 : w1.cell? ⟨cb, 0, none⟩ = some (.pointer (some ⟨pb, 0, none⟩)) := HF.out.blk.cell 0
    have d1 : w1.cell? ⟨cb, 1, none⟩ = some (.pointer none) := HF.out.blk.cell 1
    have HLT := Lib.hid HF.out.blk2.lt
    go_wp2_with fail
    go_end0
    have h := HF.out.wrote
    rw [HFB.out]
    try simp only [List.append_assoc] at h ⊢
    exact h
theorem fields_w (w0 : World) (base pb : Nat) (v : Value) (bs : List UInt8) (q : PQ) (a : Option Addr) (k : Nat) (xb : Nat) (w : World) (hW : Wr w base pb v bs) (h0 : w0.heap.size ≤ base) (hs : Step [] w0 w) (ha : TxS w0 a q.c.sp.ds)
    (hB : Blk w xb (rqC q a q.c.sp.ds.length k).toArray 40) (hap : xb ∉ pb :: foot v) (hl : LitC q.c) (hw : WfC q.c) (hbl : bs.length ≤ 1000) (hk : okK q.c.kd) :
    Calls Try.prog 31 #[cdW pb, .pointer (some ⟨xb, 2, none⟩)] w (Wrote base pb v (bs ++ fieldsB q.c) w) := by
  rcases kinds hk with h | h | h | h | h | h | h | h | h | h
  · exact fields_w0 w0 base pb v bs q a k xb w hW h0 hs ha hB hap hl hw hbl h
  · exact fields_w1 w0 base pb v bs q a k xb w hW h0 hs ha hB hap hl hw hbl h
  · exact fields_w2 w0 base pb v bs q a k xb w hW h0 hs ha hB hap hl hw hbl h
  · exact fields_w3 w0 base pb v bs q a k xb w hW h0 hs ha hB hap hl hw hbl h
  · exact fields_w4 w0 base pb v bs q a k xb w hW h0 hs ha hB hap hl hw hbl h
  · exact fields_w5 w0 base pb v bs q a k xb w hW h0 hs ha hB hap hl hw hbl h
  · exact fields_w6 w0 base pb v bs q a k xb w hW h0 hs ha hB hap hl hw hbl h
  · exact fields_w7 w0 base pb v bs q a k xb w hW h0 hs ha hB hap hl hw hbl h
  · exact fields_w8 w0 base pb v bs q a k xb w hW h0 hs ha hB hap hl hw hbl h
  · exact fields_w9 w0 base pb v bs q a k xb w hW h0 hs ha hB hap hl hw hbl h
end Go.Proofs.Ytdfkagpnfgmbeaa
