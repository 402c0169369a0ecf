/- command.coder.fields that reads. -/
import Derived.Test.YtdfkagpnfgmbeaaFieldsW
namespace Go.Proofs.Ytdfkagpnfgmbeaa
set_option linter.unusedVariables false
set_option linter.unusedSimpArgs false
open Go.RowKit
attribute [local go_sem ↓] exec_load_s exec_store_s
attribute [local go_sem] Try.load_s row_drew Try.store_s

/-- what fields leaves that reads -/
def FieldsRd (rb db : Nat) (l : List UInt8) (e : Int) (cl no : Nat) (K : Int) (xb : Nat) (w : World) (en : Ending) (w' : World) : Prop :=
  ∃ (c : PC) (a : Option Addr) (k : Nat) (m : List UInt8) (e1 : Int), en = .returned (.tuple #[]) ∧ Rd w' rb db m e1 ∧ Step [rb, xb] w w' ∧ Blk w' xb (rqC ⟨cl, no, c⟩ a c.sp.ds.length k).toArray 40
    ∧ c.kd = K ∧ onlyC c = c ∧ LitC c ∧ WfC c ∧ TxS w' a c.sp.ds ∧ ((a = none → c.sp.ds.length = 0 ∧ k = 0) ∧ (0 < c.sp.ds.length → ∀ b off, a = some ⟨b, off, none⟩ → w.heap.size ≤ b)) ∧ (e1 = 0 → e = 0 ∧ l = fieldsB c ++ m)
/-- a command of this kind, and what is read of it so far -/
def pcK (K : Int) (nm wk : List UInt8) (tk : Nat) (vl : Int) : PC := ⟨K, nm, wk, tk, vl, ps0⟩
/-- a list with these from the o-th on -/
def setAt (C : List Value) : Nat → List Value → List Value
  | _, [] => C
  | o, v :: r => setAt (C.set o v) (o + 1) r
theorem Blk.setAt {b : Nat} {T : TypeId} : ∀ (vs : List Value) (o : Nat) (w : World) (C : List Value), Blk w b C.toArray T → Blk (w.setCells b o vs) b (setAt C o vs).toArray T
  | [], _, _, _, h => h
  | v :: r, o, w, C, h => by
    have h1 := h.set o v
    rw [List.setIfInBounds_toArray] at h1
    exact Blk.setAt r (o + 1) _ _ h1
theorem rq_set {w : World} {xb cl no : Nat} {K : Int} {S : PS} {a : Option Addr} {k : Nat} {T : TypeId} (h : Blk w xb (rqC ⟨cl, no, pcK K [] [] 0 0⟩ none 0 0).toArray T) : Blk (w.setCells xb 7 (spC S a S.ds.length k)) xb (rqC ⟨cl, no, ⟨K, [], [], 0, 0, S⟩⟩ a S.ds.length k).toArray T := by
  have h1 := Blk.setAt (spC S a S.ds.length k) 7 w _ h
  have h2 : Go.Proofs.Ytdfkagpnfgmbeaa.setAt (rqC ⟨cl, no, pcK K [] [] 0 0⟩ none 0 0) 7 (spC S a S.ds.length k) = rqC ⟨cl, no, ⟨K, [], [], 0, 0, S⟩⟩ a S.ds.length k := by
    simp only [spC, Go.Proofs.Ytdfkagpnfgmbeaa.setAt, rqC, cmC, pcK, List.set_cons_succ, List.set_cons_zero, Nat.reduceAdd]
  rw [h2] at h1
  exact h1
/-- what the walk keeps -/
structure Rk (rb db : Nat) (l0 : List UInt8) (e0 : Int) (xb cb : Nat) (D : Array Value) (enc m : List UInt8) (e : Int) (w0 w : World) : Prop where
  rd : Rd w rb db m e
  st : Step [rb, xb] w0 w
  cod : Blk w cb #[.pointer none, .pointer (some ⟨rb, 0, none⟩)] 68
  blk : Blk w xb D 40
  cr : cb ≠ rb
  cx : cb ≠ xb
  xr : xb ≠ rb
  xd : 0 < l0.length → db ≠ xb
  ml : m.length ≤ l0.length
  bk : e = 0 → e0 = 0 ∧ l0 = enc ++ m
theorem Rk.next {rb db : Nat} {l0 : List UInt8} {e0 : Int} {xb cb : Nat} {D D' : Array Value} {enc m x m' : List UInt8} {e e' : Int} {w0 w w1 : World} {i : Nat} {u : Value} (h : Rk rb db l0 e0 xb cb D enc m e w0 w) (hL : Left rb db m' e' w w1) (hm : m'.length ≤ m.length) (hb : e' = 0 → e = 0 ∧ m = x ++ m') (hD : D.setIfInBounds i u = D') :
    Rk rb db l0 e0 xb cb D' (enc ++ x) m' e' w0 (w1.setCell ⟨xb, i, none⟩ u) where
  rd := hL.1.stepM ((Step.refl [xb] _).setCell (.inl (by simp)) _ _) (by have := h.xr; simp; omega) (fun hl => by have := h.xd (by have := h.ml; omega); simpa using this)
  st := (h.st.then hL.2 (fun k hk => .inl (by simp at hk; simp [hk]))).setCell (.inl (by simp)) _ _
  cod := (h.cod.step hL.2 (by have := h.cr; simpa using this)).set_ne _ _ _ h.cx
  blk := by
    have := (h.blk.step hL.2 (by have := h.xr; simpa using this)).set i u
    rwa [hD] at this
  cr := h.cr
  cx := h.cx
  xr := h.xr
  xd := h.xd
  ml := Nat.le_trans hm h.ml
  bk := fun h1 => by
    obtain ⟨h2, h3⟩ := hb h1
    obtain ⟨h4, h5⟩ := h.bk h2
    exact ⟨h4, by rw [h5, h3, List.append_assoc]⟩
set_option maxRecDepth 20000 in
set_option maxHeartbeats 4000000 in
theorem fields_r0 (rb db : Nat) (l : List UInt8) (e : Int) (cl no : Nat) (xb : Nat) (w : World) (hR : Rd w rb db l e) (hxr : xb ≠ rb) (hxd : 0 < l.length → db ≠ xb) (hB : Blk w xb (rqC ⟨cl, no, pcK 0 [] [] 0 0⟩ none 0 0).toArray 40) :
    Calls Try.prog 31 #[cdR rb, .pointer (some ⟨xb, 2, none⟩)] w (FieldsRd rb db l e cl no 0 xb w) := by
  have hb := (Blk.new w #[.pointer none, .pointer (some ⟨rb, 0, none⟩)] 68)
  have hst := ((Step.refl [] w).alloc (.cells #[.pointer none, .pointer (some ⟨rb, 0, none⟩)] 68))
  have hK : Rk rb db l e xb w.heap.size (rqC ⟨cl, no, pcK 0 [] [] 0 0⟩ none 0 0).toArray [] l e w (w.alloc (.cells #[.pointer none, .pointer (some ⟨rb, 0, none⟩)] 68)) :=
    ⟨hR.step hst (by simp) (by simp), hst.mono (by simp), hb, hB.step hst (by simp), Nat.ne_of_gt hR.lts'.1, Nat.ne_of_gt hB.lt, hxr, hxd, Nat.le_refl _, fun h => ⟨h, rfl⟩⟩
  obtain ⟨W, hWW⟩ : ∃ W, w.alloc (.cells #[.pointer none, .pointer (some ⟨rb, 0, none⟩)] 68) = W := ⟨_, rfl⟩
  obtain ⟨cb, hcb⟩ : ∃ cb, w.heap.size = cb := ⟨_, rfl⟩
  rw [hWW, hcb] at hK
  have HWW := Lib.hid (And.intro hWW hcb)
  have HK := Lib.hid hK
  have HX := Lib.hid (And.intro hxr hxd)
  clear hWW hcb hK hb hst hR hB hxr hxd
  have c2 : W.cell? ⟨xb, 2, none⟩ = some (.int .i64 0) := HK.out.blk.cell 2
  have d0 : W.cell? ⟨cb, 0, none⟩ = some (.pointer none) := HK.out.cod.cell 0
  have d1 : W.cell? ⟨cb, 1, none⟩ = some (.pointer (some ⟨rb, 0, none⟩)) := HK.out.cod.cell 1
  unfold cdR
  go_enter Try.func31, Try.ntmps31
  go_wp2_with (rw [HWW.out.1, HWW.out.2])
  go_end0
  refine ⟨pcK 0 [] [] 0 0, none, 0, l, e, rfl, HK.out.rd, HK.out.st, HK.out.blk, rfl, by simp [onlyC, pcK], ⟨by simp [pcK], by simp [pcK], LitS_zero⟩, ⟨by unfold I64 pcK; simp, (by simp [pcK, M64]), I64_zero, WfS_zero⟩, fun i hi => by simp [pcK, ps0] at hi, ⟨fun _ => ⟨rfl, rfl⟩, fun h => by simp [pcK, ps0] at h⟩, fun h => ?_⟩
  obtain ⟨h1, h2⟩ := HK.out.bk h
  refine ⟨h1, ?_⟩
  rw [h2]
  simp [fieldsB, pcK]
set_option maxRecDepth 20000 in
set_option maxHeartbeats 4000000 in
theorem fields_r1 (rb db : Nat) (l : List UInt8) (e : Int) (cl no : Nat) (xb : Nat) (w : World) (hR : Rd w rb db l e) (hxr : xb ≠ rb) (hxd : 0 < l.length → db ≠ xb) (hB : Blk w xb (rqC ⟨cl, no, pcK 1 [] [] 0 0⟩ none 0 0).toArray 40) :
    Calls Try.prog 31 #[cdR rb, .pointer (some ⟨xb, 2, none⟩)] w (FieldsRd rb db l e cl no 1 xb w) := by
  have hb := (Blk.new w #[.pointer none, .pointer (some ⟨rb, 0, none⟩)] 68)
  have hst := ((Step.refl [] w).alloc (.cells #[.pointer none, .pointer (some ⟨rb, 0, none⟩)] 68))
  have hK : Rk rb db l e xb w.heap.size (rqC ⟨cl, no, pcK 1 [] [] 0 0⟩ none 0 0).toArray [] l e w (w.alloc (.cells #[.pointer none, .pointer (some ⟨rb, 0, none⟩)] 68)) :=
    ⟨hR.step hst (by simp) (by simp), hst.mono (by simp), hb, hB.step hst (by simp), Nat.ne_of_gt hR.lts'.1, Nat.ne_of_gt hB.lt, hxr, hxd, Nat.le_refl _, fun h => ⟨h, rfl⟩⟩
  obtain ⟨W, hWW⟩ : ∃ W, w.alloc (.cells #[.pointer none, .pointer (some ⟨rb, 0, none⟩)] 68) = W := ⟨_, rfl⟩
  obtain ⟨cb, hcb⟩ : ∃ cb, w.heap.size = cb := ⟨_, rfl⟩
  rw [hWW, hcb] at hK
  have HWW := Lib.hid (And.intro hWW hcb)
  have HK := Lib.hid hK
  have HX := Lib.hid (And.intro hxr hxd)
  clear hWW hcb hK hb hst hR hB hxr hxd
  have c2 : W.cell? ⟨xb, 2, none⟩ = some (.int .i64 1) := HK.out.blk.cell 2
  have d0 : W.cell? ⟨cb, 0, none⟩ = some (.pointer none) := HK.out.cod.cell 0
  have d1 : W.cell? ⟨cb, 1, none⟩ = some (.pointer (some ⟨rb, 0, none⟩)) := HK.out.cod.cell 1
  unfold cdR
  go_enter Try.func31, Try.ntmps31
  go_wp2_with (rw [HWW.out.1, HWW.out.2])
  refine (sget_rel rb db _ _ _ HK.out.rd).mono ?_
  rintro en w1 ⟨S, a, k, m, e1, rfl, hL, hm, htx, hnil, hnew, hlit, hwf, hb⟩
  have hlt := HK.out.blk.lt
  have hB1 := HK.out.blk.step hL.2 (by have := HK.out.xr; simpa using this)
  have q1 := rq_there hB1
  have hfin : Blk (w1.setCells xb 7 (spC S a S.ds.length k)) xb (rqC ⟨cl, no, ⟨1, [], [], 0, 0, S⟩⟩ a S.ds.length k).toArray 40 := rq_set hB1
  have hrd := hL.1.stepM (F := [xb]) (Step.setCells (Step.refl [xb] w1) (b := xb) (.inl (by simp)) (spC S a S.ds.length k) 7) (by have := HK.out.xr; simp; omega) (fun hl => by have := HK.out.xd (by have := HK.out.ml; omega); simpa using this)
  have hst := (HK.out.st.then hL.2 (fun k hk => .inl (by simp at hk; simp [hk]))).setCells (b := xb) (.inl (by simp)) (spC S a S.ds.length k) 7
  have htx2 := htx.step' (Step.setCells (Step.refl [xb] w1) (b := xb) (.inl (by simp)) (spC S a S.ds.length k) 7) (fun hl b' off ha => by have := hnew hl b' off ha; simp; omega)
  have HF := Lib.hid (show FieldsRd rb db l e cl no 1 xb w (.returned (.tuple #[])) (w1.setCells xb 7 (spC S a S.ds.length k)) from ⟨⟨1, [], [], 0, 0, S⟩, a, k, m, e1, rfl, hrd, hst, hfin, rfl, by simp [onlyC], ⟨by simp, by simp, hlit⟩, ⟨by unfold I64; simp, by unfold M64; simp, I64_zero, hwf⟩, htx2, ⟨hnil, fun hl b off ha => Nat.le_trans HK.out.st.size (hnew hl b off ha)⟩, fun h => by
    obtain ⟨h2, h3⟩ := hb h
    obtain ⟨h4, h5⟩ := HK.out.bk h2
    refine ⟨h4, ?_⟩
    rw [h5, h3]
    simp [fieldsB]⟩)
  clear HK c2 d0 d1 hB1 hfin hrd hst htx2 hL hm htx hnil hnew hlit hwf hb hlt
  go_wp2_with fail
  go_end0
  exact HF.out
set_option maxRecDepth 20000 in
set_option maxHeartbeats 4000000 in
theorem fields_r2 (rb db : Nat) (l : List UInt8) (e : Int) (cl no : Nat) (xb : Nat) (w : World) (hR : Rd w rb db l e) (hxr : xb ≠ rb) (hxd : 0 < l.length → db ≠ xb) (hB : Blk w xb (rqC ⟨cl, no, pcK 2 [] [] 0 0⟩ none 0 0).toArray 40) :
    Calls Try.prog 31 #[cdR rb, .pointer (some ⟨xb, 2, none⟩)] w (FieldsRd rb db l e cl no 2 xb w) := by
  have hb := (Blk.new w #[.pointer none, .pointer (some ⟨rb, 0, none⟩)] 68)
  have hst := ((Step.refl [] w).alloc (.cells #[.pointer none, .pointer (some ⟨rb, 0, none⟩)] 68))
  have hK : Rk rb db l e xb w.heap.size (rqC ⟨cl, no, pcK 2 [] [] 0 0⟩ none 0 0).toArray [] l e w (w.alloc (.cells #[.pointer none, .pointer (some ⟨rb, 0, none⟩)] 68)) :=
    ⟨hR.step hst (by simp) (by simp), hst.mono (by simp), hb, hB.step hst (by simp), Nat.ne_of_gt hR.lts'.1, Nat.ne_of_gt hB.lt, hxr, hxd, Nat.le_refl _, fun h => ⟨h, rfl⟩⟩
  obtain ⟨W, hWW⟩ : ∃ W, w.alloc (.cells #[.pointer none, .pointer (some ⟨rb, 0, none⟩)] 68) = W := ⟨_, rfl⟩
  obtain ⟨cb, hcb⟩ : ∃ cb, w.heap.size = cb := ⟨_, rfl⟩
  rw [hWW, hcb] at hK
  have HWW := Lib.hid (And.intro hWW hcb)
  have HK := Lib.hid hK
  have HX := Lib.hid (And.intro hxr hxd)
  clear hWW hcb hK hb hst hR hB hxr hxd
  have c2 : W.cell? ⟨xb, 2, none⟩ = some (.int .i64 2) := HK.out.blk.cell 2
  have d0 : W.cell? ⟨cb, 0, none⟩ = some (.pointer none) := HK.out.cod.cell 0
  have d1 : W.cell? ⟨cb, 1, none⟩ = some (.pointer (some ⟨rb, 0, none⟩)) := HK.out.cod.cell 1
  unfold cdR
  go_enter Try.func31, Try.ntmps31
  go_wp2_with (rw [HWW.out.1, HWW.out.2])
  have HCall := Lib.hid (ctext_r rb db _ _ xb 4 _ _ (HK.out.rd.step (Step.refl [] _).drew (by simp) (by simp)) (HK.out.blk.cell 4) (HK.out.blk.free 4) HK.out.blk.lt HX.out.1 (fun hl => HX.out.2 (by have := HK.out.ml; omega)))
  go_region_with (first | (refine HCall.out.mono ?_; rintro en w1 ⟨x1, m1, e1, u1, rfl, rfl, hL, hm, hx1, hb⟩))
  all_goals
    have hK := HK.out.next (D' := (rqC ⟨cl, no, pcK 2 ([]) (x1) (0) (0)⟩ none 0 0).toArray) (i := 4) (u := .string (bstr x1)) (⟨hL.1, ((Step.refl [] _).drew.mono (by simp)).then hL.2 (fun k hk => .inl hk)⟩) hm hb rfl
    have HX1 := Lib.hid hx1
    clear HK hL hm hb hx1 HCall c2 d0 d1
    have HK := Lib.hid hK
    clear hK
    obtain ⟨V1, hV⟩ : ∃ V, u1.setCell ⟨xb, 4, none⟩ (.string (bstr x1)) = V := ⟨_, rfl⟩
    rw [hV] at HK ⊢
    clear hV
    have c2 : V1.cell? ⟨xb, 2, none⟩ = some (.int .i64 2) := HK.out.blk.cell 2
    have d0 : V1.cell? ⟨cb, 0, none⟩ = some (.pointer none) := HK.out.cod.cell 0
    have d1 : V1.cell? ⟨cb, 1, none⟩ = some (.pointer (some ⟨rb, 0, none⟩)) := HK.out.cod.cell 1
    go_wp2_with fail
    go_end0
    refine ⟨pcK 2 [] x1 0 0, none, 0, m1, e1, rfl, HK.out.rd, HK.out.st, HK.out.blk, rfl, by simp [onlyC, pcK], ⟨by simp [pcK], Nat.le_trans HX1.out (by decide), LitS_zero⟩, ⟨by unfold I64 pcK; simp, (by simp [pcK, M64]), I64_zero, WfS_zero⟩, fun i hi => by simp [pcK, ps0] at hi, ⟨fun _ => ⟨rfl, rfl⟩, fun h => by simp [pcK, ps0] at h⟩, fun h => ?_⟩
    obtain ⟨h1, h2⟩ := HK.out.bk h
    refine ⟨h1, ?_⟩
    rw [h2]
    simp [fieldsB, pcK]
set_option maxRecDepth 20000 in
set_option maxHeartbeats 4000000 in
theorem fields_r3 (rb db : Nat) (l : List UInt8) (e : Int) (cl no : Nat) (xb : Nat) (w : World) (hR : Rd w rb db l e) (hxr : xb ≠ rb) (hxd : 0 < l.length → db ≠ xb) (hB : Blk w xb (rqC ⟨cl, no, pcK 3 [] [] 0 0⟩ none 0 0).toArray 40) :
    Calls Try.prog 31 #[cdR rb, .pointer (some ⟨xb, 2, none⟩)] w (FieldsRd rb db l e cl no 3 xb w) := by
  have hb := (Blk.new w #[.pointer none, .pointer (some ⟨rb, 0, none⟩)] 68)
  have hst := ((Step.refl [] w).alloc (.cells #[.pointer none, .pointer (some ⟨rb, 0, none⟩)] 68))
  have hK : Rk rb db l e xb w.heap.size (rqC ⟨cl, no, pcK 3 [] [] 0 0⟩ none 0 0).toArray [] l e w (w.alloc (.cells #[.pointer none, .pointer (some ⟨rb, 0, none⟩)] 68)) :=
    ⟨hR.step hst (by simp) (by simp), hst.mono (by simp), hb, hB.step hst (by simp), Nat.ne_of_gt hR.lts'.1, Nat.ne_of_gt hB.lt, hxr, hxd, Nat.le_refl _, fun h => ⟨h, rfl⟩⟩
  obtain ⟨W, hWW⟩ : ∃ W, w.alloc (.cells #[.pointer none, .pointer (some ⟨rb, 0, none⟩)] 68) = W := ⟨_, rfl⟩
  obtain ⟨cb, hcb⟩ : ∃ cb, w.heap.size = cb := ⟨_, rfl⟩
  rw [hWW, hcb] at hK
  have HWW := Lib.hid (And.intro hWW hcb)
  have HK := Lib.hid hK
  have HX := Lib.hid (And.intro hxr hxd)
  clear hWW hcb hK hb hst hR hB hxr hxd
  have c2 : W.cell? ⟨xb, 2, none⟩ = some (.int .i64 3) := HK.out.blk.cell 2
  have d0 : W.cell? ⟨cb, 0, none⟩ = some (.pointer none) := HK.out.cod.cell 0
  have d1 : W.cell? ⟨cb, 1, none⟩ = some (.pointer (some ⟨rb, 0, none⟩)) := HK.out.cod.cell 1
  unfold cdR
  go_enter Try.func31, Try.ntmps31
  go_wp2_with (rw [HWW.out.1, HWW.out.2])
  have HCall := Lib.hid (ctext_r rb db _ _ xb 3 _ _ (HK.out.rd.step (Step.refl [] _).drew (by simp) (by simp)) (HK.out.blk.cell 3) (HK.out.blk.free 3) HK.out.blk.lt HX.out.1 (fun hl => HX.out.2 (by have := HK.out.ml; omega)))
  go_region_with (first | (refine HCall.out.mono ?_; rintro en w1 ⟨x1, m1, e1, u1, rfl, rfl, hL, hm, hx1, hb⟩))
  all_goals
    have hK := HK.out.next (D' := (rqC ⟨cl, no, pcK 3 (x1) ([]) (0) (0)⟩ none 0 0).toArray) (i := 3) (u := .string (bstr x1)) (⟨hL.1, ((Step.refl [] _).drew.mono (by simp)).then hL.2 (fun k hk => .inl hk)⟩) hm hb rfl
    have HX1 := Lib.hid hx1
    clear HK hL hm hb hx1 HCall c2 d0 d1
    have HK := Lib.hid hK
    clear hK
    obtain ⟨V1, hV⟩ : ∃ V, u1.setCell ⟨xb, 3, none⟩ (.string (bstr x1)) = V := ⟨_, rfl⟩
    rw [hV] at HK ⊢
    clear hV
    have c2 : V1.cell? ⟨xb, 2, none⟩ = some (.int .i64 3) := HK.out.blk.cell 2
    have d0 : V1.cell? ⟨cb, 0, none⟩ = some (.pointer none) := HK.out.cod.cell 0
    have d1 : V1.cell? ⟨cb, 1, none⟩ = some (.pointer (some ⟨rb, 0, none⟩)) := HK.out.cod.cell 1
    go_wp2_with fail
  have HCall := Lib.hid (cnum_r rb db _ _ xb 5 _ _ (HK.out.rd.step (Step.refl [] _).drew (by simp) (by simp)) (HK.out.blk.cell 5) (HK.out.blk.free 5) HK.out.blk.lt HX.out.1 (fun hl => HX.out.2 (by have := HK.out.ml; omega)))
  go_region_with (first | (refine HCall.out.mono ?_; rintro en w2 ⟨x2, m2, e2, u2, rfl, rfl, hL, hm, hx2, hb⟩))
  all_goals
    have hK := HK.out.next (D' := (rqC ⟨cl, no, pcK 3 (x1) ([]) (x2) (0)⟩ none 0 0).toArray) (i := 5) (u := .int .u64 (x2 : Int)) (⟨hL.1, ((Step.refl [] _).drew.mono (by simp)).then hL.2 (fun k hk => .inl hk)⟩) hm hb rfl
    have HX2 := Lib.hid hx2
    clear HK hL hm hb hx2 HCall c2 d0 d1
    have HK := Lib.hid hK
    clear hK
    obtain ⟨V2, hV⟩ : ∃ V, u2.setCell ⟨xb, 5, none⟩ (.int .u64 (x2 : Int)) = V := ⟨_, rfl⟩
    rw [hV] at HK ⊢
    clear hV
    have c2 : V2.cell? ⟨xb, 2, none⟩ = some (.int .i64 3) := HK.out.blk.cell 2
    have d0 : V2.cell? ⟨cb, 0, none⟩ = some (.pointer none) := HK.out.cod.cell 0
    have d1 : V2.cell? ⟨cb, 1, none⟩ = some (.pointer (some ⟨rb, 0, none⟩)) := HK.out.cod.cell 1
    go_wp2_with fail
    go_end0
    refine ⟨pcK 3 x1 [] x2 0, none, 0, m2, e2, rfl, HK.out.rd, HK.out.st, HK.out.blk, rfl, by simp [onlyC, pcK], ⟨Nat.le_trans HX1.out (by decide), by simp [pcK], LitS_zero⟩, ⟨by unfold I64 pcK; simp, HX2.out, I64_zero, WfS_zero⟩, fun i hi => by simp [pcK, ps0] at hi, ⟨fun _ => ⟨rfl, rfl⟩, fun h => by simp [pcK, ps0] at h⟩, fun h => ?_⟩
    obtain ⟨h1, h2⟩ := HK.out.bk h
    refine ⟨h1, ?_⟩
    rw [h2]
    simp [fieldsB, pcK]
set_option maxRecDepth 20000 in
set_option maxHeartbeats 4000000 in
theorem fields_r4 (rb db : Nat) (l : List UInt8) (e : Int) (cl no : Nat) (xb : Nat) (w : World) (hR : Rd w rb db l e) (hxr : xb ≠ rb) (hxd : 0 < l.length → db ≠ xb) (hB : Blk w xb (rqC ⟨cl, no, pcK 4 [] [] 0 0⟩ none 0 0).toArray 40) :
    Calls Try.prog 31 #[cdR rb, .pointer (some ⟨xb, 2, none⟩)] w (FieldsRd rb db l e cl no 4 xb w) := by
  have hb := (Blk.new w #[.pointer none, .pointer (some ⟨rb, 0, none⟩)] 68)
  have hst := ((Step.refl [] w).alloc (.cells #[.pointer none, .pointer (some ⟨rb, 0, none⟩)] 68))
  have hK : Rk rb db l e xb w.heap.size (rqC ⟨cl, no, pcK 4 [] [] 0 0⟩ none 0 0).toArray [] l e w (w.alloc (.cells #[.pointer none, .pointer (some ⟨rb, 0, none⟩)] 68)) :=
    ⟨hR.step hst (by simp) (by simp), hst.mono (by simp), hb, hB.step hst (by simp), Nat.ne_of_gt hR.lts'.1, Nat.ne_of_gt hB.lt, hxr, hxd, Nat.le_refl _, fun h => ⟨h, rfl⟩⟩
  obtain ⟨W, hWW⟩ : ∃ W, w.alloc (.cells #[.pointer none, .pointer (some ⟨rb, 0, none⟩)] 68) = W := ⟨_, rfl⟩
  obtain ⟨cb, hcb⟩ : ∃ cb, w.heap.size = cb := ⟨_, rfl⟩
  rw [hWW, hcb] at hK
  have HWW := Lib.hid (And.intro hWW hcb)
  have HK := Lib.hid hK
  have HX := Lib.hid (And.intro hxr hxd)
  clear hWW hcb hK hb hst hR hB hxr hxd
  have c2 : W.cell? ⟨xb, 2, none⟩ = some (.int .i64 4) := HK.out.blk.cell 2
  have d0 : W.cell? ⟨cb, 0, none⟩ = some (.pointer none) := HK.out.cod.cell 0
  have d1 : W.cell? ⟨cb, 1, none⟩ = some (.pointer (some ⟨rb, 0, none⟩)) := HK.out.cod.cell 1
  unfold cdR
  go_enter Try.func31, Try.ntmps31
  go_wp2_with (rw [HWW.out.1, HWW.out.2])
  have HCall := Lib.hid (ctext_r rb db _ _ xb 3 _ _ (HK.out.rd.step (Step.refl [] _).drew (by simp) (by simp)) (HK.out.blk.cell 3) (HK.out.blk.free 3) HK.out.blk.lt HX.out.1 (fun hl => HX.out.2 (by have := HK.out.ml; omega)))
  go_region_with (first | (refine HCall.out.mono ?_; rintro en w1 ⟨x1, m1, e1, u1, rfl, rfl, hL, hm, hx1, hb⟩))
  all_goals
    have hK := HK.out.next (D' := (rqC ⟨cl, no, pcK 4 (x1) ([]) (0) (0)⟩ none 0 0).toArray) (i := 3) (u := .string (bstr x1)) (⟨hL.1, ((Step.refl [] _).drew.mono (by simp)).then hL.2 (fun k hk => .inl hk)⟩) hm hb rfl
    have HX1 := Lib.hid hx1
    clear HK hL hm hb hx1 HCall c2 d0 d1
    have HK := Lib.hid hK
    clear hK
    obtain ⟨V1, hV⟩ : ∃ V, u1.setCell ⟨xb, 3, none⟩ (.string (bstr x1)) = V := ⟨_, rfl⟩
    rw [hV] at HK ⊢
    clear hV
    have c2 : V1.cell? ⟨xb, 2, none⟩ = some (.int .i64 4) := HK.out.blk.cell 2
    have d0 : V1.cell? ⟨cb, 0, none⟩ = some (.pointer none) := HK.out.cod.cell 0
    have d1 : V1.cell? ⟨cb, 1, none⟩ = some (.pointer (some ⟨rb, 0, none⟩)) := HK.out.cod.cell 1
    go_wp2_with fail
  have HCall := Lib.hid (cnum_r rb db _ _ xb 5 _ _ (HK.out.rd.step (Step.refl [] _).drew (by simp) (by simp)) (HK.out.blk.cell 5) (HK.out.blk.free 5) HK.out.blk.lt HX.out.1 (fun hl => HX.out.2 (by have := HK.out.ml; omega)))
  go_region_with (first | (refine HCall.out.mono ?_; rintro en w2 ⟨x2, m2, e2, u2, rfl, rfl, hL, hm, hx2, hb⟩))
  all_goals
    have hK := HK.out.next (D' := (rqC ⟨cl, no, pcK 4 (x1) ([]) (x2) (0)⟩ none 0 0).toArray) (i := 5) (u := .int .u64 (x2 : Int)) (⟨hL.1, ((Step.refl [] _).drew.mono (by simp)).then hL.2 (fun k hk => .inl hk)⟩) hm hb rfl
    have HX2 := Lib.hid hx2
    clear HK hL hm hb hx2 HCall c2 d0 d1
    have HK := Lib.hid hK
    clear hK
    obtain ⟨V2, hV⟩ : ∃ V, u2.setCell ⟨xb, 5, none⟩ (.int .u64 (x2 : Int)) = V := ⟨_, rfl⟩
    rw [hV] at HK ⊢
    clear hV
    have c2 : V2.cell? ⟨xb, 2, none⟩ = some (.int .i64 4) := HK.out.blk.cell 2
    have d0 : V2.cell? ⟨cb, 0, none⟩ = some (.pointer none) := HK.out.cod.cell 0
    have d1 : V2.cell? ⟨cb, 1, none⟩ = some (.pointer (some ⟨rb, 0, none⟩)) := HK.out.cod.cell 1
    go_wp2_with fail
  have HCall := Lib.hid (cint_r rb db _ _ xb 6 _ _ (HK.out.rd.step (Step.refl [] _).drew (by simp) (by simp)) (HK.out.blk.cell 6) (HK.out.blk.free 6) HK.out.blk.lt HX.out.1 (fun hl => HX.out.2 (by have := HK.out.ml; omega)))
  go_region_with (first | (refine HCall.out.mono ?_; rintro en w3 ⟨x3, m3, e3, u3, rfl, rfl, hL, hm, hx3, hb⟩))
  all_goals
    have hK := HK.out.next (D' := (rqC ⟨cl, no, pcK 4 (x1) ([]) (x2) (x3)⟩ none 0 0).toArray) (i := 6) (u := .int .i64 x3) (⟨hL.1, ((Step.refl [] _).drew.mono (by simp)).then hL.2 (fun k hk => .inl hk)⟩) hm hb rfl
    have HX3 := Lib.hid hx3
    clear HK hL hm hb hx3 HCall c2 d0 d1
    have HK := Lib.hid hK
    clear hK
    obtain ⟨V3, hV⟩ : ∃ V, u3.setCell ⟨xb, 6, none⟩ (.int .i64 x3) = V := ⟨_, rfl⟩
    rw [hV] at HK ⊢
    clear hV
    have c2 : V3.cell? ⟨xb, 2, none⟩ = some (.int .i64 4) := HK.out.blk.cell 2
    have d0 : V3.cell? ⟨cb, 0, none⟩ = some (.pointer none) := HK.out.cod.cell 0
    have d1 : V3.cell? ⟨cb, 1, none⟩ = some (.pointer (some ⟨rb, 0, none⟩)) := HK.out.cod.cell 1
    go_wp2_with fail
    go_end0
    refine ⟨pcK 4 x1 [] x2 x3, none, 0, m3, e3, rfl, HK.out.rd, HK.out.st, HK.out.blk, rfl, by simp [onlyC, pcK], ⟨Nat.le_trans HX1.out (by decide), by simp [pcK], LitS_zero⟩, ⟨by unfold I64 pcK; simp, HX2.out, HX3.out, WfS_zero⟩, fun i hi => by simp [pcK, ps0] at hi, ⟨fun _ => ⟨rfl, rfl⟩, fun h => by simp [pcK, ps0] at h⟩, fun h => ?_⟩
    obtain ⟨h1, h2⟩ := HK.out.bk h
    refine ⟨h1, ?_⟩
    rw [h2]
    simp [fieldsB, pcK]
set_option maxRecDepth 20000 in
set_option maxHeartbeats 4000000 in
theorem fields_r5 (rb db : Nat) (l : List UInt8) (e : Int) (cl no : Nat) (xb : Nat) (w : World) (hR : Rd w rb db l e) (hxr : xb ≠ rb) (hxd : 0 < l.length → db ≠ xb) (hB : Blk w xb (rqC ⟨cl, no, pcK 5 [] [] 0 0⟩ none 0 0).toArray 40) :
    Calls Try.prog 31 #[cdR rb, .pointer (some ⟨xb, 2, none⟩)] w (FieldsRd rb db l e cl no 5 xb w) := by
  have hb := (Blk.new w #[.pointer none, .pointer (some ⟨rb, 0, none⟩)] 68)
  have hst := ((Step.refl [] w).alloc (.cells #[.pointer none, .pointer (some ⟨rb, 0, none⟩)] 68))
  have hK : Rk rb db l e xb w.heap.size (rqC ⟨cl, no, pcK 5 [] [] 0 0⟩ none 0 0).toArray [] l e w (w.alloc (.cells #[.pointer none, .pointer (some ⟨rb, 0, none⟩)] 68)) :=
    ⟨hR.step hst (by simp) (by simp), hst.mono (by simp), hb, hB.step hst (by simp), Nat.ne_of_gt hR.lts'.1, Nat.ne_of_gt hB.lt, hxr, hxd, Nat.le_refl _, fun h => ⟨h, rfl⟩⟩
  obtain ⟨W, hWW⟩ : ∃ W, w.alloc (.cells #[.pointer none, .pointer (some ⟨rb, 0, none⟩)] 68) = W := ⟨_, rfl⟩
  obtain ⟨cb, hcb⟩ : ∃ cb, w.heap.size = cb := ⟨_, rfl⟩
  rw [hWW, hcb] at hK
  have HWW := Lib.hid (And.intro hWW hcb)
  have HK := Lib.hid hK
  have HX := Lib.hid (And.intro hxr hxd)
  clear hWW hcb hK hb hst hR hB hxr hxd
  have c2 : W.cell? ⟨xb, 2, none⟩ = some (.int .i64 5) := HK.out.blk.cell 2
  have d0 : W.cell? ⟨cb, 0, none⟩ = some (.pointer none) := HK.out.cod.cell 0
  have d1 : W.cell? ⟨cb, 1, none⟩ = some (.pointer (some ⟨rb, 0, none⟩)) := HK.out.cod.cell 1
  unfold cdR
  go_enter Try.func31, Try.ntmps31
  go_wp2_with (rw [HWW.out.1, HWW.out.2])
  have HCall := Lib.hid (ctext_r rb db _ _ xb 3 _ _ (HK.out.rd.step (Step.refl [] _).drew (by simp) (by simp)) (HK.out.blk.cell 3) (HK.out.blk.free 3) HK.out.blk.lt HX.out.1 (fun hl => HX.out.2 (by have := HK.out.ml; omega)))
  go_region_with (first | (refine HCall.out.mono ?_; rintro en w1 ⟨x1, m1, e1, u1, rfl, rfl, hL, hm, hx1, hb⟩))
  all_goals
    have hK := HK.out.next (D' := (rqC ⟨cl, no, pcK 5 (x1) ([]) (0) (0)⟩ none 0 0).toArray) (i := 3) (u := .string (bstr x1)) (⟨hL.1, ((Step.refl [] _).drew.mono (by simp)).then hL.2 (fun k hk => .inl hk)⟩) hm hb rfl
    have HX1 := Lib.hid hx1
    clear HK hL hm hb hx1 HCall c2 d0 d1
    have HK := Lib.hid hK
    clear hK
    obtain ⟨V1, hV⟩ : ∃ V, u1.setCell ⟨xb, 3, none⟩ (.string (bstr x1)) = V := ⟨_, rfl⟩
    rw [hV] at HK ⊢
    clear hV
    have c2 : V1.cell? ⟨xb, 2, none⟩ = some (.int .i64 5) := HK.out.blk.cell 2
    have d0 : V1.cell? ⟨cb, 0, none⟩ = some (.pointer none) := HK.out.cod.cell 0
    have d1 : V1.cell? ⟨cb, 1, none⟩ = some (.pointer (some ⟨rb, 0, none⟩)) := HK.out.cod.cell 1
    go_wp2_with fail
  have HCall := Lib.hid (cnum_r rb db _ _ xb 5 _ _ (HK.out.rd.step (Step.refl [] _).drew (by simp) (by simp)) (HK.out.blk.cell 5) (HK.out.blk.free 5) HK.out.blk.lt HX.out.1 (fun hl => HX.out.2 (by have := HK.out.ml; omega)))
  go_region_with (first | (refine HCall.out.mono ?_; rintro en w2 ⟨x2, m2, e2, u2, rfl, rfl, hL, hm, hx2, hb⟩))
  all_goals
    have hK := HK.out.next (D' := (rqC ⟨cl, no, pcK 5 (x1) ([]) (x2) (0)⟩ none 0 0).toArray) (i := 5) (u := .int .u64 (x2 : Int)) (⟨hL.1, ((Step.refl [] _).drew.mono (by simp)).then hL.2 (fun k hk => .inl hk)⟩) hm hb rfl
    have HX2 := Lib.hid hx2
    clear HK hL hm hb hx2 HCall c2 d0 d1
    have HK := Lib.hid hK
    clear hK
    obtain ⟨V2, hV⟩ : ∃ V, u2.setCell ⟨xb, 5, none⟩ (.int .u64 (x2 : Int)) = V := ⟨_, rfl⟩
    rw [hV] at HK ⊢
    clear hV
    have c2 : V2.cell? ⟨xb, 2, none⟩ = some (.int .i64 5) := HK.out.blk.cell 2
    have d0 : V2.cell? ⟨cb, 0, none⟩ = some (.pointer none) := HK.out.cod.cell 0
    have d1 : V2.cell? ⟨cb, 1, none⟩ = some (.pointer (some ⟨rb, 0, none⟩)) := HK.out.cod.cell 1
    go_wp2_with fail
    go_end0
    refine ⟨pcK 5 x1 [] x2 0, none, 0, m2, e2, rfl, HK.out.rd, HK.out.st, HK.out.blk, rfl, by simp [onlyC, pcK], ⟨Nat.le_trans HX1.out (by decide), by simp [pcK], LitS_zero⟩, ⟨by unfold I64 pcK; simp, HX2.out, I64_zero, WfS_zero⟩, fun i hi => by simp [pcK, ps0] at hi, ⟨fun _ => ⟨rfl, rfl⟩, fun h => by simp [pcK, ps0] at h⟩, fun h => ?_⟩
    obtain ⟨h1, h2⟩ := HK.out.bk h
    refine ⟨h1, ?_⟩
    rw [h2]
    simp [fieldsB, pcK]
set_option maxRecDepth 20000 in
set_option maxHeartbeats 4000000 in
theorem fields_r6 (rb db : Nat) (l : List UInt8) (e : Int) (cl no : Nat) (xb : Nat) (w : World) (hR : Rd w rb db l e) (hxr : xb ≠ rb) (hxd : 0 < l.length → db ≠ xb) (hB : Blk w xb (rqC ⟨cl, no, pcK 6 [] [] 0 0⟩ none 0 0).toArray 40) :
    Calls Try.prog 31 #[cdR rb, .pointer (some ⟨xb, 2, none⟩)] w (FieldsRd rb db l e cl no 6 xb w) := by
  have hb := (Blk.new w #[.pointer none, .pointer (some ⟨rb, 0, none⟩)] 68)
  have hst := ((Step.refl [] w).alloc (.cells #[.pointer none, .pointer (some ⟨rb, 0, none⟩)] 68))
  have hK : Rk rb db l e xb w.heap.size (rqC ⟨cl, no, pcK 6 [] [] 0 0⟩ none 0 0).toArray [] l e w (w.alloc (.cells #[.pointer none, .pointer (some ⟨rb, 0, none⟩)] 68)) :=
    ⟨hR.step hst (by simp) (by simp), hst.mono (by simp), hb, hB.step hst (by simp), Nat.ne_of_gt hR.lts'.1, Nat.ne_of_gt hB.lt, hxr, hxd, Nat.le_refl _, fun h => ⟨h, rfl⟩⟩
  obtain ⟨W, hWW⟩ : ∃ W, w.alloc (.cells #[.pointer none, .pointer (some ⟨rb, 0, none⟩)] 68) = W := ⟨_, rfl⟩
  obtain ⟨cb, hcb⟩ : ∃ cb, w.heap.size = cb := ⟨_, rfl⟩
  rw [hWW, hcb] at hK
  have HWW := Lib.hid (And.intro hWW hcb)
  have HK := Lib.hid hK
  have HX := Lib.hid (And.intro hxr hxd)
  clear hWW hcb hK hb hst hR hB hxr hxd
  have c2 : W.cell? ⟨xb, 2, none⟩ = some (.int .i64 6) := HK.out.blk.cell 2
  have d0 : W.cell? ⟨cb, 0, none⟩ = some (.pointer none) := HK.out.cod.cell 0
  have d1 : W.cell? ⟨cb, 1, none⟩ = some (.pointer (some ⟨rb, 0, none⟩)) := HK.out.cod.cell 1
  unfold cdR
  go_enter Try.func31, Try.ntmps31
  go_wp2_with (rw [HWW.out.1, HWW.out.2])
  have HCall := Lib.hid (ctext_r rb db _ _ xb 3 _ _ (HK.out.rd.step (Step.refl [] _).drew (by simp) (by simp)) (HK.out.blk.cell 3) (HK.out.blk.free 3) HK.out.blk.lt HX.out.1 (fun hl => HX.out.2 (by have := HK.out.ml; omega)))
  go_region_with (first | (refine HCall.out.mono ?_; rintro en w1 ⟨x1, m1, e1, u1, rfl, rfl, hL, hm, hx1, hb⟩))
  all_goals
    have hK := HK.out.next (D' := (rqC ⟨cl, no, pcK 6 (x1) ([]) (0) (0)⟩ none 0 0).toArray) (i := 3) (u := .string (bstr x1)) (⟨hL.1, ((Step.refl [] _).drew.mono (by simp)).then hL.2 (fun k hk => .inl hk)⟩) hm hb rfl
    have HX1 := Lib.hid hx1
    clear HK hL hm hb hx1 HCall c2 d0 d1
    have HK := Lib.hid hK
    clear hK
    obtain ⟨V1, hV⟩ : ∃ V, u1.setCell ⟨xb, 3, none⟩ (.string (bstr x1)) = V := ⟨_, rfl⟩
    rw [hV] at HK ⊢
    clear hV
    have c2 : V1.cell? ⟨xb, 2, none⟩ = some (.int .i64 6) := HK.out.blk.cell 2
    have d0 : V1.cell? ⟨cb, 0, none⟩ = some (.pointer none) := HK.out.cod.cell 0
    have d1 : V1.cell? ⟨cb, 1, none⟩ = some (.pointer (some ⟨rb, 0, none⟩)) := HK.out.cod.cell 1
    go_wp2_with fail
    go_end0
    refine ⟨pcK 6 x1 [] 0 0, none, 0, m1, e1, rfl, HK.out.rd, HK.out.st, HK.out.blk, rfl, by simp [onlyC, pcK], ⟨Nat.le_trans HX1.out (by decide), by simp [pcK], LitS_zero⟩, ⟨by unfold I64 pcK; simp, (by simp [pcK, M64]), I64_zero, WfS_zero⟩, fun i hi => by simp [pcK, ps0] at hi, ⟨fun _ => ⟨rfl, rfl⟩, fun h => by simp [pcK, ps0] at h⟩, fun h => ?_⟩
    obtain ⟨h1, h2⟩ := HK.out.bk h
    refine ⟨h1, ?_⟩
    rw [h2]
    simp [fieldsB, pcK]
set_option maxRecDepth 20000 in
set_option maxHeartbeats 4000000 in
theorem fields_r7 (rb db : Nat) (l : List UInt8) (e : Int) (cl no : Nat) (xb : Nat) (w : World) (hR : Rd w rb db l e) (hxr : xb ≠ rb) (hxd : 0 < l.length → db ≠ xb) (hB : Blk w xb (rqC ⟨cl, no, pcK 7 [] [] 0 0⟩ none 0 0).toArray 40) :
    Calls Try.prog 31 #[cdR rb, .pointer (some ⟨xb, 2, none⟩)] w (FieldsRd rb db l e cl no 7 xb w) := by
  have hb := (Blk.new w #[.pointer none, .pointer (some ⟨rb, 0, none⟩)] 68)
  have hst := ((Step.refl [] w).alloc (.cells #[.pointer none, .pointer (some ⟨rb, 0, none⟩)] 68))
  have hK : Rk rb db l e xb w.heap.size (rqC ⟨cl, no, pcK 7 [] [] 0 0⟩ none 0 0).toArray [] l e w (w.alloc (.cells #[.pointer none, .pointer (some ⟨rb, 0, none⟩)] 68)) :=
    ⟨hR.step hst (by simp) (by simp), hst.mono (by simp), hb, hB.step hst (by simp), Nat.ne_of_gt hR.lts'.1, Nat.ne_of_gt hB.lt, hxr, hxd, Nat.le_refl _, fun h => ⟨h, rfl⟩⟩
  obtain ⟨W, hWW⟩ : ∃ W, w.alloc (.cells #[.pointer none, .pointer (some ⟨rb, 0, none⟩)] 68) = W := ⟨_, rfl⟩
  obtain ⟨cb, hcb⟩ : ∃ cb, w.heap.size = cb := ⟨_, rfl⟩
  rw [hWW, hcb] at hK
  have HWW := Lib.hid (And.intro hWW hcb)
  have HK := Lib.hid hK
  have HX := Lib.hid (And.intro hxr hxd)
  clear hWW hcb hK hb hst hR hB hxr hxd
  have c2 : W.cell? ⟨xb, 2, none⟩ = some (.int .i64 7) := HK.out.blk.cell 2
  have d0 : W.cell? ⟨cb, 0, none⟩ = some (.pointer none) := HK.out.cod.cell 0
  have d1 : W.cell? ⟨cb, 1, none⟩ = some (.pointer (some ⟨rb, 0, none⟩)) := HK.out.cod.cell 1
  unfold cdR
  go_enter Try.func31, Try.ntmps31
  go_wp2_with (rw [HWW.out.1, HWW.out.2])
  have HCall := Lib.hid (ctext_r rb db _ _ xb 3 _ _ (HK.out.rd.step (Step.refl [] _).drew (by simp) (by simp)) (HK.out.blk.cell 3) (HK.out.blk.free 3) HK.out.blk.lt HX.out.1 (fun hl => HX.out.2 (by have := HK.out.ml; omega)))
  go_region_with (first | (refine HCall.out.mono ?_; rintro en w1 ⟨x1, m1, e1, u1, rfl, rfl, hL, hm, hx1, hb⟩))
  all_goals
    have hK := HK.out.next (D' := (rqC ⟨cl, no, pcK 7 (x1) ([]) (0) (0)⟩ none 0 0).toArray) (i := 3) (u := .string (bstr x1)) (⟨hL.1, ((Step.refl [] _).drew.mono (by simp)).then hL.2 (fun k hk => .inl hk)⟩) hm hb rfl
    have HX1 := Lib.hid hx1
    clear HK hL hm hb hx1 HCall c2 d0 d1
    have HK := Lib.hid hK
    clear hK
    obtain ⟨V1, hV⟩ : ∃ V, u1.setCell ⟨xb, 3, none⟩ (.string (bstr x1)) = V := ⟨_, rfl⟩
    rw [hV] at HK ⊢
    clear hV
    have c2 : V1.cell? ⟨xb, 2, none⟩ = some (.int .i64 7) := HK.out.blk.cell 2
    have d0 : V1.cell? ⟨cb, 0, none⟩ = some (.pointer none) := HK.out.cod.cell 0
    have d1 : V1.cell? ⟨cb, 1, none⟩ = some (.pointer (some ⟨rb, 0, none⟩)) := HK.out.cod.cell 1
    go_wp2_with fail
    go_end0
    refine ⟨pcK 7 x1 [] 0 0, none, 0, m1, e1, rfl, HK.out.rd, HK.out.st, HK.out.blk, rfl, by simp [onlyC, pcK], ⟨Nat.le_trans HX1.out (by decide), by simp [pcK], LitS_zero⟩, ⟨by unfold I64 pcK; simp, (by simp [pcK, M64]), I64_zero, WfS_zero⟩, fun i hi => by simp [pcK, ps0] at hi, ⟨fun _ => ⟨rfl, rfl⟩, fun h => by simp [pcK, ps0] at h⟩, fun h => ?_⟩
    obtain ⟨h1, h2⟩ := HK.out.bk h
    refine ⟨h1, ?_⟩
    rw [h2]
    simp [fieldsB, pcK]
set_option maxRecDepth 20000 in
set_option maxHeartbeats 4000000 in
theorem fields_r8 (rb db : Nat) (l : List UInt8) (e : Int) (cl no : Nat) (xb : Nat) (w : World) (hR : Rd w rb db l e) (hxr : xb ≠ rb) (hxd : 0 < l.length → db ≠ xb) (hB : Blk w xb (rqC ⟨cl, no, pcK 8 [] [] 0 0⟩ none 0 0).toArray 40) :
    Calls Try.prog 31 #[cdR rb, .pointer (some ⟨xb, 2, none⟩)] w (FieldsRd rb db l e cl no 8 xb w) := by
  have hb := (Blk.new w #[.pointer none, .pointer (some ⟨rb, 0, none⟩)] 68)
  have hst := ((Step.refl [] w).alloc (.cells #[.pointer none, .pointer (some ⟨rb, 0, none⟩)] 68))
  have hK : Rk rb db l e xb w.heap.size (rqC ⟨cl, no, pcK 8 [] [] 0 0⟩ none 0 0).toArray [] l e w (w.alloc (.cells #[.pointer none, .pointer (some ⟨rb, 0, none⟩)] 68)) :=
    ⟨hR.step hst (by simp) (by simp), hst.mono (by simp), hb, hB.step hst (by simp), Nat.ne_of_gt hR.lts'.1, Nat.ne_of_gt hB.lt, hxr, hxd, Nat.le_refl _, fun h => ⟨h, rfl⟩⟩
  obtain ⟨W, hWW⟩ : ∃ W, w.alloc (.cells #[.pointer none, .pointer (some ⟨rb, 0, none⟩)] 68) = W := ⟨_, rfl⟩
  obtain ⟨cb, hcb⟩ : ∃ cb, w.heap.size = cb := ⟨_, rfl⟩
  rw [hWW, hcb] at hK
  have HWW := Lib.hid (And.intro hWW hcb)
  have HK := Lib.hid hK
  have HX := Lib.hid (And.intro hxr hxd)
  clear hWW hcb hK hb hst hR hB hxr hxd
  have c2 : W.cell? ⟨xb, 2, none⟩ = some (.int .i64 8) := HK.out.blk.cell 2
  have d0 : W.cell? ⟨cb, 0, none⟩ = some (.pointer none) := HK.out.cod.cell 0
  have d1 : W.cell? ⟨cb, 1, none⟩ = some (.pointer (some ⟨rb, 0, none⟩)) := HK.out.cod.cell 1
  unfold cdR
  go_enter Try.func31, Try.ntmps31
  go_wp2_with (rw [HWW.out.1, HWW.out.2])
  have HCall := Lib.hid (ctext_r rb db _ _ xb 3 _ _ (HK.out.rd.step (Step.refl [] _).drew (by simp) (by simp)) (HK.out.blk.cell 3) (HK.out.blk.free 3) HK.out.blk.lt HX.out.1 (fun hl => HX.out.2 (by have := HK.out.ml; omega)))
  go_region_with (first | (refine HCall.out.mono ?_; rintro en w1 ⟨x1, m1, e1, u1, rfl, rfl, hL, hm, hx1, hb⟩))
  all_goals
    have hK := HK.out.next (D' := (rqC ⟨cl, no, pcK 8 (x1) ([]) (0) (0)⟩ none 0 0).toArray) (i := 3) (u := .string (bstr x1)) (⟨hL.1, ((Step.refl [] _).drew.mono (by simp)).then hL.2 (fun k hk => .inl hk)⟩) hm hb rfl
    have HX1 := Lib.hid hx1
    clear HK hL hm hb hx1 HCall c2 d0 d1
    have HK := Lib.hid hK
    clear hK
    obtain ⟨V1, hV⟩ : ∃ V, u1.setCell ⟨xb, 3, none⟩ (.string (bstr x1)) = V := ⟨_, rfl⟩
    rw [hV] at HK ⊢
    clear hV
    have c2 : V1.cell? ⟨xb, 2, none⟩ = some (.int .i64 8) := HK.out.blk.cell 2
    have d0 : V1.cell? ⟨cb, 0, none⟩ = some (.pointer none) := HK.out.cod.cell 0
    have d1 : V1.cell? ⟨cb, 1, none⟩ = some (.pointer (some ⟨rb, 0, none⟩)) := HK.out.cod.cell 1
    go_wp2_with fail
    go_end0
    refine ⟨pcK 8 x1 [] 0 0, none, 0, m1, e1, rfl, HK.out.rd, HK.out.st, HK.out.blk, rfl, by simp [onlyC, pcK], ⟨Nat.le_trans HX1.out (by decide), by simp [pcK], LitS_zero⟩, ⟨by unfold I64 pcK; simp, (by simp [pcK, M64]), I64_zero, WfS_zero⟩, fun i hi => by simp [pcK, ps0] at hi, ⟨fun _ => ⟨rfl, rfl⟩, fun h => by simp [pcK, ps0] at h⟩, fun h => ?_⟩
    obtain ⟨h1, h2⟩ := HK.out.bk h
    refine ⟨h1, ?_⟩
    rw [h2]
    simp [fieldsB, pcK]
set_option maxRecDepth 20000 in
set_option maxHeartbeats 4000000 in
theorem fields_r9 (rb db : Nat) (l : List UInt8) (e : Int) (cl no : Nat) (xb : Nat) (w : World) (hR : Rd w rb db l e) (hxr : xb ≠ rb) (hxd : 0 < l.length → db ≠ xb) (hB : Blk w xb (rqC ⟨cl, no, pcK 9 [] [] 0 0⟩ none 0 0).toArray 40) :
    Calls Try.prog 31 #[cdR rb, .pointer (some ⟨xb, 2, none⟩)] w (FieldsRd rb db l e cl no 9 xb w) := by
  have hb := (Blk.new w #[.pointer none, .pointer (some ⟨rb, 0, none⟩)] 68)
  have hst := ((Step.refl [] w).alloc (.cells #[.pointer none, .pointer (some ⟨rb, 0, none⟩)] 68))
  have hK : Rk rb db l e xb w.heap.size (rqC ⟨cl, no, pcK 9 [] [] 0 0⟩ none 0 0).toArray [] l e w (w.alloc (.cells #[.pointer none, .pointer (some ⟨rb, 0, none⟩)] 68)) :=
    ⟨hR.step hst (by simp) (by simp), hst.mono (by simp), hb, hB.step hst (by simp), Nat.ne_of_gt hR.lts'.1, Nat.ne_of_gt hB.lt, hxr, hxd, Nat.le_refl _, fun h => ⟨h, rfl⟩⟩
  obtain ⟨W, hWW⟩ : ∃ W, w.alloc (.cells #[.pointer none, .pointer (some ⟨rb, 0, none⟩)] 68) = W := ⟨_, rfl⟩
  obtain ⟨cb, hcb⟩ : ∃ cb, w.heap.size = cb := ⟨_, rfl⟩
  rw [hWW, hcb] at hK
  have HWW := Lib.hid (And.intro hWW hcb)
  have HK := Lib.hid hK
  have HX := Lib.hid (And.intro hxr hxd)
  clear hWW hcb hK hb hst hR hB hxr hxd
  have c2 : W.cell? ⟨xb, 2, none⟩ = some (.int .i64 9) := HK.out.blk.cell 2
  have d0 : W.cell? ⟨cb, 0, none⟩ = some (.pointer none) := HK.out.cod.cell 0
  have d1 : W.cell? ⟨cb, 1, none⟩ = some (.pointer (some ⟨rb, 0, none⟩)) := HK.out.cod.cell 1
  unfold cdR
  go_enter Try.func31, Try.ntmps31
  go_wp2_with (rw [HWW.out.1, HWW.out.2])
  have HCall := Lib.hid (cint_r rb db _ _ xb 6 _ _ (HK.out.rd.step (Step.refl [] _).drew (by simp) (by simp)) (HK.out.blk.cell 6) (HK.out.blk.free 6) HK.out.blk.lt HX.out.1 (fun hl => HX.out.2 (by have := HK.out.ml; omega)))
  go_region_with (first | (refine HCall.out.mono ?_; rintro en w1 ⟨x1, m1, e1, u1, rfl, rfl, hL, hm, hx1, hb⟩))
  all_goals
    have hK := HK.out.next (D' := (rqC ⟨cl, no, pcK 9 ([]) ([]) (0) (x1)⟩ none 0 0).toArray) (i := 6) (u := .int .i64 x1) (⟨hL.1, ((Step.refl [] _).drew.mono (by simp)).then hL.2 (fun k hk => .inl hk)⟩) hm hb rfl
    have HX1 := Lib.hid hx1
    clear HK hL hm hb hx1 HCall c2 d0 d1
    have HK := Lib.hid hK
    clear hK
    obtain ⟨V1, hV⟩ : ∃ V, u1.setCell ⟨xb, 6, none⟩ (.int .i64 x1) = V := ⟨_, rfl⟩
    rw [hV] at HK ⊢
    clear hV
    have c2 : V1.cell? ⟨xb, 2, none⟩ = some (.int .i64 9) := HK.out.blk.cell 2
    have d0 : V1.cell? ⟨cb, 0, none⟩ = some (.pointer none) := HK.out.cod.cell 0
    have d1 : V1.cell? ⟨cb, 1, none⟩ = some (.pointer (some ⟨rb, 0, none⟩)) := HK.out.cod.cell 1
    go_wp2_with fail
    go_end0
    refine ⟨pcK 9 [] [] 0 x1, none, 0, m1, e1, rfl, HK.out.rd, HK.out.st, HK.out.blk, rfl, by simp [onlyC, pcK], ⟨by simp [pcK], by simp [pcK], LitS_zero⟩, ⟨by unfold I64 pcK; simp, (by simp [pcK, M64]), HX1.out, WfS_zero⟩, fun i hi => by simp [pcK, ps0] at hi, ⟨fun _ => ⟨rfl, rfl⟩, fun h => by simp [pcK, ps0] at h⟩, fun h => ?_⟩
    obtain ⟨h1, h2⟩ := HK.out.bk h
    refine ⟨h1, ?_⟩
    rw [h2]
    simp [fieldsB, pcK]
theorem fields_r (rb db : Nat) (l : List UInt8) (e : Int) (cl no : Nat) (xb : Nat) (w : World) (hR : Rd w rb db l e) (hxr : xb ≠ rb) (hxd : 0 < l.length → db ≠ xb) (K : Int) (hk : okK K) (hB : Blk w xb (rqC ⟨cl, no, pcK K [] [] 0 0⟩ none 0 0).toArray 40) :
    Calls Try.prog 31 #[cdR rb, .pointer (some ⟨xb, 2, none⟩)] w (FieldsRd rb db l e cl no K xb w) := by
  rcases kinds hk with h | h | h | h | h | h | h | h | h | h <;> subst h
  · exact fields_r0 rb db l e cl no xb w hR hxr hxd hB
  · exact fields_r1 rb db l e cl no xb w hR hxr hxd hB
  · exact fields_r2 rb db l e cl no xb w hR hxr hxd hB
  · exact fields_r3 rb db l e cl no xb w hR hxr hxd hB
  · exact fields_r4 rb db l e cl no xb w hR hxr hxd hB
  · exact fields_r5 rb db l e cl no xb w hR hxr hxd hB
  · exact fields_r6 rb db l e cl no xb w hR hxr hxd hB
  · exact fields_r7 rb db l e cl no xb w hR hxr hxd hB
  · exact fields_r8 rb db l e cl no xb w hR hxr hxd hB
  · exact fields_r9 rb db l e cl no xb w hR hxr hxd hB
end Go.Proofs.Ytdfkagpnfgmbeaa
