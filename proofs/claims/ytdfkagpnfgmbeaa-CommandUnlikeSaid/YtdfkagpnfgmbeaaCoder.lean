/- command.coder: num, int, text, both ways. -/
import Derived.Test.YtdfkagpnfgmbeaaSpGet
import Derived.Test.YtdfkagpnfgmbeaaSpPut
import Derived.Deep.RegionWith

namespace Go.Proofs.Ytdfkagpnfgmbeaa
set_option linter.unusedVariables false
set_option linter.unusedSimpArgs false
open Go.RowKit

theorem Wrote.pre {base pb : Nat} {v : Value} {bs : List UInt8} {w w1 w' : World} {e : Ending} (hs : Step [] w w1) (h : Wrote base pb v bs w1 e w') : Wrote base pb v bs w e w' := by
  obtain ⟨he, v', hW, hst, hf⟩ := h
  exact ⟨he, v', hW, (hs.mono (by simp)).then hst (fun k hk => .inl hk), fun k hk => (hf k hk).imp id (fun h => Nat.le_trans hs.size h)⟩
/-- a coder that writes, that reads -/
def cdW (pb : Nat) : Value := .agg #[.pointer (some ⟨pb, 0, none⟩), .pointer none]
def cdR (rb : Nat) : Value := .agg #[.pointer none, .pointer (some ⟨rb, 0, none⟩)]

set_option maxRecDepth 20000 in
set_option maxHeartbeats 1000000 in
theorem cnum_w (base pb : Nat) (v : Value) (bs : List UInt8) (x : Nat) (xb xo : Nat) (w : World) (hW : Wr w base pb v bs) (hc : w.cell? ⟨xb, xo, none⟩ = some (.int .u64 (x : Int))) (hl : xb < w.heap.size) (hx : x < M64) (hlen : bs.length ≤ 1000000000) :
    Calls Try.prog 44 #[cdW pb, .pointer (some ⟨xb, xo, none⟩)] w (Wrote base pb v (bs ++ numB x) w) := by
  have hS := ((Step.refl [] w).alloc (.cells #[.pointer (some ⟨pb, 0, none⟩), .pointer none] 68)).drew
  have HC := Lib.hid ((num_any base pb v bs x _ (hW.step hS (by simp) (by simp)) hx (by omega)).mono fun e w' h => Wrote.pre hS h)
  have hb := (Blk.new w #[.pointer (some ⟨pb, 0, none⟩), .pointer none] 68)
  have c0 := hb.cell 0
  have c1 := hb.cell 1
  have cx : (w.alloc (.cells #[.pointer (some ⟨pb, 0, none⟩), .pointer none] 68)).cell? ⟨xb, xo, none⟩ = some (.int .u64 (x : Int)) := (((Step.refl [] w).alloc _).cell hl (by simp)).trans hc
  simp at c0 c1
  clear hS hb hW hc hx (by omega)
  unfold cdW
  go_enter Try.func44, Try.ntmps44
  go_wp2_with fail
  go_region_with (first | (refine HC.out.mono ?_; rintro e w1 hwr; obtain ⟨rfl, hwr2⟩ := hwr))
  all_goals
    go_wp2_with fail
    go_end0
    exact ⟨rfl, hwr2⟩
set_option maxRecDepth 20000 in
set_option maxHeartbeats 1000000 in
theorem cnum_r (rb db : Nat) (l : List UInt8) (e : Int) (xb xo : Nat) (u : Value) (w : World) (hR : Rd w rb db l e) (hc : w.cell? ⟨xb, xo, none⟩ = some u) (hf : w.frozen? ⟨xb, xo, none⟩ = false) (hl : xb < w.heap.size) (hne : xb ≠ rb) (hnd : 0 < l.length → db ≠ xb) :
    Calls Try.prog 44 #[cdR rb, .pointer (some ⟨xb, xo, none⟩)] w fun en w' => ∃ (x : Nat) (m : List UInt8) (e1 : Int) (w1 : World), en = .returned (.tuple #[]) ∧ w' = w1.setCell ⟨xb, xo, none⟩ (.int .u64 (x : Int)) ∧ Left rb db m e1 w w1 ∧ m.length ≤ l.length ∧ x < M64 ∧ (e1 = 0 → e = 0 ∧ l = numB x ++ m) := by
  have hS := ((Step.refl [] w).alloc (.cells #[.pointer none, .pointer (some ⟨rb, 0, none⟩)] 68))
  have HC := Lib.hid (rnum_rel rb db l e _ (hR.step hS (by simp) (by simp)))
  have hb := (Blk.new w #[.pointer none, .pointer (some ⟨rb, 0, none⟩)] 68)
  have c0 := hb.cell 0
  have c1 := hb.cell 1
  simp at c0 c1
  have cx : (w.alloc (.cells #[.pointer none, .pointer (some ⟨rb, 0, none⟩)] 68)).cell? ⟨xb, xo, none⟩ = some u := (hS.cell hl (by simp)).trans hc
  have fx : (w.alloc (.cells #[.pointer none, .pointer (some ⟨rb, 0, none⟩)] 68)).frozen? ⟨xb, xo, none⟩ = false := (hS.frozen hl (by simp)).trans hf
  have hl2 := Nat.lt_of_lt_of_le hl hS.size
  have HS := Lib.hid (And.intro hS (And.intro cx (And.intro fx hl2)))
  clear hS hb hR hc hf hl cx fx hl2
  have HNE := Lib.hid (And.intro hne hnd)
  clear hne hnd
  unfold cdR
  go_enter Try.func44, Try.ntmps44
  go_wp2_with fail
  refine HC.out.mono ?_
  rintro en w1 ⟨x, m, e1, rfl, hL, hm, hx, hb, -⟩
  have cx := (hL.2.cell HS.out.2.2.2 (by simpa using HNE.out.1)).trans HS.out.2.1
  have fx := (hL.2.frozen HS.out.2.2.2 (by simpa using HNE.out.1)).trans HS.out.2.2.1
  have HL := Lib.hid (And.intro hL (And.intro hm (And.intro hx hb)))
  clear hL hm hx hb
  go_wp2_with fail
  go_end0
  exact ⟨x, m, e1, w1, rfl, rfl, ⟨HL.out.1.1, (HS.out.1.mono (by simp)).then HL.out.1.2 (fun k hk => .inl hk)⟩, HL.out.2⟩
set_option maxRecDepth 20000 in
set_option maxHeartbeats 1000000 in
theorem cint_w (base pb : Nat) (v : Value) (bs : List UInt8) (x : Int) (xb xo : Nat) (w : World) (hW : Wr w base pb v bs) (hc : w.cell? ⟨xb, xo, none⟩ = some (.int .i64 x)) (hl : xb < w.heap.size) (hx : I64 x) (hlen : bs.length ≤ 1000000000) :
    Calls Try.prog 45 #[cdW pb, .pointer (some ⟨xb, xo, none⟩)] w (Wrote base pb v (bs ++ intB x) w) := by
  have hS := ((Step.refl [] w).alloc (.cells #[.pointer (some ⟨pb, 0, none⟩), .pointer none] 68)).drew
  have HC := Lib.hid ((wint_any base pb v bs x _ (hW.step hS (by simp) (by simp)) hx (by omega)).mono fun e w' h => Wrote.pre hS h)
  have hb := (Blk.new w #[.pointer (some ⟨pb, 0, none⟩), .pointer none] 68)
  have c0 := hb.cell 0
  have c1 := hb.cell 1
  have cx : (w.alloc (.cells #[.pointer (some ⟨pb, 0, none⟩), .pointer none] 68)).cell? ⟨xb, xo, none⟩ = some (.int .i64 x) := (((Step.refl [] w).alloc _).cell hl (by simp)).trans hc
  simp at c0 c1
  clear hS hb hW hc hx (by omega)
  unfold cdW
  go_enter Try.func45, Try.ntmps45
  go_wp2_with fail
  go_region_with (first | (refine HC.out.mono ?_; rintro e w1 hwr; obtain ⟨rfl, hwr2⟩ := hwr))
  all_goals
    go_wp2_with fail
    go_end0
    exact ⟨rfl, hwr2⟩
set_option maxRecDepth 20000 in
set_option maxHeartbeats 1000000 in
theorem cint_r (rb db : Nat) (l : List UInt8) (e : Int) (xb xo : Nat) (u : Value) (w : World) (hR : Rd w rb db l e) (hc : w.cell? ⟨xb, xo, none⟩ = some u) (hf : w.frozen? ⟨xb, xo, none⟩ = false) (hl : xb < w.heap.size) (hne : xb ≠ rb) (hnd : 0 < l.length → db ≠ xb) :
    Calls Try.prog 45 #[cdR rb, .pointer (some ⟨xb, xo, none⟩)] w fun en w' => ∃ (x : Int) (m : List UInt8) (e1 : Int) (w1 : World), en = .returned (.tuple #[]) ∧ w' = w1.setCell ⟨xb, xo, none⟩ (.int .i64 x) ∧ Left rb db m e1 w w1 ∧ m.length ≤ l.length ∧ I64 x ∧ (e1 = 0 → e = 0 ∧ l = intB x ++ m) := by
  have hS := ((Step.refl [] w).alloc (.cells #[.pointer none, .pointer (some ⟨rb, 0, none⟩)] 68))
  have HC := Lib.hid (rint_rel rb db l e _ (hR.step hS (by simp) (by simp)))
  have hb := (Blk.new w #[.pointer none, .pointer (some ⟨rb, 0, none⟩)] 68)
  have c0 := hb.cell 0
  have c1 := hb.cell 1
  simp at c0 c1
  have cx : (w.alloc (.cells #[.pointer none, .pointer (some ⟨rb, 0, none⟩)] 68)).cell? ⟨xb, xo, none⟩ = some u := (hS.cell hl (by simp)).trans hc
  have fx : (w.alloc (.cells #[.pointer none, .pointer (some ⟨rb, 0, none⟩)] 68)).frozen? ⟨xb, xo, none⟩ = false := (hS.frozen hl (by simp)).trans hf
  have hl2 := Nat.lt_of_lt_of_le hl hS.size
  have HS := Lib.hid (And.intro hS (And.intro cx (And.intro fx hl2)))
  clear hS hb hR hc hf hl cx fx hl2
  have HNE := Lib.hid (And.intro hne hnd)
  clear hne hnd
  unfold cdR
  go_enter Try.func45, Try.ntmps45
  go_wp2_with fail
  refine HC.out.mono ?_
  rintro en w1 ⟨x, m, e1, rfl, hL, hm, hx, hb⟩
  have cx := (hL.2.cell HS.out.2.2.2 (by simpa using HNE.out.1)).trans HS.out.2.1
  have fx := (hL.2.frozen HS.out.2.2.2 (by simpa using HNE.out.1)).trans HS.out.2.2.1
  have HL := Lib.hid (And.intro hL (And.intro hm (And.intro hx hb)))
  clear hL hm hx hb
  go_wp2_with fail
  go_end0
  exact ⟨x, m, e1, w1, rfl, rfl, ⟨HL.out.1.1, (HS.out.1.mono (by simp)).then HL.out.1.2 (fun k hk => .inl hk)⟩, HL.out.2⟩
set_option maxRecDepth 20000 in
set_option maxHeartbeats 1000000 in
theorem ctext_w (base pb : Nat) (v : Value) (bs : List UInt8) (x : List UInt8) (xb xo : Nat) (w : World) (hW : Wr w base pb v bs) (hc : w.cell? ⟨xb, xo, none⟩ = some (.string (bstr x))) (hl : xb < w.heap.size) (hx : x.length ≤ 1000000) (hlen : bs.length ≤ 1000000000) :
    Calls Try.prog 43 #[cdW pb, .pointer (some ⟨xb, xo, none⟩)] w (Wrote base pb v (bs ++ txtB x) w) := by
  have hS := ((Step.refl [] w).alloc (.cells #[.pointer (some ⟨pb, 0, none⟩), .pointer none] 68)).drew
  have HC := Lib.hid ((wtext_any base pb v bs x _ (hW.step hS (by simp) (by simp)) (by omega)).mono fun e w' h => Wrote.pre hS h)
  have hb := (Blk.new w #[.pointer (some ⟨pb, 0, none⟩), .pointer none] 68)
  have c0 := hb.cell 0
  have c1 := hb.cell 1
  have cx : (w.alloc (.cells #[.pointer (some ⟨pb, 0, none⟩), .pointer none] 68)).cell? ⟨xb, xo, none⟩ = some (.string (bstr x)) := (((Step.refl [] w).alloc _).cell hl (by simp)).trans hc
  simp at c0 c1
  clear hS hb hW hc hx (by omega)
  unfold cdW
  go_enter Try.func43, Try.ntmps43
  go_wp2_with fail
  go_region_with (first | (refine HC.out.mono ?_; rintro e w1 hwr; obtain ⟨rfl, hwr2⟩ := hwr))
  all_goals
    go_wp2_with fail
    go_end0
    exact ⟨rfl, hwr2⟩
set_option maxRecDepth 20000 in
set_option maxHeartbeats 1000000 in
theorem ctext_r (rb db : Nat) (l : List UInt8) (e : Int) (xb xo : Nat) (u : Value) (w : World) (hR : Rd w rb db l e) (hc : w.cell? ⟨xb, xo, none⟩ = some u) (hf : w.frozen? ⟨xb, xo, none⟩ = false) (hl : xb < w.heap.size) (hne : xb ≠ rb) (hnd : 0 < l.length → db ≠ xb) :
    Calls Try.prog 43 #[cdR rb, .pointer (some ⟨xb, xo, none⟩)] w fun en w' => ∃ (x m : List UInt8) (e1 : Int) (w1 : World), en = .returned (.tuple #[]) ∧ w' = w1.setCell ⟨xb, xo, none⟩ (.string (bstr x)) ∧ Left rb db m e1 w w1 ∧ m.length ≤ l.length ∧ x.length ≤ 255 ∧ (e1 = 0 → e = 0 ∧ l = txtB x ++ m) := by
  have hS := ((Step.refl [] w).alloc (.cells #[.pointer none, .pointer (some ⟨rb, 0, none⟩)] 68))
  have HC := Lib.hid (rtext_rel rb db 255 l e _ (by decide) (hR.step hS (by simp) (by simp)))
  have hb := (Blk.new w #[.pointer none, .pointer (some ⟨rb, 0, none⟩)] 68)
  have c0 := hb.cell 0
  have c1 := hb.cell 1
  simp at c0 c1
  have cx : (w.alloc (.cells #[.pointer none, .pointer (some ⟨rb, 0, none⟩)] 68)).cell? ⟨xb, xo, none⟩ = some u := (hS.cell hl (by simp)).trans hc
  have fx : (w.alloc (.cells #[.pointer none, .pointer (some ⟨rb, 0, none⟩)] 68)).frozen? ⟨xb, xo, none⟩ = false := (hS.frozen hl (by simp)).trans hf
  have hl2 := Nat.lt_of_lt_of_le hl hS.size
  have HS := Lib.hid (And.intro hS (And.intro cx (And.intro fx hl2)))
  clear hS hb hR hc hf hl cx fx hl2
  have HNE := Lib.hid (And.intro hne hnd)
  clear hne hnd
  unfold cdR
  go_enter Try.func43, Try.ntmps43
  go_wp2_with fail
  refine HC.out.mono ?_
  rintro en w1 ⟨x, m, e1, rfl, hL, hm, hx, hb⟩
  have cx := (hL.2.cell HS.out.2.2.2 (by simpa using HNE.out.1)).trans HS.out.2.1
  have fx := (hL.2.frozen HS.out.2.2.2 (by simpa using HNE.out.1)).trans HS.out.2.2.1
  have HL := Lib.hid (And.intro hL (And.intro hm (And.intro hx hb)))
  clear hL hm hx hb
  go_wp2_with fail
  go_end0
  exact ⟨x, m, e1, w1, rfl, rfl, ⟨HL.out.1.1, (HS.out.1.mono (by simp)).then HL.out.1.2 (fun k hk => .inl hk)⟩, HL.out.2⟩
end Go.Proofs.Ytdfkagpnfgmbeaa
