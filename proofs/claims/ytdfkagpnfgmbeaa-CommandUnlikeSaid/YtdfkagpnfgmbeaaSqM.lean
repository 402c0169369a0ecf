/- Specs in memory; slices of texts. -/
import Derived.Test.YtdfkagpnfgmbeaaSqP
import Derived.Test.YtdfkagpnfgmbeaaRefI
import Derived.Test.YtdfkagpnfgmbeaaRel
import Derived.Test.YtdfkagpnfgmbeaaBigCells
import Derived.Test.YtdfkagpnfgmbeaaRowF
import Derived.Laws.ResultCell
import Derived.Laws.Rows
namespace Go.Proofs.Ytdfkagpnfgmbeaa
set_option linter.unusedVariables false
open Go.RowKit

/-- the cells of a spec: what it says, and the slice of its deps -/
def spC (s : PS) (a : Option Addr) (n c : Nat) : List Value := [.string (bstr s.nm), .string (bstr s.tn), .int .i64 s.pr, .int .i64 s.de, .slice a n c, .int .i64 s.ba, .int .i64 s.ca, .int .i64 s.at', .int .i64 s.le, .string (bstr s.cr), .int .i64 s.ct]
def ps0 : PS := ⟨[], [], 0, 0, [], 0, 0, 0, 0, [], 0⟩
theorem Try.infoS : (Try.prog.info? 36).map (fun i => (i.zero, i.size)) = some (some (.agg (spC ps0 none 0 0).toArray), 11) := by kernel_rfl
theorem zeroS' (w : World) : (zeroValue 36).run Try.prog w = .ok (.agg (spC ps0 none 0 0).toArray) w := by
  have h1 := Try.infoS
  cases e : Try.prog.info? 36 with
  | none => rw [e] at h1; cases h1
  | some i =>
    rw [e] at h1
    simp at h1
    simp [zeroValue, typeInfo, e, h1.1]
/-- a spec is loaded, and stored, at once -/
theorem exec_load_s (a : Act) (dst : Option Tmp) (x : Operand) (ty : TypeId) (pos : String) (after : Array Edge) (guard : Option (Nat × Bool)) :
    execOp a.eval { dst, op := .load 36 x, type := ty, pos, after, guard } = (do pure (.value (← loadBig 36 (a.eval x)))) := rfl
theorem Try.load_s (w : World) (b o : Nat) : (loadBig 36 (.pointer (some ⟨b, o, none⟩))).run Try.prog w = match rowC w b o 11 with
      | some cs => .ok (.agg cs.toArray) w
      | none => (loadBig0 36 (.pointer (some ⟨b, o, none⟩))).run Try.prog w :=
  run_loadBig 36 11 _ Try.underlying36 rfl (by kernel_rfl) w b o
theorem exec_store_s (a : Act) (dst : Option Tmp) (x y : Operand) (ty : TypeId) (pos : String) (after : Array Edge) (guard : Option (Nat × Bool)) :
    execOp a.eval { dst, op := .store 36 x y, type := ty, pos, after, guard } = (do storeBig 36 (a.eval x) (a.eval y); pure .skip) := rfl
theorem Try.store_s (w : World) (b o : Nat) (s : PS) (a : Option Addr) (n c : Nat) (ht : w.there b o 11) : (storeBig 36 (.pointer (some ⟨b, o, none⟩)) (.agg (spC s a n c).toArray)).run Try.prog w = .ok () (w.setCells b o (spC s a n c)) :=
  run_storeBig 36 11 (by kernel_rfl) w b o (spC s a n c) ht rfl (by rfl)

theorem sp_cells {w : World} {b : Nat} {s : PS} {a : Option Addr} {n c : Nat} {T : TypeId} (h : Blk w b (spC s a n c).toArray T) : w.cell? ⟨b, 0, none⟩ = some (.string (bstr s.nm)) ∧ w.cell? ⟨b, 1, none⟩ = some (.string (bstr s.tn)) ∧ w.cell? ⟨b, 2, none⟩ = some (.int .i64 s.pr) ∧ w.cell? ⟨b, 3, none⟩ = some (.int .i64 s.de)
    ∧ w.cell? ⟨b, 4, none⟩ = some (.slice a n c) ∧ w.cell? ⟨b, 5, none⟩ = some (.int .i64 s.ba) ∧ w.cell? ⟨b, 6, none⟩ = some (.int .i64 s.ca) ∧ w.cell? ⟨b, 7, none⟩ = some (.int .i64 s.at') ∧ w.cell? ⟨b, 8, none⟩ = some (.int .i64 s.le) ∧ w.cell? ⟨b, 9, none⟩ = some (.string (bstr s.cr)) ∧ w.cell? ⟨b, 10, none⟩ = some (.int .i64 s.ct) :=
  ⟨h.cell 0, h.cell 1, h.cell 2, h.cell 3, h.cell 4, h.cell 5, h.cell 6, h.cell 7, h.cell 8, h.cell 9, h.cell 10⟩
theorem sp_row {w : World} {b : Nat} {s : PS} {a : Option Addr} {n c : Nat} {T : TypeId} (h : Blk w b (spC s a n c).toArray T) : rowC w b 0 11 = some (spC s a n c) := by
  have := row_of_range w b (spC s a n c) 0 (fun j v hv => by rw [Nat.zero_add, h.cell j]; simpa using hv)
  exact this
theorem sp_there {w : World} {b : Nat} {s : PS} {a : Option Addr} {n c : Nat} {T : TypeId} (h : Blk w b (spC s a n c).toArray T) : w.there b 0 11 := h.there (by simp [spC])
theorem sp_set {w : World} {b : Nat} {s s' : PS} {a a' : Option Addr} {n n' c c' : Nat} {T : TypeId} (h : Blk w b (spC s a n c).toArray T) : Blk (w.setCells b 0 (spC s' a' n' c')) b (spC s' a' n' c').toArray T := h.setAll _ (by simp [spC])

/-- texts that are read -/
def TxS (w : World) (a : Option Addr) (l : List (List UInt8)) : Prop :=
  ∀ i, i < l.length → ∃ b off, a = some ⟨b, off, none⟩ ∧ b < w.heap.size ∧ w.cell? ⟨b, off + i, none⟩ = some (.string (bstr (l.getD i [])))
theorem TxS.step {F : List Nat} {w w' : World} {a : Option Addr} {l : List (List UInt8)} (h : TxS w a l) (hs : Step F w w') (hn : ∀ b off, a = some ⟨b, off, none⟩ → b ∉ F) : TxS w' a l := fun i hi => by
  obtain ⟨b, off, ha, hlt, hc⟩ := h i hi
  exact ⟨b, off, ha, Nat.lt_of_lt_of_le hlt hs.size, by rw [hs.cell hlt (hn b off ha)]; exact hc⟩
theorem TxS.step0 {w w' : World} {a : Option Addr} {l : List (List UInt8)} (h : TxS w a l) (hs : Step [] w w') : TxS w' a l := h.step hs (by simp)
def txV (l : List UInt8) : Value := .string (bstr l)
theorem TxS.news {w : World} {a : Option Addr} {l : List (List UInt8)} (h : TxS w a l) : ∀ ad, a = some ad → ∀ j u, (l.map txV)[j]? = some u → w.cell? (ad.add j) = some u := by
  intro ad ha j u hu
  have hj : j < l.length := by
    rcases Nat.lt_or_ge j l.length with h | h
    · exact h
    · rw [List.getElem?_eq_none (by simpa using h)] at hu; cases hu
  obtain ⟨b, off, ha', _, hc⟩ := h j hj
  rw [ha] at ha'
  cases ha'
  have : u = .string (bstr (l.getD j [])) := by
    rw [List.getElem?_map, List.getElem?_eq_getElem hj] at hu
    simp [txV] at hu
    rw [← hu]
    simp [List.getD, hj]
  rw [this, ← hc, Go.Proofs.Ytdfkagpnfgmbeaa.add_plain]
theorem txV_one (l : List (List UInt8)) : ∀ u ∈ l.map txV, u.oneCell' = true := by
  intro u hu
  obtain ⟨b, _, rfl⟩ := List.mem_map.1 hu
  rfl
theorem owns_txs {w : World} {base e g cap n : Nat} {l : List (List UInt8)} (h : w.ownsRow base e 1 (.slice (some ⟨g, 0, none⟩) n cap) n (l.map txV)) : TxS w (some ⟨g, 0, none⟩) l := by
  have hl : l.length = n := by simpa using h.1
  intro i hi
  refine ⟨g, 0, rfl, (owns_live h g (by simp [foot, Value.ownBlock])), ?_⟩
  rw [Nat.zero_add, h.cellAt i (by omega), List.getElem?_map, List.getElem?_eq_getElem hi]
  simp [txV, List.getD, hi]

theorem Try.infoT : (Try.prog.info? 9).map (fun i => (i.zero, i.size, i.bytes)) = some (some (.string ByteArray.empty), 1, 16) := by kernel_rfl
/-- a new slice of texts -/
def NewTx (l : List (List UInt8)) (w : World) (e : Ending) (w' : World) : Prop := ∃ a c, e = .returned (.slice a l.length c) ∧ w'.ownsRow w.heap.size 9 1 (.slice a l.length c) l.length (l.map txV) ∧ Step [] w w'
set_option maxHeartbeats 1000000 in
theorem clone_txs (a : Option Addr) (cap : Nat) (l : List (List UInt8)) (w : World) (hn : a = none → l.length = 0 ∧ cap = 0) (hB : TxS w a l) (hlen : l.length ≤ 1000000) :
    Calls Try.prog 48 #[.slice a l.length cap] w (NewTx l w) := by
  cases a with
  | none =>
    obtain ⟨h0, rfl⟩ := hn rfl
    have : l = [] := List.eq_nil_of_length_eq_zero h0
    subst this
    have he := fun w => Lib.run_eql_slice_nil (P := Try.prog) w 34 9 none 0 0 0 0 Try.underlying34
    go_enter Try.func48, Try.ntmps48
    go_wp2
    go_ret
    exact ⟨_, _, rfl, World.ownsRow_nil _ _ _ _, Step.refl _ _⟩
  | some x =>
    obtain ⟨i0, hi, hz0, hz1, hz2⟩ := info_parts Try.infoT
    have he := fun w => Lib.run_eql_slice_nil (P := Try.prog) w 34 9 (some x) l.length cap 0 0 Try.underlying34
    simp at he
    have HB := Lib.hid hB
    clear hB hn
    go_enter Try.func48, Try.ntmps48
    go_wp2_with (at_builtin; refine wpList_append_own_any rfl (.tmp 5) (.tmp 6) 34 rfl w.heap.size 9 i0 _ 1 16 Try.underlying34 hi hz0 hz1 hz2 rfl (by decide) _ 0 [] rfl (World.ownsRow_made _ _ 0 (Nat.le_refl _) (Nat.zero_le _) rfl) (some x) l.length cap (l.map txV) rfl (by intro h; cases h) (by simp) ((HB.out.step ((Step.refl [] w).alloc _) (by simp)).news) (txV_one _) (by unfold maxLen; omega) (by omega) (by simp) ?_)
    intro v2 w2 hown2 hg2
    have hs2 : Step [] w w2 := ((Step.refl _ _).alloc _).grown hg2 (fun k hk => by cases hk; exact .inr (Nat.le_refl _))
    have ho : w2.ownsRow w.heap.size 9 1 v2 l.length (l.map txV) := by simpa using hown2
    have HO := Lib.hid ho
    clear hown2 hg2 ho
    go_wp2
    go_ret
    rcases HO.out.2 with ⟨rfl, h0⟩ | ⟨g, c, cur, rfl, -⟩
    · exact ⟨none, 0, by rw [h0]; rfl, by have := HO.out; rw [h0] at this ⊢; exact this, hs2⟩
    · exact ⟨_, _, rfl, HO.out, hs2⟩

attribute [local go_sem] bstr_toList
theorem getD_eq {α : Type} {l : List α} {k : Nat} {d : α} (h : k < l.length) : l.getD k d = l[k] := by simp [List.getD, h]
end Go.Proofs.Ytdfkagpnfgmbeaa
