/- Slices of ints: what is read, what is owned, slices.Index, Contains, Clone. -/
import Derived.Test.YtnonejablndojaaSep
namespace Go.Proofs.Ytnonejablndojaa
set_option linter.unusedVariables false
open Go.RowKit

def IsI (x : Int) : Prop := (Lit.int .i64 x).wf = true
instance (x : Int) : Decidable (IsI x) := inferInstanceAs (Decidable (_ = _))

def iVal (x : Int) : Value := .int .i64 x
theorem iVals_cell (l : List Int) : ∀ u ∈ l.map iVal, u.oneCell' = true := by
  intro u hu
  obtain ⟨b, _, rfl⟩ := List.mem_map.1 hu
  rfl

/-- a slice of ints that is only read -/
def Ints (w : World) (a : Option Addr) (l : List Int) : Prop :=
  ∀ i, i < l.length → ∃ b off, a = some ⟨b, off, none⟩ ∧ b < w.heap.size ∧ w.cell? ⟨b, off + i, none⟩ = some (.int .i64 (l.getD i 0))

theorem Ints.step {F : List Nat} {w w' : World} {a : Option Addr} {l : List Int} (h : Ints w a l) (hs : Step F w w') (hn : ∀ b off, a = some ⟨b, off, none⟩ → 0 < l.length → b ∉ F) : Ints w' a l := fun i hi => by
  obtain ⟨b, off, ha, hlt, hc⟩ := h i hi
  exact ⟨b, off, ha, Nat.lt_of_lt_of_le hlt hs.size, by rw [hs.cell hlt (hn b off ha (Nat.lt_of_le_of_lt (Nat.zero_le _) hi))]; exact hc⟩

/-- ints that a row of the call's own holds are read as ints -/
theorem owns_ints {w : World} {base e : Nat} {v : Value} {n : Nat} {l : List Int} (h : w.ownsRow base e 1 v n (l.map iVal)) :
    ∃ a cap, v = .slice a n cap ∧ l.length = n ∧ n ≤ maxLen ∧ n ≤ cap ∧ Ints w a l ∧ (a = none → n = 0 ∧ cap = 0) ∧ (∀ b off spot, a = some ⟨b, off, spot⟩ → base ≤ b ∧ b < w.heap.size) := by
  obtain ⟨hlen, h⟩ := h
  have hl : l.length = n := by simpa using hlen
  rcases h with ⟨rfl, rfl⟩ | ⟨g, cap, cur, rfl, hg, hh, hn, hcap, hsz, htake⟩
  · exact ⟨none, 0, rfl, hl, Nat.zero_le _, Nat.le_refl _, fun i hi => by omega, fun _ => ⟨rfl, rfl⟩, fun b off spot h => by cases h⟩
  · refine ⟨some ⟨g, 0, none⟩, cap, rfl, hl, by omega, hn, ?_, fun h => (by cases h), fun b off spot h => ?_⟩
    · intro i hi
      refine ⟨g, 0, rfl, ?_, ?_⟩
      · rcases Nat.lt_or_ge g w.heap.size with h' | h'
        · exact h'
        · rw [Array.getElem?_eq_none h'] at hh; cases hh
      · have hc : cur.toList[i]? = some (iVal (l.getD i 0)) := by
          have := congrArg (fun x : List Value => x[i]?) htake
          simp only [List.getElem?_take, List.getElem?_map] at this
          rw [if_pos (by omega)] at this
          rw [this]
          simp [List.getD, hi]
        have : cur[i]? = some (iVal (l.getD i 0)) := by simpa using hc
        simp [World.cell?, hh, this, iVal]
    · cases h
      refine ⟨hg, ?_⟩
      rcases Nat.lt_or_ge g w.heap.size with h' | h'
      · exact h'
      · rw [Array.getElem?_eq_none h'] at hh; cases hh

/-- what is appended: the cells of a slice of ints, nil or not -/
theorem Ints.news {w : World} {a : Option Addr} {l : List Int} (h : Ints w a l) : ∀ ad, a = some ad → ∀ j u, (l.map iVal)[j]? = some u → w.cell? (ad.add j) = some u := by
  intro ad ha j u hu
  have hj : j < l.length := by
    rcases Nat.lt_or_ge j l.length with h | h
    · exact h
    · rw [List.getElem?_eq_none (by simpa using h)] at hu; cases hu
  obtain ⟨b, off, ha', _, hc⟩ := h j hj
  rw [ha] at ha'
  cases ha'
  have : u = .int .i64 (l.getD j 0) := by
    rw [List.getElem?_map, List.getElem?_eq_getElem hj] at hu
    simp [iVal] at hu
    rw [← hu]
    simp [List.getD, hj]
  rw [this, ← hc, add_plain]

theorem getD_mem {l : List Int} {i : Nat} (h : i < l.length) : l.getD i 0 ∈ l := by
  rw [List.getD, List.getElem?_eq_getElem h]
  exact List.getElem_mem h

set_option maxHeartbeats 400000 in
theorem index_any (a : Option Addr) (cap : Nat) (l : List Int) (x : Int) (w : World) (hl : Ints w a l) (hlen : l.length < 1000000) :
    Calls Try.prog 19 #[.slice a l.length cap, .int .i64 x] w fun e w' => (∃ k : Int, e = .returned (.int .i64 k) ∧ (0 ≤ k ↔ x ∈ l)) ∧ w = w' := by
  have HL := Lib.hid hl
  clear hl
  go_enter Try.func19, Try.ntmps19
  go_wp2
  go_loop [5, 8] (fun _ i => ∃ k : Nat, k ≤ l.length ∧ i = .int .i64 k ∧ x ∉ l.take k) (fun _ i => l.length - (intOf i).toNat)
  case atStart => exact ⟨0, Nat.zero_le _, rfl, by simp⟩
  case round =>
    obtain ⟨k, hk, rfl, hnot⟩ := hrel
    have HN := Lib.hid hnot
    clear hnot
    by_cases hkl : k < l.length
    · obtain ⟨b, off, rfl, hlt, hc⟩ := HL.out k hkl
      have hm : (k : Int) < (l.length : Int) := by omega
      have hmem := Lib.hid (getD_mem hkl)
      have hnk : ∀ z, z ∈ l.take (k + 1) ↔ z ∈ l.take k ∨ z = l.getD k 0 := fun z => by
        rw [List.take_succ_eq_append_getElem hkl, List.mem_append]
        simp [List.getD, hkl]
      have HK := Lib.hid hnk
      clear hnk
      generalize l.getD k 0 = y at *
      by_cases hx : x = y
      · have hb : (x == y) = true := by simpa using hx
        go_wp2
        go_ret
        exact ⟨⟨_, rfl, ⟨fun _ => hx ▸ hmem.out, fun _ => by omega⟩⟩, rfl⟩
      · have hb : (x == y) = false := by simpa using hx
        go_wp2
        go_round
        case rel =>
          refine ⟨k + 1, by omega, by go_num, ?_⟩
          rw [HK.out]
          rintro (h | h)
          · exact HN.out h
          · exact hx h
        case measure => simp [intOf]; omega
    · have hke : k = l.length := by omega
      subst hke
      go_wp2
      go_ret
      refine ⟨⟨_, rfl, ⟨fun h => by omega, fun h => absurd h (by have := HN.out; simpa using this)⟩⟩, rfl⟩

set_option maxHeartbeats 400000 in
theorem contains_any (a : Option Addr) (cap : Nat) (l : List Int) (x : Int) (w : World) (hl : Ints w a l) (hlen : l.length < 1000000) :
    Calls Try.prog 17 #[.slice a l.length cap, .int .i64 x] w fun e w' => e = .returned (.bool (decide (x ∈ l))) ∧ w = w' := by
  have H := Lib.hid (index_any a cap l x w hl hlen)
  clear hl
  go_enter Try.func17, Try.ntmps17
  go_wp2_with fail
  refine H.out.mono ?_
  rintro e w1 ⟨⟨k, rfl, hk⟩, rfl⟩
  go_wp2_with fail
  go_ret
  refine ⟨ret_bool ?_, rfl⟩
  by_cases h : x ∈ l
  · simp [h]
  · simp [h]

theorem Try.infoI : (Try.prog.info? 3).map (fun i => (i.zero, i.size, i.bytes)) = some (some (.int .i64 0), 1, 8) := by kernel_rfl

/-- a new slice of the callee's own, with these ints -/
def NewInts (l : List Int) (w : World) (e : Ending) (w' : World) : Prop :=
  ∃ v, e = .returned v ∧ w'.ownsRow w.heap.size 3 1 v l.length (l.map iVal) ∧ Step [] w w'

set_option maxHeartbeats 1000000 in
theorem clone_ints (a : Option Addr) (cap : Nat) (l : List Int) (w : World) (hn : a = none → l.length = 0 ∧ cap = 0) (hB : Ints w a l) (hlen : l.length ≤ 4398046511104) :
    Calls Try.prog 12 #[.slice a l.length cap] w (NewInts l w) := by
  cases a with
  | none =>
    obtain ⟨h0, rfl⟩ := hn rfl
    have : l = [] := List.eq_nil_of_length_eq_zero h0
    subst this
    have he := fun w => Lib.run_eql_slice_nil (P := Try.prog) w 22 3 none 0 0 0 0 Try.underlying22
    go_enter Try.func12, Try.ntmps12
    go_wp2
    go_ret
    exact ⟨_, rfl, World.ownsRow_nil _ _ _ _, Step.refl _ _⟩
  | some x =>
    obtain ⟨i0, hi, hz0, hz1, hz2⟩ := info_parts Try.infoI
    have he := fun w => Lib.run_eql_slice_nil (P := Try.prog) w 22 3 (some x) l.length cap 0 0 Try.underlying22
    simp at he
    have HB := Lib.hid hB
    clear hB hn
    go_enter Try.func12, Try.ntmps12
    go_wp2_with (at_builtin; refine wpList_append_own_any rfl (.tmp 5) (.tmp 6) 22 rfl w.heap.size 3 i0 (.int .i64 0) 1 8 Try.underlying22 hi hz0 hz1 hz2 rfl (by decide) _ 0 [] rfl (World.ownsRow_made _ _ 0 (Nat.le_refl _) (Nat.zero_le _) rfl) (some x) l.length cap (l.map iVal) rfl (by intro h; cases h) (by simp) ((HB.out.step ((Step.refl [] w).alloc _) (by simp)).news) (iVals_cell _) (by unfold maxLen; omega) (by omega) (by simp) ?_)
    intro v2 w2 hown2 hg2
    have hs2 : Step [] w w2 := ((Step.refl _ _).alloc _).grown hg2 (fun k hk => by cases hk; exact .inr (Nat.le_refl _))
    have HO := Lib.hid hown2
    clear hown2 hg2
    go_wp2
    go_ret
    exact ⟨v2, rfl, by simpa using HO.out, hs2⟩
end Go.Proofs.Ytnonejablndojaa
