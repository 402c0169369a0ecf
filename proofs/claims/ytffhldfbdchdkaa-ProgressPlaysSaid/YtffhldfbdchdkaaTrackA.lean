/- progress.Track: what its functions do. -/
import Derived.Test.YtffhldfbdchdkaaMaps
import Derived.StillTailTactics
namespace Go.Proofs.Ytffhldfbdchdkaa
set_option linter.unusedVariables false
open Go.RowKit Go.Maps

abbrev Mk := Int × Int
def keyI : KeyT Try.prog 3 Int := intKey Try.underlying3
abbrev elM : ElT Mk := pairEl .u64 .u64
theorem zeroM (w : World) : (zeroValue 47).run Try.prog w = .ok (elM.val (0, 0)) w := by kernel_rfl

/-- an int, a number below 2^63: bounds behind names -/
def IsI (x : Int) : Prop := (Lit.int .i64 x).wf = true
def Low (x : Int) : Prop := 0 ≤ x ∧ x < 9223372036854775807
theorem IsI.good {x : Int} (h : IsI x) : keyI.good x := h

/-- a slice of ints that is only read -/
def Ints (w : World) (a : Option Addr) (l : List Int) : Prop :=
  ∀ i, i < l.length → ∃ b off, a = some ⟨b, off, none⟩ ∧ b < w.heap.size ∧ w.cell? ⟨b, off + i, none⟩ = some (.int .i64 (l.getD i 0))

theorem Ints.step {F : List Nat} {w w' : World} {a : Option Addr} {l : List Int} (h : Ints w a l) (hs : Step F w w') (hn : ∀ b off, a = some ⟨b, off, none⟩ → 0 < l.length → b ∉ F) : Ints w' a l := fun i hi => by
  obtain ⟨b, off, ha, hlt, hc⟩ := h i hi
  exact ⟨b, off, ha, Nat.lt_of_lt_of_le hlt hs.size, by rw [hs.cell hlt (hn b off ha (Nat.lt_of_le_of_lt (Nat.zero_le _) hi))]; exact hc⟩

/-- a track: its block, its map's block, what stands there -/
structure Trk (w : World) (tb mb n : Nat) (f : Int → Option Mk) : Prop where
  blk : Blk w tb #[.map (some mb)] 45
  map : MapF keyI elM w mb n f
  ne : mb ≠ tb

theorem Trk.step {F : List Nat} {w w' : World} {tb mb n : Nat} {f : Int → Option Mk} (h : Trk w tb mb n f) (hs : Step F w w') (h1 : tb ∉ F) (h2 : mb ∉ F) : Trk w' tb mb n f :=
  ⟨h.blk.step hs h1, h.map.step hs h2, h.ne⟩

def mat (f : Int → Option Mk) (x : Int) : Int := ((f x).getD (0, 0)).1
def nxt (f : Int → Option Mk) (x : Int) : Int := ((f x).getD (0, 0)).2

set_option maxHeartbeats 400000 in
theorem above_any (x : Int) (w : World) (h : Low x) :
    Calls Try.prog 14 #[.int .u64 x] w fun e w' => e = .returned (.int .u64 (x + 1)) ∧ w' = w := by
  unfold Low at h
  go_enter Try.func14, Try.ntmps14
  go_wp2
  go_ret
  refine ⟨ret_int ?_, rfl⟩
  first | omega | (split <;> omega) | (simp; omega)

theorem Trk.look {w : World} {tb mb n : Nat} {f : Int → Option Mk} (h : Trk w tb mb n f) (x : Int) (hx : IsI x) :
    (Instr.lookup 43 (.map (some mb)) (.int .i64 x) false).run Try.prog w = .ok (.agg #[.int .u64 (mat f x), .int .u64 (nxt f x)]) w :=
  h.map.run Try.underlying43 (0, 0) (zeroM _) x hx.good
theorem Trk.look_ok {w : World} {tb mb n : Nat} {f : Int → Option Mk} (h : Trk w tb mb n f) (x : Int) (hx : IsI x) :
    (Instr.lookup 43 (.map (some mb)) (.int .i64 x) true).run Try.prog w = .ok (.tuple #[.agg #[.int .u64 (mat f x), .int .u64 (nxt f x)], .bool (f x).isSome]) w :=
  h.map.run_ok Try.underlying43 (0, 0) (zeroM _) x hx.good

theorem field0 (w : World) (x y : Int) : (Instr.field 47 (.agg #[.int .u64 x, .int .u64 y]) 0).run Try.prog w = .ok (.int .u64 x) w := by kernel_rfl
theorem field1 (w : World) (x y : Int) : (Instr.field 47 (.agg #[.int .u64 x, .int .u64 y]) 1).run Try.prog w = .ok (.int .u64 y) w := by kernel_rfl

set_option maxHeartbeats 400000 in
theorem match_any (tb mb n : Nat) (f : Int → Option Mk) (x : Int) (w : World) (hT : Trk w tb mb n f) (hx : IsI x) :
    Calls Try.prog 12 #[.pointer (some ⟨tb, 0, none⟩), .int .i64 x] w fun e w' => e = .returned (.int .u64 (mat f x)) ∧ w = w' := by
  have hc0 := hT.blk.cell 0
  simp at hc0
  have hk := hT.look x hx
  have hf := field0 w (mat f x) (nxt f x)
  have hg := field1 w (mat f x) (nxt f x)
  clear hT
  go_enter Try.func12, Try.ntmps12
  go_wp2_with fail
  go_ret
  exact ⟨rfl, rfl⟩

set_option maxHeartbeats 400000 in
theorem next_any (tb mb n : Nat) (f : Int → Option Mk) (x : Int) (w : World) (hT : Trk w tb mb n f) (hx : IsI x) :
    Calls Try.prog 13 #[.pointer (some ⟨tb, 0, none⟩), .int .i64 x] w fun e w' => e = .returned (.int .u64 (nxt f x)) ∧ w = w' := by
  have hc0 := hT.blk.cell 0
  simp at hc0
  have hk := hT.look x hx
  have hf := field0 w (mat f x) (nxt f x)
  have hg := field1 w (mat f x) (nxt f x)
  clear hT
  go_enter Try.func13, Try.ntmps13
  go_wp2_with fail
  go_ret
  exact ⟨rfl, rfl⟩

set_option maxHeartbeats 400000 in
theorem has_any (tb mb n : Nat) (f : Int → Option Mk) (x : Int) (w : World) (hT : Trk w tb mb n f) (hx : IsI x) :
    Calls Try.prog 11 #[.pointer (some ⟨tb, 0, none⟩), .int .i64 x] w fun e w' => e = .returned (.bool (f x).isSome) ∧ Step [] w w' := by
  have hc0 := hT.blk.cell 0
  simp at hc0
  have hk := hT.look_ok x hx
  clear hT
  go_enter Try.func11, Try.ntmps11
  go_wp2_with fail
  go_ret
  refine ⟨rfl, ?_⟩
  exact ((Step.refl [] w).alloc _)

theorem getD_mem {l : List Int} {i : Nat} (h : i < l.length) : l.getD i 0 ∈ l := by
  rw [List.getD, List.getElem?_eq_getElem h]
  exact List.getElem_mem h

set_option maxHeartbeats 400000 in
theorem index_any (a : Option Addr) (cap : Nat) (l : List Int) (x : Int) (w : World) (hl : Ints w a l) (hlen : l.length < 1000000) :
    Calls Try.prog 16 #[.slice a l.length cap, .int .i64 x] w fun e w' => (∃ k : Int, e = .returned (.int .i64 k) ∧ (0 ≤ k ↔ x ∈ l)) ∧ w = w' := by
  have HL := Lib.hid hl
  clear hl
  go_enter Try.func16, Try.ntmps16
  go_wp2
  go_loop [5, 8] (fun _ i => ∃ k : Nat, k ≤ l.length ∧ i = .int .i64 k ∧ x ∉ l.take k) (fun _ i => l.length - (intOf i).toNat)
  case atStart => exact ⟨0, Nat.zero_le _, rfl, by simp⟩
  case round =>
    obtain ⟨k, hk, rfl, hnot⟩ := hrel
    have HN := Lib.hid hnot
    clear hnot
    by_cases hkl : k < l.length
    · obtain ⟨b, off, rfl, hlt, hc⟩ := HL.out k hkl
      have hm : (k : Int) < (l.length : Int) := by omega
      have hmem := Lib.hid (getD_mem hkl)
      have hnk : ∀ z, z ∈ l.take (k + 1) ↔ z ∈ l.take k ∨ z = l.getD k 0 := fun z => by
        rw [List.take_succ_eq_append_getElem hkl, List.mem_append]
        simp [List.getD, hkl]
      have HK := Lib.hid hnk
      clear hnk
      generalize l.getD k 0 = y at *
      by_cases hx : x = y
      · have hb : (x == y) = true := by simpa using hx
        go_wp2
        go_ret
        exact ⟨⟨_, rfl, ⟨fun _ => hx ▸ hmem.out, fun _ => by omega⟩⟩, rfl⟩
      · have hb : (x == y) = false := by simpa using hx
        go_wp2
        go_round
        case rel =>
          refine ⟨k + 1, by omega, by go_num, ?_⟩
          rw [HK.out]
          rintro (h | h)
          · exact HN.out h
          · exact hx h
        case measure => simp [intOf]; omega
    · have hke : k = l.length := by omega
      subst hke
      go_wp2
      go_ret
      refine ⟨⟨_, rfl, ⟨fun h => by omega, fun h => absurd h (by have := HN.out; simpa using this)⟩⟩, rfl⟩

set_option maxHeartbeats 400000 in
theorem contains_any (a : Option Addr) (cap : Nat) (l : List Int) (x : Int) (w : World) (hl : Ints w a l) (hlen : l.length < 1000000) :
    Calls Try.prog 15 #[.slice a l.length cap, .int .i64 x] w fun e w' => e = .returned (.bool (decide (x ∈ l))) ∧ w = w' := by
  have H := Lib.hid (index_any a cap l x w hl hlen)
  clear hl
  go_enter Try.func15, Try.ntmps15
  go_wp2_with fail
  refine H.out.mono ?_
  rintro e w1 ⟨⟨k, rfl, hk⟩, rfl⟩
  go_wp2_with fail
  go_ret
  refine ⟨ret_bool ?_, rfl⟩
  by_cases h : x ∈ l
  · simp [h]
  · simp [h]
end Go.Proofs.Ytffhldfbdchdkaa
