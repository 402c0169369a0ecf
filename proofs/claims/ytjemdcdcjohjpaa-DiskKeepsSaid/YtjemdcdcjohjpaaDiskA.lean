/- disk: what a disk is in memory; New, Down, Len, Up. -/
import Derived.Test.YtjemdcdcjohjpaaSep
import Derived.Deep.MidRow
import Derived.Laws.OwnMore
import Derived.OwnWalk
namespace Go.Proofs.Ytjemdcdcjohjpaa
set_option linter.unusedVariables false
open Go.RowKit

/-- a sector's cells; all sectors' -/
def secB (s : List UInt8) : List Value := s.map byteVal
def flatS (S : List (List UInt8)) : List Value := S.flatMap secB
/-- a writing that waits: its cells; all of them -/
def waitB (x : Nat × List UInt8) : List Value := .int .i64 (x.1 : Int) :: secB x.2
def flatW (W : List (Nat × List UInt8)) : List Value := W.flatMap waitB
def zeroS : List UInt8 := List.replicate 64 0

theorem flatS_len : ∀ (S : List (List UInt8)), (∀ s ∈ S, s.length = 64) → (flatS S).length = S.length * 64
  | [], _ => rfl
  | s :: r, h => by
    have h1 := h s (by simp)
    have h2 := flatS_len r (fun x hx => h x (by simp [hx]))
    simp only [flatS, List.flatMap_cons, List.length_append] at h2 ⊢
    rw [h2]
    simp [secB, h1]
    omega
theorem flatW_len : ∀ (W : List (Nat × List UInt8)), (∀ x ∈ W, x.2.length = 64) → (flatW W).length = W.length * 65
  | [], _ => rfl
  | s :: r, h => by
    have h1 := h s (by simp)
    have h2 := flatW_len r (fun x hx => h x (by simp [hx]))
    simp only [flatW, List.flatMap_cons, List.length_append] at h2 ⊢
    rw [h2]
    simp [waitB, secB, h1]
    omega

/-- a disk -/
structure Dsk (w : World) (base db : Nat) (lv wv : Value) (S : List (List UInt8)) (W : List (Nat × List UInt8)) (down : Bool) : Prop where
  blk : Blk w db #[lv, wv, .bool down] 53
  own1 : w.ownsRow base 55 64 lv S.length (flatS S)
  own2 : w.ownsRow base 57 65 wv W.length (flatW W)
  len1 : ∀ s ∈ S, s.length = 64
  len2 : ∀ x ∈ W, x.1 < S.length ∧ x.2.length = 64
  low : base ≤ db
  ap1 : db ∉ foot lv
  ap2 : db ∉ foot wv
  ap3 : ∀ k, k ∈ foot lv → k ∉ foot wv
  some1 : 0 < S.length
  few : S.length ≤ 4096
  few2 : W.length ≤ 100000

/-- the blocks of a disk -/
def footD (db : Nat) (lv wv : Value) : List Nat := db :: (foot lv ++ foot wv)
theorem Dsk.step {F : List Nat} {w w' : World} {base db : Nat} {lv wv : Value} {S : List (List UInt8)} {W : List (Nat × List UInt8)} {down : Bool} (h : Dsk w base db lv wv S W down) (hs : Step F w w') (hn : ∀ k, k ∈ footD db lv wv → k ∉ F) : Dsk w' base db lv wv S W down :=
  ⟨h.blk.step hs (hn _ (by simp [footD])), owns_step h.own1 hs (fun k hk => hn k (by simp [footD, hk])), owns_step h.own2 hs (fun k hk => hn k (by simp [footD, hk])), h.len1, h.len2, h.low, h.ap1, h.ap2, h.ap3, h.some1, h.few, h.few2⟩
theorem Dsk.base {w : World} {base db : Nat} {lv wv : Value} {S : List (List UInt8)} {W : List (Nat × List UInt8)} {down : Bool} (h : Dsk w base db lv wv S W down) : ∀ k, k ∈ footD db lv wv → base ≤ k := by
  intro k hk
  simp only [footD, List.mem_cons, List.mem_append] at hk
  rcases hk with rfl | hk | hk
  · exact h.low
  · exact owns_base h.own1 k hk
  · exact owns_base h.own2 k hk

theorem down_any (base db : Nat) (lv wv : Value) (S : List (List UInt8)) (W : List (Nat × List UInt8)) (d : Bool) (w : World) (h : Dsk w base db lv wv S W d) :
    Calls Try.prog 19 #[.pointer (some ⟨db, 0, none⟩)] w fun e w' => e = .returned (.bool d) ∧ w = w' := by
  have c2 : w.cell? ⟨db, 2, none⟩ = some (.bool d) := h.blk.cell 2
  clear h
  go_enter Try.func19, Try.ntmps19
  go_wp2_with fail
  go_ret
  exact ⟨rfl, rfl⟩

theorem up_any (base db : Nat) (lv wv : Value) (S : List (List UInt8)) (W : List (Nat × List UInt8)) (d : Bool) (w : World) (h : Dsk w base db lv wv S W d) :
    Calls Try.prog 14 #[.pointer (some ⟨db, 0, none⟩)] w fun e w' => e = .returned (.tuple #[]) ∧ Dsk w' base db lv wv S W false ∧ Step [db] w w' := by
  have c2 : w.cell? ⟨db, 2, none⟩ = some (.bool d) := h.blk.cell 2
  have f2 := h.blk.free 2
  have HD := Lib.hid h
  clear h
  go_enter Try.func14, Try.ntmps14
  go_wp2_with fail
  go_end0
  have hst : Step [db] w (w.setCell ⟨db, 2, none⟩ (.bool false)) := (Step.refl [db] w).setCell (.inl (by simp)) 2 _
  obtain ⟨h1, h2, h3, h4, h5, h6, h7, h8, h9, h10, h11, h12⟩ := HD.out
  exact ⟨rfl, ⟨h1.set 2 _, owns_step h2 hst (fun k hk hm => by simp at hm; subst hm; exact h7 hk), owns_step h3 hst (fun k hk hm => by simp at hm; subst hm; exact h8 hk), h4, h5, h6, h7, h8, h9, h10, h11, h12⟩, hst⟩

theorem Try.infoS : (Try.prog.info? 55).map (fun i => (i.zero, i.size, i.bytes)) = some (some (.agg (zeroS.map byteVal).toArray), 64, 64) := by kernel_rfl

theorem zero_cells : zeroS.map byteVal = List.replicate 64 (.int .u8 0) := by
  unfold zeroS
  rw [List.map_replicate]
  rfl
theorem flat_zero' (n : Nat) : flatS (List.replicate n zeroS) = List.replicate (n * 64) (.int .u8 0) := by
  induction n with
  | zero => rfl
  | succ n ih =>
    have h : flatS (List.replicate (n + 1) zeroS) = secB zeroS ++ flatS (List.replicate n zeroS) := by
      rw [List.replicate_succ]; rfl
    rw [h, ih]
    unfold secB
    rw [zero_cells, List.replicate_append_replicate]
    congr 1
    omega
theorem made_same (m k : Nat) (z : Value) (hm : 0 < m) : (madeCells (List.replicate m z).toArray k).toList = List.replicate k z := by
  apply List.ext_getElem?
  intro j
  by_cases hj : j < k
  · have h : j % m < m := Nat.mod_lt _ hm
    simp [madeCells, hj, h]
  · simp [madeCells, hj]
theorem flat_zero (n : Nat) : (madeCells (zeroS.map byteVal).toArray (n * 64)).toList = flatS (List.replicate n zeroS) := by
  rw [flat_zero', zero_cells, made_same 64 (n * 64) _ (by decide)]

set_option maxHeartbeats 1000000 in
theorem new_any (n : Nat) (w : World) (h0 : 0 < n) (hn : n ≤ 4096) :
    Calls Try.prog 7 #[.int .i64 (n : Int)] w fun e w' => ∃ db lv, e = .returned (.tuple #[.pointer (some ⟨db, 0, none⟩), .int .i64 0]) ∧ Dsk w' w.heap.size db lv (.slice none 0 0) (List.replicate n zeroS) [] false ∧ Step [] w w' := by
  obtain ⟨i0, hi0, hz0, hz1, hz2⟩ := info_parts Try.infoS
  have p1 : decide ((n : Int) < 1) = false := by simp; omega
  have p2 : decide ((4096 : Int) < (n : Int)) = false := by simp; omega
  go_enter Try.func7, Try.ntmps7
  go_wp2_with (refine wpList_make_full _ rfl (.tmp 10) (.tmp 10) 50 rfl w.heap.size 55 i0 _ 64 Try.underlying50 hi0 hz0 hz1 .i64 .i64 (n : Int) (n : Int) n rfl rfl rfl rfl (by rw [hz2]; omega) (by unfold maxLen; omega) (Nat.le_refl _) ?_)
  intro w1 hown hg
  have hs1 : Step [] w w1 := (Step.refl [] w).grown hg (fun k hk => by cases hk)
  have hfz := flat_zero n
  have hown2 : w1.ownsRow w.heap.size 55 64 (.slice (some ⟨w.heap.size, 0, none⟩) n n) n (flatS (List.replicate n zeroS)) := by rw [← hfz]; exact hown
  have HO := Lib.hid hown2
  have HS := Lib.hid hs1
  have hlt := owns_live hown2 w.heap.size (by simp [foot, Value.ownBlock])
  clear hown hg hs1 hfz hown2
  go_wp2_with fail
  go_ret2
  have hst : Step [] w1 (w1.alloc (.cells #[.slice (some ⟨w.heap.size, 0, none⟩) n n, .slice none 0 0, .bool false] 53)) := (Step.refl [] w1).alloc _
  refine ⟨_, _, rfl, ⟨Blk.new _ _ _, ?_, World.ownsRow_nil _ _ _ _, ?_, by simp, by omega, ?_, by simp [foot, Value.ownBlock], by simp [foot, Value.ownBlock], by simpa using h0, by simpa using hn, by simp⟩, HS.out.alloc _⟩
  · have h := owns_step HO.out hst (by simp)
    rw [List.length_replicate]
    exact h
  · intro s hs
    rw [List.eq_of_mem_replicate hs]
    rfl
  · simp [foot, Value.ownBlock]
    omega
end Go.Proofs.Ytjemdcdcjohjpaa
