/- slices.SortFunc of timers in a row of the call's own. -/
import Derived.Test.YtmfplcmncipojaaWhG
import Derived.Test.YtmfplcmncipojaaRowF
namespace Go.Proofs.Ytmfplcmncipojaa
set_option linter.unusedVariables false
set_option linter.unusedSimpArgs false
open Go.RowKit Go.Maps

theorem sort_heap (enc : ByteArray × Int → List Value) (w : World) (g m : Nat) (d : Array (ByteArray × Int)) (os : Array Obj) (k : Nat) (hk : k < w.heap.size) : (sortWorldK enc 2 w g 0 m d os).heap[k]? = (w.heap.modify g (Sort.onCells (Sort.putCells id 0 (Sort.flatK enc 2 d))))[k]? := by
  show ((w.heap.modify g (Sort.onCells (Sort.putCells id 0 (Sort.flatK enc 2 d)))) ++ os)[k]? = _
  rw [Array.getElem?_append_left (by simpa using hk)]
theorem sort_step (w : World) (g m : Nat) (d : Array (ByteArray × Int)) (os : Array Obj) : Step [g] w (sortWorldK encT 2 w g 0 m d os) := by
  refine ⟨rfl, rfl, rfl, ?_, fun k hk hn => ?_⟩
  · show w.heap.size ≤ ((w.heap.modify g (Sort.onCells (Sort.putCells id 0 (Sort.flatK encT 2 d)))) ++ os).size
    simp
  · rw [sort_heap encT w g m d os k hk, Array.getElem?_modify]
    have : ¬ g = k := fun e => hn (by simp [e])
    simp [this]
theorem sort_blk {w : World} {g : Nat} {cur : Array Value} {T : TypeId} (h : w.heap[g]? = some (.cells cur T (0, 0))) (m : Nat) (d : Array (ByteArray × Int)) (os : Array Obj) : (sortWorldK encT 2 w g 0 m d os).heap[g]? = some (.cells (Sort.putCells id 0 (Sort.flatK encT 2 d) cur) T (0, 0)) := by
  have hlt : g < w.heap.size := (Array.getElem?_eq_some_iff.1 h).1
  rw [sort_heap encT w g m d os g hlt, Array.getElem?_modify, h]
  simp [Sort.onCells]
theorem encT_len (x : ByteArray × Int) : (encT x).length = 2 := rfl
theorem flat_at (l : List (ByteArray × Int)) (i : Nat) (hi : i < l.length * 2) : (l.flatMap encT)[i]? = some (Sort.flatK encT 2 l.toArray)[i]! := by
  have h1 : i / 2 < l.length := by omega
  have h2 : i % 2 < 2 := by omega
  have h3 := flatF_at (f := encT) encT_len l (i / 2) (i % 2) h1 h2
  rw [show i / 2 * 2 + i % 2 = i by omega] at h3
  rw [h3, Sort.get_flatK encT 2 l.toArray i (by simpa using hi)]
  have h4 : (l.toArray)[i / 2]! = l[i / 2] := by simp [h1]
  rw [h4]
  obtain ⟨a, b⟩ := l[i / 2]
  rcases (by omega : i % 2 = 0 ∨ i % 2 = 1) with e | e <;> rw [e] <;> rfl

theorem cmpT_lt (x y : ByteArray × Int) : ltOf cmpT x y = decide (x.2 < y.2 ∨ (x.2 = y.2 ∧ Lib.compareBytes x.1.data.toList y.1.data.toList < 0)) := by
  unfold ltOf cmpT cmpI
  by_cases h1 : x.2 < y.2
  · simp [h1]
  · by_cases h2 : y.2 < x.2
    · have h3 : ¬ x.2 = y.2 := by omega
      simp [h1, h2, h3]
    · have h3 : x.2 = y.2 := by omega
      simp [h1, h2, h3]
theorem cb_irrefl : ∀ a : List UInt8, Lib.compareBytes a a = 0
  | [] => rfl
  | a :: l => by
    have : ¬ a < a := by simp
    simp only [Lib.compareBytes, this, if_false]
    exact cb_irrefl l
theorem cb_trans : ∀ a b c : List UInt8, Lib.compareBytes a b < 0 → Lib.compareBytes b c < 0 → Lib.compareBytes a c < 0
  | [], [], _, h, _ => by simp [Lib.compareBytes] at h
  | [], b :: bs, [], _, h => by simp [Lib.compareBytes] at h
  | [], b :: bs, c :: cs, _, _ => by simp [Lib.compareBytes]
  | a :: s, [], _, h, _ => by simp [Lib.compareBytes] at h
  | a :: s, b :: bs, [], _, h => by simp [Lib.compareBytes] at h
  | a :: s, b :: bs, c :: cs, h1, h2 => by
    simp only [Lib.compareBytes, UInt8.lt_iff_toNat_lt] at h1 h2 ⊢
    have ih := cb_trans s bs cs
    repeat' split at h1
    all_goals repeat' split at h2
    all_goals repeat' split
    all_goals first
      | omega
      | (exact ih h1 h2)
      | (simp at h1; done)
      | (simp at h2; done)
theorem cb_ntrans : ∀ a b c : List UInt8, ¬ Lib.compareBytes a b < 0 → ¬ Lib.compareBytes b c < 0 → ¬ Lib.compareBytes a c < 0
  | _, [], [], _, _ => by
    rename_i a h1 h2
    exact h1
  | [], b :: bs, _, h, _ => by simp [Lib.compareBytes] at h
  | a :: s, [], c :: cs, _, h => by simp [Lib.compareBytes] at h
  | [], [], c :: cs, _, h => by simp [Lib.compareBytes] at h
  | a :: s, b :: bs, [], _, _ => by simp [Lib.compareBytes]
  | a :: s, b :: bs, c :: cs, h1, h2 => by
    simp only [Lib.compareBytes, UInt8.lt_iff_toNat_lt] at h1 h2 ⊢
    have ih := cb_ntrans s bs cs
    repeat' split at h1
    all_goals repeat' split at h2
    all_goals repeat' split
    all_goals first
      | omega
      | (exact ih h1 h2)
theorem swoT : Sort.SWO (ltOf cmpT) where
  irrefl x := by
    rw [cmpT_lt, cb_irrefl]
    simp
  trans x y z h1 h2 := by
    rw [cmpT_lt] at *
    simp only [decide_eq_true_eq] at *
    rcases h1 with h1 | ⟨h1, h3⟩ <;> rcases h2 with h2 | ⟨h2, h4⟩
    · left; omega
    · left; omega
    · left; omega
    · exact .inr ⟨by omega, cb_trans _ _ _ h3 h4⟩
  ntrans x y z h1 h2 := by
    rw [cmpT_lt] at *
    simp only [decide_eq_false_iff_not] at *
    intro h
    rcases h with h | ⟨h, h3⟩
    · by_cases e : x.2 < y.2
      · exact h1 (.inl e)
      · by_cases e2 : y.2 < z.2
        · exact h2 (.inl e2)
        · omega
    · by_cases e : x.2 < y.2
      · exact h1 (.inl e)
      · by_cases e2 : y.2 < z.2
        · exact h2 (.inl e2)
        · have e3 : x.2 = y.2 := by omega
          have e4 : y.2 = z.2 := by omega
          exact cb_ntrans _ _ _ (fun h5 => h1 (.inr ⟨e3, h5⟩)) (fun h5 => h2 (.inr ⟨e4, h5⟩)) h3
theorem isAggT (w : World) : (isAgg 37).run Try.prog w = .ok true w := by kernel_rfl
theorem sizeT (w : World) : (Go.sizeOf 37).run Try.prog w = .ok 2 w := by kernel_rfl
/-- in order: no later one is less -/
def Srt (l : List (ByteArray × Int)) : Prop := ∀ i j, i < j → j < l.length → ltOf cmpT (l.toArray)[j]! (l.toArray)[i]! = false
/-- what the sort leaves -/
def Sorts (base g cap : Nat) (l : List (ByteArray × Int)) (w : World) (e : Ending) (w' : World) : Prop :=
  e = .returned (.tuple #[]) ∧ Step [g] w w' ∧ ∃ l', l'.Perm l ∧ Srt l' ∧ w'.ownsRow base 37 2 (.slice (some ⟨g, 0, none⟩) l.length cap) l.length (l'.flatMap encT)
theorem wsort_any (base g cap : Nat) (l : List (ByteArray × Int)) (w : World) (h : w.ownsRow base 37 2 (.slice (some ⟨g, 0, none⟩) l.length cap) l.length (l.flatMap encT)) (hl : l.length ≤ 1000000) :
    Calls Try.prog 26 #[.slice (some ⟨g, 0, none⟩) l.length cap, .func (.func 27) #[] #[]] w (Sorts base g cap l w) := by
  obtain ⟨hlen, h2⟩ := h
  rcases h2 with ⟨h3, _⟩ | ⟨g', cap', cur, heq, hb, hh, hn, hc, hsz, htake⟩
  · cases h3
  · cases heq
    have hblk : Blk w g cur 37 := hh
    have eg : ∀ args w, (callFunc 27 args).run Try.prog w = .ok (.enter 27 args) w := enters_of Try.func27 (by kernel_rfl) rfl
    have hcell : ∀ i, i < l.length * 2 → cur[i]? = some (Sort.flatK encT 2 l.toArray)[i]! := fun i hi => by
      rw [← flat_at l i hi, ← htake, List.getElem?_take, if_pos hi, Array.getElem?_toList]
    have hH : Sort.HoldsK encT 2 w g 0 l.toArray := fun j hj => by
      have hj2 : j < l.length * 2 := by simpa using hj
      refine ⟨?_, ?_⟩
      · rw [hblk.cell (0 + j), Nat.zero_add, hcell j hj2]
        rfl
      · exact hblk.free _
    have hcon := AnyQ.slices_SortFunc Try.sort26 2 isAggT sizeT encT (fun _ => rfl) (fun x v hv => by simp [encT] at hv; rcases hv with rfl | rfl <;> rfl) cmpT swoT 27 #[] g 0 cap l.toArray w eg (wcmpLays g 0 l.toArray.size w) hH hblk.lt (by simp; omega)
    have hsize : l.toArray.size = l.length := by simp
    rw [hsize] at hcon
    refine hcon.mono ?_
    rintro e w' ⟨rfl, d', m, os, hp, hs, rfl⟩
    obtain ⟨hp1, _, hp3⟩ := hp
    have hd : d'.size = l.length := by simpa using hp1
    have hperm : d'.toList.Perm l := by
      have e1 : d'.extract 0 l.length = d' := by rw [← hd]; simp
      have e2 : l.toArray.extract 0 l.length = l.toArray := by rw [← hsize]; simp
      rw [e1, e2] at hp3
      simpa using hp3
    have hbk := sort_blk hh m d' os
    refine ⟨rfl, sort_step w g m d' os, d'.toList, hperm, fun i j hij hj => ?_, ?_⟩
    · have hj' : j < l.length := by rw [Array.length_toList, hd] at hj; exact hj
      have := hs i j (Nat.zero_le _) hij hj'
      simpa using this
    · refine ⟨?_, .inr ⟨g, cap, _, rfl, hb, hbk, hn, hc, ?_, ?_⟩⟩
      · rw [flatF_len encT_len, Array.length_toList, hd]
      · unfold Sort.putCells
        rw [Array.size_mapIdx]
        exact hsz
      · apply List.ext_getElem?
        intro i
        rw [List.getElem?_take]
        by_cases hi : i < l.length * 2
        · rw [if_pos hi, flat_at d'.toList i (by rw [Array.length_toList, hd]; exact hi), Array.getElem?_toList]
          unfold Sort.putCells
          rw [Array.getElem?_mapIdx, hcell i hi]
          simp [hd, hi]
        · rw [if_neg hi, List.getElem?_eq_none]
          rw [flatF_len encT_len, Array.length_toList, hd]
          omega
end Go.Proofs.Ytmfplcmncipojaa
