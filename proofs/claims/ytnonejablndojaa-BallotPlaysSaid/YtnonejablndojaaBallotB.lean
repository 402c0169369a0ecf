/- the chapter's example; rows of bits. -/
import Derived.Test.YtnonejablndojaaBallotA
namespace Go.Proofs.Ytnonejablndojaa
set_option linter.unusedVariables false
open Go.RowKit Go.Maps

theorem voteF_sup {l : List Int} {f : Int → Option Bool} (x0 : Int) (y : Bool) (h : ∀ x, (f x).isSome = true → x ∈ l) : ∀ x, (voteF l f x0 y x).isSome = true → x ∈ l := by
  intro x hx
  unfold voteF at hx
  by_cases hu : voteUp l f x0 = true
  · rw [if_pos hu] at hx
    unfold upd at hx
    by_cases hxx : x = x0
    · subst hxx
      unfold voteUp at hu
      simp at hu
      exact hu.1.2
    · rw [if_neg hxx] at hx
      exact h x hx
  · rw [if_neg hu] at hx
    exact h x hx

theorem good_nodup {l : List Int} (h : goodM l = true) : l.Nodup := by
  have hall := ((goodM_iff l).1 h).1
  have hlt : ∀ d i, 0 < d → i + d < l.length → l.getD i 0 < l.getD (i + d) 0 := by
    intro d
    induction d with
    | zero => intro i h0; omega
    | succ d ih =>
      intro i _ hi
      have h2 := (hall (i + (d + 1)) hi).2.2 (by omega)
      rw [show i + (d + 1) - 1 = i + d by omega] at h2
      rcases Nat.eq_zero_or_pos d with rfl | hd
      · simpa using h2
      · have := ih i hd (by omega)
        omega
  rw [List.nodup_iff_pairwise_ne, List.pairwise_iff_getElem]
  intro i j hi hj hij e
  have := hlt (j - i) i (by omega) (by omega)
  rw [show i + (j - i) = j by omega] at this
  simp [List.getD, hi, hj] at this
  omega

theorem good_isI {l : List Int} (h : goodM l = true) : ∀ x ∈ l, IsI x := by
  intro x hx
  have := good_bounds h x hx
  unfold IsI
  simp [Lit.wf, IntKind.min, IntKind.max, IntKind.bits, IntKind.signed]
  omega

/-- the state of a ballot whose votes are its members' -/
theorem bstate_any {bb mb n cap : Nat} {a : Option Addr} {l : List Int} {f : Int → Option Bool} (w : World) (hB : Bal w bb mb n a cap l f) (hg : goodM l = true) (hs : ∀ x, (f x).isSome = true → x ∈ l) :
    Calls Try.prog 11 #[.pointer (some ⟨bb, 0, none⟩)] w fun e w' => e = .returned (.int .i64 (stateV l (cnt f l true) (cnt f l false))) ∧ Step [] w w' :=
  state_any l w hB (by have := good_len hg; omega) (good_nodup hg) (fun x _ h => hs x h) (good_isI hg) (by have := good_len hg; omega)

theorem ints_new (w : World) (l : List Int) (T : TypeId) : Ints (w.alloc (.cells (l.map iVal).toArray T)) (some ⟨w.heap.size, 0, none⟩) l := fun i hi => by
  refine ⟨w.heap.size, 0, rfl, by simp, ?_⟩
  rw [Nat.zero_add, (Blk.new w (l.map iVal).toArray T).cell i]
  simp [hi, iVal, List.getD]

set_option maxRecDepth 100000 in
set_option maxHeartbeats 1000000 in
theorem lives_any (w : World) : Calls Try.prog 6 #[] w fun e w' => e = .returned (.bool true) ∧ Step [] w w' := by
  go_enter Try.func6, Try.ntmps6
  go_wp2_with fail
  have hc := bnew_any (some ⟨w.heap.size, 0, none⟩) 3 [1, 2, 3] _ (fun h => by cases h) (ints_new w [1, 2, 3] 3) (by decide)
  refine Calls.mono hc ?_
  clear hc
  rintro e w1 ⟨bb, mb, a, cap, rfl, hB, hs, h1, h2, h3⟩
  have HS := Lib.hid (((Step.refl [] w).alloc _).then hs (fun k hk => by cases hk))
  have hbb : w.heap.size ≤ bb := by simp at h1; omega
  have hmb : w.heap.size ≤ mb := by simp at h2; omega
  have HB := Lib.hid hB
  clear hB hs h1 h2 h3
  have S0 : ∀ x, (((fun _ => none) : Int → Option Bool) x).isSome = true → x ∈ ([1, 2, 3] : List Int) := fun x h => by simp at h
  have h := Lib.hid (vote_any 1 true w1 HB.out (by decide) (by decide) (by decide))
  rw [show voteUp [1, 2, 3] (fun _ => none) 1 = true from by decide] at h
  go_wp2_with fail
  refine h.out.mono ?_
  rintro e w2 ⟨rfl, hB, hs⟩
  have HB2 := Lib.hid hB
  have HS2 := Lib.hid (HS.out.then hs (fun k hk => by simp at hk; exact .inr (by omega)))
  have S1 := voteF_sup 1 true S0
  clear h hB hs HB HS
  have h := Lib.hid (vote_any 2 false w2 HB2.out (by decide) (by decide) (by decide))
  rw [show voteUp [1, 2, 3] (voteF [1, 2, 3] (fun _ => none) 1 true) 2 = true from by decide] at h
  go_wp2_with fail
  refine h.out.mono ?_
  rintro e w3 ⟨rfl, hB, hs⟩
  have HB3 := Lib.hid hB
  have HS3 := Lib.hid (HS2.out.then hs (fun k hk => by simp at hk; exact .inr (by omega)))
  have S2 := voteF_sup 2 false S1
  clear h hB hs HB2 HS2
  have h := Lib.hid (bstate_any w3 HB3.out (by decide) S2)
  rw [show stateV [1, 2, 3] (cnt (voteF [1, 2, 3] (voteF [1, 2, 3] (fun _ => none) 1 true) 2 false) [1, 2, 3] true) (cnt (voteF [1, 2, 3] (voteF [1, 2, 3] (fun _ => none) 1 true) 2 false) [1, 2, 3] false) = 0 from by decide] at h
  go_wp2_with fail
  refine h.out.mono ?_
  rintro e w4 ⟨rfl, hs⟩
  have HB4 := Lib.hid (HB3.out.step0 hs)
  have HS4 := Lib.hid (HS3.out.then hs (fun k hk => by cases hk))
  clear h hs HB3 HS3
  have h := Lib.hid (vote_any 3 true w4 HB4.out (by decide) (by decide) (by decide))
  rw [show voteUp [1, 2, 3] (voteF [1, 2, 3] (voteF [1, 2, 3] (fun _ => none) 1 true) 2 false) 3 = true from by decide] at h
  go_wp2_with fail
  refine h.out.mono ?_
  rintro e w5 ⟨rfl, hB, hs⟩
  have HB5 := Lib.hid hB
  have HS5 := Lib.hid (HS4.out.then hs (fun k hk => by simp at hk; exact .inr (by omega)))
  have S3 := voteF_sup 3 true S2
  clear h hB hs HB4 HS4
  have h := Lib.hid (bstate_any w5 HB5.out (by decide) S3)
  rw [show stateV [1, 2, 3] (cnt (voteF [1, 2, 3] (voteF [1, 2, 3] (voteF [1, 2, 3] (fun _ => none) 1 true) 2 false) 3 true) [1, 2, 3] true) (cnt (voteF [1, 2, 3] (voteF [1, 2, 3] (voteF [1, 2, 3] (fun _ => none) 1 true) 2 false) 3 true) [1, 2, 3] false) = 1 from by decide] at h
  go_wp2_with fail
  refine h.out.mono ?_
  rintro e w6 ⟨rfl, hs⟩
  have HS6 := Lib.hid (HS5.out.then hs (fun k hk => by cases hk))
  clear h hs
  go_wp2_with fail
  go_ret
  exact ⟨rfl, HS6.out⟩
end Go.Proofs.Ytnonejablndojaa
