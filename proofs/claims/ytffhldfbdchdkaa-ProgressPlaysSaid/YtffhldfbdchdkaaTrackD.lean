/- progress.New; the chapter's example. -/
import Derived.Test.YtffhldfbdchdkaaTrackC
namespace Go.Proofs.Ytffhldfbdchdkaa
set_option linter.unusedVariables false
open Go.RowKit Go.Maps

instance (x : Int) : Decidable (IsI x) := inferInstanceAs (Decidable (_ = _))
instance (x : Int) : Decidable (Low x) := inferInstanceAs (Decidable (_ ∧ _))

/-- what New leaves -/
def NewT (n : Nat) (f : Int → Option Mk) (w : World) (e : Ending) (w' : World) : Prop :=
  ∃ tb mb, e = .returned (.pointer (some ⟨tb, 0, none⟩)) ∧ Trk w' tb mb n f ∧ Step [] w w' ∧ w.heap.size ≤ tb ∧ w.heap.size ≤ mb

set_option maxHeartbeats 1000000 in
theorem new_any (a : Option Addr) (cap : Nat) (l : List Int) (last : Int) (w : World) (hl : Ints w a l) (hwf : ∀ x ∈ l, IsI x) (hlen : l.length < 1000000) (hlast : Low last) :
    Calls Try.prog 7 #[.slice a l.length cap, .int .u64 last] w (NewT l.length (follF (fun _ => none) l last) w) := by
  have hmm := @run_makeMap Try.prog
  have HL := Lib.hid hl
  have HW := Lib.hid hwf
  have HX := Lib.hid hlast
  clear hl hwf hlast
  go_enter Try.func7, Try.ntmps7
  go_wp2_with fail
  have hm := (MapF.made keyI elM w).step ((Step.refl [] _).alloc (.cells #[.map (some w.heap.size)] 45)) (by simp)
  have hb := Blk.new (w.alloc (.map #[] 0)) #[.map (some w.heap.size)] 45
  rw [World.size_alloc] at hb
  have hs1 : Step [] w ((w.alloc (.map #[] 0)).alloc (.cells #[.map (some w.heap.size)] 45)) := ((Step.refl [] w).alloc _).alloc _
  have hT : Trk _ (w.heap.size + 1) w.heap.size 0 (fun _ => none) := ⟨hb, hm, by omega⟩
  have hc := follow_any (w.heap.size + 1) w.heap.size 0 _ a cap l last _ hT (HL.out.step hs1 (by simp)) HW.out hlen HX.out (by decide) (fun b off h h0 => by
    obtain ⟨b', off', h1, h2, _⟩ := HL.out 0 h0
    rw [h] at h1
    cases h1
    exact ⟨by omega, by omega⟩)
  refine Calls.mono hc ?_
  clear hc hT hb hm
  rintro e w2 ⟨rfl, hT2, hs2⟩
  have HT := Lib.hid hT2
  have HS := Lib.hid (hs1.then hs2 (fun k hk => by simp at hk; exact .inr (by omega)))
  clear hT2 hs1 hs2
  go_wp2_with fail
  go_ret
  exact ⟨_, _, rfl, by simpa using HT.out, HS.out, by omega, by omega⟩

theorem one_int (w : World) (x : Int) (T : TypeId) : Ints (w.alloc (.cells #[.int .i64 x] T)) (some ⟨w.heap.size, 0, none⟩) [x] := fun i hi => by
  have h0 : i = 0 := by simp at hi; omega
  subst h0
  exact ⟨w.heap.size, 0, rfl, by simp, by simp⟩

set_option maxRecDepth 100000 in
set_option maxHeartbeats 1000000 in
theorem lives_any (w : World) : Calls Try.prog 6 #[] w fun e w' => e = .returned (.bool true) ∧ Step [] w w' := by
  go_enter Try.func6, Try.ntmps6
  go_wp2_with fail
  have hc := new_any (some ⟨w.heap.size, 0, none⟩) 1 [2] 9 _ (one_int w 2 3) (by decide) (by decide) (by decide)
  refine Calls.mono hc ?_
  clear hc
  rintro e w1 ⟨tb, mb, rfl, hT, hs, h1, h2⟩
  have HS := Lib.hid ((((Step.refl [] w).alloc _)).then hs (fun k hk => by cases hk))
  have HT := Lib.hid hT
  have hb1 : w.heap.size ≤ tb := by simp at h1; omega
  have hb2 : w.heap.size ≤ mb := by simp at h2; omega
  clear hs hT h1 h2
  have h := Lib.hid (next_any _ _ _ _ 2 w1 HT.out (by decide))
  rw [show nxt (follF (fun _ => none) [2] 9) 2 = 10 from rfl] at h
  go_wp2_with fail
  refine h.out.mono ?_
  rintro e w2 ⟨rfl, rfl⟩
  clear h
  have h := Lib.hid (no_any _ _ _ _ 2 5 w1 HT.out (by decide) (by decide) (by decide) (by decide))
  rw [show noDown (follF (fun _ => none) [2] 9) 2 5 = true from rfl] at h
  go_wp2_with fail
  refine h.out.mono ?_
  rintro e w2 ⟨rfl, hT2, hs2⟩
  have HT2 := Lib.hid hT2
  have HS2 := Lib.hid (HS.out.then hs2 (fun k hk => by simp at hk; exact .inr (by omega)))
  clear h hT2 hs2 HT HS
  have h := Lib.hid (next_any _ _ _ _ 2 w2 HT2.out (by decide))
  rw [show nxt (noF (follF (fun _ => none) [2] 9) 2 5) 2 = 6 from rfl] at h
  go_wp2_with fail
  refine h.out.mono ?_
  rintro e w3 ⟨rfl, rfl⟩
  clear h
  have h := Lib.hid (yes_any _ _ _ _ 2 7 w2 HT2.out (by decide) (by decide) (by decide))
  rw [show yesUp (noF (follF (fun _ => none) [2] 9) 2 5) 2 7 = true from rfl] at h
  go_wp2_with fail
  refine h.out.mono ?_
  rintro e w3 ⟨rfl, hT3, hs3⟩
  have HT3 := Lib.hid hT3
  have HS3 := Lib.hid (HS2.out.then hs3 (fun k hk => by simp at hk; exact .inr (by omega)))
  clear h hT3 hs3 HT2 HS2
  have h := Lib.hid (match_any _ _ _ _ 2 w3 HT3.out (by decide))
  rw [show mat (yesF (noF (follF (fun _ => none) [2] 9) 2 5) 2 7) 2 = 7 from rfl] at h
  have h' := Lib.hid (next_any _ _ _ _ 2 w3 HT3.out (by decide))
  rw [show nxt (yesF (noF (follF (fun _ => none) [2] 9) 2 5) 2 7) 2 = 8 from rfl] at h'
  go_wp2_with (first | (go_at_call 12; refine h.out.mono ?_; rintro e w7 ⟨rfl, rfl⟩) | (go_at_call 13; refine h'.out.mono ?_; rintro e w7 ⟨rfl, rfl⟩))
  go_ret
  exact ⟨rfl, HS3.out⟩
end Go.Proofs.Ytffhldfbdchdkaa
