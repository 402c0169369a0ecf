/- ProgressPlays, whatever is handed in. -/
import Derived.Test.YtffhldfbdchdkaaPlaysLaw
namespace Go.Proofs.Ytffhldfbdchdkaa
set_option linter.unusedVariables false
open Go.RowKit Go.Maps

set_option maxRecDepth 100000 in
set_option maxHeartbeats 1000000 in
theorem plays_much (a b : Option Addr) (cap capv len lenv : Nat) (last : Int) (w : World) (h : ¬ (len ≤ 20 ∧ lenv ≤ 80 ∧ last ≤ 4611686018427387904)) :
    Calls Try.prog 3 #[.slice a len cap, .int .u64 last, .slice b lenv capv] w fun e w' => e = .returned (.bool true) ∧ Below w.heap.size w w' := by
  have h3 : ((len : Int) ≤ 20) ∧ ((lenv : Int) ≤ 80) ∧ last ≤ 4611686018427387904 → False := fun h' => h ⟨by omega, by omega, h'.2.2⟩
  by_cases h1 : (len : Int) ≤ 20
  · by_cases h2 : (lenv : Int) ≤ 80
    · have h4 : ¬ last ≤ 4611686018427387904 := fun h' => h3 ⟨h1, h2, h'⟩
      clear h3 h
      go_enter Try.func3, Try.ntmps3
      go_wp2_with fail
      refine (lives_any w).mono ?_
      rintro e w1 ⟨rfl, hs⟩
      have HS := Lib.hid hs
      clear hs
      go_wp2_with fail
      refine (lives_any w1).mono ?_
      rintro e w2 ⟨rfl, hs⟩
      have HT := Lib.hid (HS.out.then hs (fun k hk => by cases hk))
      clear hs HS
      go_wp2_with fail
      go_ret
      exact ⟨rfl, HT.out.below'⟩
    · clear h3 h
      go_enter Try.func3, Try.ntmps3
      go_wp2_with fail
      refine (lives_any w).mono ?_
      rintro e w1 ⟨rfl, hs⟩
      have HS := Lib.hid hs
      clear hs
      go_wp2_with fail
      refine (lives_any w1).mono ?_
      rintro e w2 ⟨rfl, hs⟩
      have HT := Lib.hid (HS.out.then hs (fun k hk => by cases hk))
      clear hs HS
      go_wp2_with fail
      go_ret
      exact ⟨rfl, HT.out.below'⟩
  · clear h3 h
    go_enter Try.func3, Try.ntmps3
    go_wp2_with fail
    refine (lives_any w).mono ?_
    rintro e w1 ⟨rfl, hs⟩
    have HS := Lib.hid hs
    clear hs
    go_wp2_with fail
    refine (lives_any w1).mono ?_
    rintro e w2 ⟨rfl, hs⟩
    have HT := Lib.hid (HS.out.then hs (fun k hk => by cases hk))
    clear hs HS
    go_wp2_with fail
    go_ret
    exact ⟨rfl, HT.out.below'⟩

theorem progressPlays_any (a b : Option Addr) (cap capv : Nat) (l : List Int) (last : Int) (vs : List ActV) (w : World) (hl : Ints w a l) (hli : ∀ x ∈ l, IsI x) (hv : Acts w b vs) (hvi : ∀ v ∈ vs, ActOk w v) (h0 : 0 ≤ last) :
    Calls Try.prog 3 #[.slice a l.length cap, .int .u64 last, .slice b vs.length capv] w fun e w' => e = .returned (.bool true) ∧ Below w.heap.size w w' := by
  by_cases h : l.length ≤ 20 ∧ vs.length ≤ 80 ∧ last ≤ 4611686018427387904
  · exact progressPlays_in a b cap capv l last vs w hl hli hv hvi h.1 h.2.1 h0 h.2.2
  · exact plays_much a b cap capv l.length vs.length last w h
end Go.Proofs.Ytffhldfbdchdkaa
