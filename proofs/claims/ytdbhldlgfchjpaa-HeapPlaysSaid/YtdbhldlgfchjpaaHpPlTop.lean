/- HeapPlays, whatever is handed in. -/
import Derived.Test.YtdbhldlgfchjpaaHpPlLaw
namespace Go.Proofs.Ytdbhldlgfchjpaa
set_option linter.unusedVariables false
open Go.RowKit Go.Shelf HpB
set_option maxRecDepth 100000 in
set_option maxHeartbeats 1000000 in
theorem plays_much (a : Option Addr) (cap len : Nat) (w : World) (h : ¬ len ≤ 100) :
    Calls Try.prog 4 #[.slice a len cap] w fun e w' => e = .returned (.bool true) ∧ Below w.heap.size w w' := by
  have q1 : ((100 : Int) < (len : Int)) = True := by simp; omega
  clear h
  go_enter Try.func4, Try.ntmps4
  go_wp2_with fail
  refine (lives_any w).mono ?_
  rintro e w1 ⟨rfl, hs⟩
  have HS := Lib.hid hs
  clear hs
  go_wp2_with fail
  refine (lives_any w1).mono ?_
  rintro e w2 ⟨rfl, hs⟩
  have HT := Lib.hid (HS.out.then hs (by simp))
  clear hs HS
  go_wp2_with fail
  go_ret
  exact ⟨rfl, HT.out.below'⟩
theorem plays_all {a : Option Addr} {cap : Nat} {l : List Ac} {w : World} (hA : Acts w a l) :
    Calls Try.prog 4 #[.slice a l.length cap] w fun e w' => e = .returned (.bool true) ∧ Below w.heap.size w w' := by
  by_cases h : l.length ≤ 100
  · exact plays_any a cap l w hA h
  · exact plays_much a cap _ w h
end Go.Proofs.Ytdbhldlgfchjpaa
