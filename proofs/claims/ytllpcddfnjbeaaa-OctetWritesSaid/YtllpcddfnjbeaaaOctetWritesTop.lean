/- OctetWrites, whatever is handed in. -/
import Derived.Test.YtllpcddfnjbeaaaOctetWritesLaw
namespace Go.Proofs.Ytllpcddfnjbeaaa
set_option linter.unusedVariables false
open Go.RowKit

set_option maxRecDepth 100000 in
set_option maxHeartbeats 1000000 in
theorem writes_much (a : Option Addr) (cap len : Nat) (w : World) (h : ¬ len ≤ 40) :
    Calls Try.prog 5 #[.slice a len cap] w fun e w' => e = .returned (.bool true) ∧ Below w.heap.size w w' := by
  go_enter Try.func5, Try.ntmps5
  go_wp2_with fail
  refine (lives_any w).mono ?_
  rintro e w1 ⟨rfl, hs⟩
  have HS := Lib.hid hs
  clear hs
  go_wp2_with fail
  refine (lives_any w1).mono ?_
  rintro e w2 ⟨rfl, hs⟩
  have HT := Lib.hid (HS.out.then hs (fun k hk => by cases hk))
  clear hs HS
  go_wp2_with fail
  go_ret
  exact ⟨rfl, HT.out.below'⟩

theorem octetWrites_any (a : Option Addr) (cap : Nat) (l : List ItV) (w : World) (hI : Items w a l) (hX : ∀ q ∈ l, q.x < M64) :
    Calls Try.prog 5 #[.slice a l.length cap] w fun e w' => e = .returned (.bool true) ∧ Below w.heap.size w w' := by
  by_cases h : l.length ≤ 40
  · exact octetWrites_in a cap l w hI hX h
  · exact writes_much a cap l.length w h
end Go.Proofs.Ytllpcddfnjbeaaa
