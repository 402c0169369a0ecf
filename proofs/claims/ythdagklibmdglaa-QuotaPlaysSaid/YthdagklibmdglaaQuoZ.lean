/- QuotaPlays, whatever is handed in. -/
import Derived.Test.YthdagklibmdglaaQuoX
namespace Go.Proofs.Ythdagklibmdglaa
set_option linter.unusedVariables false
open Go.RowKit
theorem qplays_all {each : Int} {a : Option Addr} {cap : Nat} {l : List Ac} {w : World} (hA : Acts w a l) :
    Calls Try.prog 4 #[.int .i64 each, .slice a l.length cap] w fun e w' => e = .returned (.bool true) ∧ Below w.heap.size w w' := by
  by_cases h : l.length ≤ 80
  · by_cases he : 0 ≤ each ∧ each ≤ 128
    · exact (qplays_in each a cap l w hA h he).mono fun e w' ⟨h1, h2⟩ => ⟨h1, h2.below'⟩
    · exact (qplays_bad each a cap _ w h he).mono fun e w' ⟨h1, h2⟩ => ⟨h1, h2.below'⟩
  · exact (qplays_much each a cap _ w h).mono fun e w' ⟨h1, h2⟩ => ⟨h1, h2.below'⟩
end Go.Proofs.Ythdagklibmdglaa
