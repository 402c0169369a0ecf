/- complineref01.Text: the document's bytes of a text. -/
import Derived.Test.YtkogchmnpffiaaaRefN
namespace Go.Proofs.Ytkogchmnpffiaaa
set_option linter.unusedVariables false
open Go.RowKit

set_option maxHeartbeats 400000 in
theorem refText_any (s : List UInt8) (w : World) (hs : s.length ≤ 35184372088832) :
    Calls Try.prog 25 #[.string (bstr s)] w fun e w' => e = .returned (.string (bstr (numB s.length ++ s))) ∧ Step [] w w' := by
  have H := Lib.hid (refNum_any s.length w (by unfold M64; omega))
  have hz := bstr_size s
  have hln := numB_len s.length
  have hsz : (bstr (numB s.length)).size + (bstr s).size ≤ 9223372036854775807 := by
    rw [bstr_size, bstr_size]
    omega
  go_enter Try.func25, Try.ntmps25
  go_wp2_with fail
  refine H.out.mono ?_
  rintro e w1 ⟨rfl, hs⟩
  go_wp2_with fail
  go_ret
  exact ⟨congrArg (fun s => Ending.returned (.string s)) (bstr_app _ _), hs⟩
end Go.Proofs.Ytkogchmnpffiaaa
