/- bytes as a string. -/
import Derived.Test.YtminpglkipnhcaaSep
import Derived.Laws.IdiomStrings
import Derived.Lib.BufferRead
namespace Go.Proofs.Ytminpglkipnhcaa
set_option linter.unusedVariables false
open Go.RowKit

def bstr (l : List UInt8) : ByteArray := ⟨⟨l⟩⟩
theorem Bytes.str {P : Program} {w : World} {a : Option Addr} {l : List UInt8} (h : Bytes w a l) (hn : a = none → l.length = 0) (cap : Nat) (src dst e : TypeId) (hs : P.underlying src = some (.slice e)) (he : P.underlying e = some (.int .u8)) (hd : P.underlying dst = some .string) :
    (convert src dst (.slice a l.length cap)).run P w = .ok (.string (bstr l)) w := by
  cases a with
  | none =>
    have hl : l = [] := List.eq_nil_of_length_eq_zero (hn rfl)
    subst hl
    exact Lib.run_convert_nil_bytes w src dst e cap hs he hd
  | some ad =>
    refine run_convert_bytes_back w src dst e ad cap l hs he hd fun j hj => ?_
    obtain ⟨b, off, ha, _, hc⟩ := h j hj
    cases ha
    rw [add_plain, hc]
    simp [List.getD, hj]
end Go.Proofs.Ytminpglkipnhcaa
