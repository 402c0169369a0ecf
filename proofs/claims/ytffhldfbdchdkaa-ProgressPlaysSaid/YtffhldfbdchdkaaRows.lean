/-
  No cell of these rows narrows 'for every input' (looked for: loops, veiled, ifaces, maps, wideKeys, modest, calm, conditions, laid).
  DERIVED. THE GIVEN ROWS OF THIS SEAT. 3 by the template 'for every input the law returns true; each argument reads behind the call as it read before'; 0 by the template 'total and deterministic' (their statements: YtffhldfbdchdkaaTotals.lean).
  GIVEN WITH THE SEED: the statements are not yours to turn. If you find one false, say at which input.
  Laid BY PROGRAM, IN A SANDBOX (cutbox-rows.mjs): the forced cells as the released guide's own fill.sh prints them over the translation 5690c6a52f971d9d… (all of the seat's roots in one cut). By AI agents, Wed Nov 11 2026. No macro, syntax, notation, axiom, sorry.
-/
import Derived.Test.YtffhldfbdchdkaaChecked
import GoSem.Claim
import GoSem.ClaimJoined
import GoSem.ClaimMapViews
import Derived.JoinedTies
import Derived.KernelRfl
namespace Go.Proofs.Ytffhldfbdchdkaa
/- THE CELL 'sum', in the pinned program and in every row, IS THE sha256 OF THE DUMP (.gsa) THAT YtffhldfbdchdkaaProg.lean LOADS. Nothing in Lean hashes anything: it is a label: what it is worth is what the hold of that sum in a sandbox is worth. -/
noncomputable def Try.pinned : Pinned := { name := "ytffhldfbdchdkaa", sum := "5690c6a52f971d9dbb3a8224600e34fdc6afd2ea55c363fecd77701c6dc5afc0", checked := Try.checked }
namespace Rows
def none {H : Type} : Left H := { results := [], args := [] }

/-- 'complinelaw25.ProgressPlays': WHATEVER THE INPUT: true; the input reads as it did. -/
def progressPlaysSpec : ChangeSpec := { name := "progressPlays", fn := fun _ => fun
  | [d1, d2, d3] => { results := [.lit (.bool true)], args := [d1, d2, d3] }
  | _ => none }
def progressPlaysRow : OpenClaim := { program := "ytffhldfbdchdkaa", sum := "5690c6a52f971d9dbb3a8224600e34fdc6afd2ea55c363fecd77701c6dc5afc0", func := "compline/complinelaw25.ProgressPlays", spec := "progressPlays", apart := false }
def ProgressPlaysSaid : Prop := progressPlaysRow.holds Try.pinned (OpenSpec.ofChange progressPlaysSpec)

/-- ITS FALSE NEIGHBOUR: 'it returns false'. Refute it at one input. -/
def progressPlaysWrong : ChangeSpec := { name := "progressPlays", fn := fun _ => fun
  | [d1, d2, d3] => { results := [.lit (.bool false)], args := [d1, d2, d3] }
  | _ => none }
def ProgressPlaysWrongFalsely : Prop := progressPlaysRow.holds Try.pinned (OpenSpec.ofChange progressPlaysWrong)

/-- 'complinelaw25.ProgressMeets': WHATEVER THE INPUT: true; the input reads as it did. -/
def progressMeetsSpec : ChangeSpec := { name := "progressMeets", fn := fun _ => fun
  | [d1, d2] => { results := [.lit (.bool true)], args := [d1, d2] }
  | _ => none }
def progressMeetsRow : OpenClaim := { program := "ytffhldfbdchdkaa", sum := "5690c6a52f971d9dbb3a8224600e34fdc6afd2ea55c363fecd77701c6dc5afc0", func := "compline/complinelaw25.ProgressMeets", spec := "progressMeets", apart := false }
def ProgressMeetsSaid : Prop := progressMeetsRow.holds Try.pinned (OpenSpec.ofChange progressMeetsSpec)

/-- ITS FALSE NEIGHBOUR: 'it returns false'. Refute it at one input. -/
def progressMeetsWrong : ChangeSpec := { name := "progressMeets", fn := fun _ => fun
  | [d1, d2] => { results := [.lit (.bool false)], args := [d1, d2] }
  | _ => none }
def ProgressMeetsWrongFalsely : Prop := progressMeetsRow.holds Try.pinned (OpenSpec.ofChange progressMeetsWrong)

/-- 'complinelaw25.ProgressUp': WHATEVER THE INPUT: true; the input reads as it did. -/
def progressUpSpec : ChangeSpec := { name := "progressUp", fn := fun _ => fun
  | [d1, d2] => { results := [.lit (.bool true)], args := [d1, d2] }
  | _ => none }
def progressUpRow : OpenClaim := { program := "ytffhldfbdchdkaa", sum := "5690c6a52f971d9dbb3a8224600e34fdc6afd2ea55c363fecd77701c6dc5afc0", func := "compline/complinelaw25.ProgressUp", spec := "progressUp", apart := false }
def ProgressUpSaid : Prop := progressUpRow.holds Try.pinned (OpenSpec.ofChange progressUpSpec)

/-- ITS FALSE NEIGHBOUR: 'it returns false'. Refute it at one input. -/
def progressUpWrong : ChangeSpec := { name := "progressUp", fn := fun _ => fun
  | [d1, d2] => { results := [.lit (.bool false)], args := [d1, d2] }
  | _ => none }
def ProgressUpWrongFalsely : Prop := progressUpRow.holds Try.pinned (OpenSpec.ofChange progressUpWrong)

/- THE SECOND FORM. 'bulk': how many values and letters a reading holds, each counted each time it is reached (what is shared counts as often as it is met; a slice's spare places count too). A statement '..UptoSaid' is the law's where the arguments, and the package variables that the reading takes, are together of bulk at most 1048576: NARROWER than '..Said'. Prove '..Said' where nothing that the law and all that it calls make is longer than what came in: it says more and counts as full. Else prove '..UptoSaid'. A law counts once. -/
mutual
def uptoBulk {H : Type} : DataW H → Nat
  | .lit (.string bytes) => bytes.length + 1
  | .lit _ => 1
  | .nil => 1
  | .ptr d => uptoBulk d + 1
  | .slice elems spare => uptoBulkAll elems + uptoBulkAll spare + 1
  | .agg parts => uptoBulkAll parts + 1
  | .iface _ d => uptoBulk d + 1
  | .map entries => uptoBulkEntries entries + 1
  | .held _ => 1
def uptoBulkAll {H : Type} : List (DataW H) → Nat
  | [] => 0
  | d :: r => uptoBulk d + uptoBulkAll r
def uptoBulkEntries {H : Type} : List (Lit × DataW H) → Nat
  | [] => 0
  | x :: r => uptoBulkEntry x + uptoBulkEntries r
def uptoBulkEntry {H : Type} : Lit × DataW H → Nat
  | (.string bytes, d) => bytes.length + uptoBulk d + 1
  | (_, d) => uptoBulk d + 1
 end
def uptoSmall : (H : Type) → List (DataW H) → Bool := fun _ ds => decide (uptoBulkAll ds ≤ 1048576)
def OpenSpec.upto (s : _root_.Go.ChangeSpec) : _root_.Go.OpenSpec := { _root_.Go.OpenSpec.ofChange s with cond := some uptoSmall }

/-- 'complinelaw25.ProgressPlays', WHERE WHAT IT READS IS OF BULK AT MOST 1048576: true; the input reads as it did. -/
def progressPlaysUptoRow : OpenClaim := { program := "ytffhldfbdchdkaa", sum := "5690c6a52f971d9dbb3a8224600e34fdc6afd2ea55c363fecd77701c6dc5afc0", func := "compline/complinelaw25.ProgressPlays", spec := "progressPlays", apart := false, narrowed := true }
def ProgressPlaysUptoSaid : Prop := progressPlaysUptoRow.holds Try.pinned (OpenSpec.upto progressPlaysSpec)

/-- 'complinelaw25.ProgressMeets', WHERE WHAT IT READS IS OF BULK AT MOST 1048576: true; the input reads as it did. -/
def progressMeetsUptoRow : OpenClaim := { program := "ytffhldfbdchdkaa", sum := "5690c6a52f971d9dbb3a8224600e34fdc6afd2ea55c363fecd77701c6dc5afc0", func := "compline/complinelaw25.ProgressMeets", spec := "progressMeets", apart := false, narrowed := true }
def ProgressMeetsUptoSaid : Prop := progressMeetsUptoRow.holds Try.pinned (OpenSpec.upto progressMeetsSpec)

/-- 'complinelaw25.ProgressUp', WHERE WHAT IT READS IS OF BULK AT MOST 1048576: true; the input reads as it did. -/
def progressUpUptoRow : OpenClaim := { program := "ytffhldfbdchdkaa", sum := "5690c6a52f971d9dbb3a8224600e34fdc6afd2ea55c363fecd77701c6dc5afc0", func := "compline/complinelaw25.ProgressUp", spec := "progressUp", apart := false, narrowed := true }
def ProgressUpUptoSaid : Prop := progressUpUptoRow.holds Try.pinned (OpenSpec.upto progressUpSpec)

end Rows
end Go.Proofs.Ytffhldfbdchdkaa
