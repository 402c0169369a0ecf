/-
  No cell of these rows narrows 'for every input' (looked for: loops, veiled, ifaces, maps, wideKeys, modest, calm, conditions, laid).
  DERIVED. THE GIVEN ROWS OF THIS SEAT. 3 by the template 'for every input the law returns true; each argument reads behind the call as it read before'; 0 by the template 'total and deterministic' (their statements: YtjepglbolkbldaaTotals.lean).
  GIVEN WITH THE SEED: the statements are not yours to turn. If you find one false, say at which input.
  Laid BY PROGRAM, IN A SANDBOX (cutbox-rows.mjs): the forced cells as the released guide's own fill.sh prints them over the translation 0561aa240e3fe3f9… (all of the seat's roots in one cut). By AI agents, Wed Nov 11 2026. No macro, syntax, notation, axiom, sorry.
-/
import Derived.Test.YtjepglbolkbldaaChecked
import GoSem.Claim
import GoSem.ClaimJoined
import GoSem.ClaimMapViews
import Derived.JoinedTies
import Derived.KernelRfl
namespace Go.Proofs.Ytjepglbolkbldaa
/- THE CELL 'sum', in the pinned program and in every row, IS THE sha256 OF THE DUMP (.gsa) THAT YtjepglbolkbldaaProg.lean LOADS. Nothing in Lean hashes anything: it is a label: what it is worth is what the hold of that sum in a sandbox is worth. -/
noncomputable def Try.pinned : Pinned := { name := "ytjepglbolkbldaa", sum := "0561aa240e3fe3f985cc7dfde9074519d8a8ccc2cfde810ac2cc21d984039873", checked := Try.checked }
namespace Rows
def none {H : Type} : Left H := { results := [], args := [] }

/-- 'complinelaw22.EntryTwice': WHATEVER THE INPUT: true; the input reads as it did. -/
def entryTwiceSpec : ChangeSpec := { name := "entryTwice", fn := fun _ => fun
  | [d1, d2, d3, d4] => { results := [.lit (.bool true)], args := [d1, d2, d3, d4] }
  | _ => none }
def entryTwiceRow : OpenClaim := { program := "ytjepglbolkbldaa", sum := "0561aa240e3fe3f985cc7dfde9074519d8a8ccc2cfde810ac2cc21d984039873", func := "compline/complinelaw22.EntryTwice", spec := "entryTwice", apart := false }
def EntryTwiceSaid : Prop := entryTwiceRow.holds Try.pinned (OpenSpec.ofChange entryTwiceSpec)

/-- ITS FALSE NEIGHBOUR: 'it returns false'. Refute it at one input. -/
def entryTwiceWrong : ChangeSpec := { name := "entryTwice", fn := fun _ => fun
  | [d1, d2, d3, d4] => { results := [.lit (.bool false)], args := [d1, d2, d3, d4] }
  | _ => none }
def EntryTwiceWrongFalsely : Prop := entryTwiceRow.holds Try.pinned (OpenSpec.ofChange entryTwiceWrong)

/-- 'complinelaw22.EntryFull': WHATEVER THE INPUT: true; the input reads as it did. -/
def entryFullSpec : ChangeSpec := { name := "entryFull", fn := fun _ => fun
  | [d] => { results := [.lit (.bool true)], args := [d] }
  | _ => none }
def entryFullRow : OpenClaim := { program := "ytjepglbolkbldaa", sum := "0561aa240e3fe3f985cc7dfde9074519d8a8ccc2cfde810ac2cc21d984039873", func := "compline/complinelaw22.EntryFull", spec := "entryFull", apart := false }
def EntryFullSaid : Prop := entryFullRow.holds Try.pinned (OpenSpec.ofChange entryFullSpec)

/-- ITS FALSE NEIGHBOUR: 'it returns false'. Refute it at one input. -/
def entryFullWrong : ChangeSpec := { name := "entryFull", fn := fun _ => fun
  | [d] => { results := [.lit (.bool false)], args := [d] }
  | _ => none }
def EntryFullWrongFalsely : Prop := entryFullRow.holds Try.pinned (OpenSpec.ofChange entryFullWrong)

/-- 'complinelaw22.EntryNone': WHATEVER THE INPUT: true; the input reads as it did. -/
def entryNoneSpec : ChangeSpec := { name := "entryNone", fn := fun _ => fun
  | [d1, d2] => { results := [.lit (.bool true)], args := [d1, d2] }
  | _ => none }
def entryNoneRow : OpenClaim := { program := "ytjepglbolkbldaa", sum := "0561aa240e3fe3f985cc7dfde9074519d8a8ccc2cfde810ac2cc21d984039873", func := "compline/complinelaw22.EntryNone", spec := "entryNone", apart := false }
def EntryNoneSaid : Prop := entryNoneRow.holds Try.pinned (OpenSpec.ofChange entryNoneSpec)

/-- ITS FALSE NEIGHBOUR: 'it returns false'. Refute it at one input. -/
def entryNoneWrong : ChangeSpec := { name := "entryNone", fn := fun _ => fun
  | [d1, d2] => { results := [.lit (.bool false)], args := [d1, d2] }
  | _ => none }
def EntryNoneWrongFalsely : Prop := entryNoneRow.holds Try.pinned (OpenSpec.ofChange entryNoneWrong)

/- THE SECOND FORM. 'bulk': how many values and letters a reading holds, each counted each time it is reached (what is shared counts as often as it is met; a slice's spare places count too). A statement '..UptoSaid' is the law's where the arguments, and the package variables that the reading takes, are together of bulk at most 1048576: NARROWER than '..Said'. Prove '..Said' where nothing that the law and all that it calls make is longer than what came in: it says more and counts as full. Else prove '..UptoSaid'. A law counts once. -/
mutual
def uptoBulk {H : Type} : DataW H → Nat
  | .lit (.string bytes) => bytes.length + 1
  | .lit _ => 1
  | .nil => 1
  | .ptr d => uptoBulk d + 1
  | .slice elems spare => uptoBulkAll elems + uptoBulkAll spare + 1
  | .agg parts => uptoBulkAll parts + 1
  | .iface _ d => uptoBulk d + 1
  | .map entries => uptoBulkEntries entries + 1
  | .held _ => 1
def uptoBulkAll {H : Type} : List (DataW H) → Nat
  | [] => 0
  | d :: r => uptoBulk d + uptoBulkAll r
def uptoBulkEntries {H : Type} : List (Lit × DataW H) → Nat
  | [] => 0
  | x :: r => uptoBulkEntry x + uptoBulkEntries r
def uptoBulkEntry {H : Type} : Lit × DataW H → Nat
  | (.string bytes, d) => bytes.length + uptoBulk d + 1
  | (_, d) => uptoBulk d + 1
 end
def uptoSmall : (H : Type) → List (DataW H) → Bool := fun _ ds => decide (uptoBulkAll ds ≤ 1048576)
def OpenSpec.upto (s : _root_.Go.ChangeSpec) : _root_.Go.OpenSpec := { _root_.Go.OpenSpec.ofChange s with cond := some uptoSmall }

/-- 'complinelaw22.EntryTwice', WHERE WHAT IT READS IS OF BULK AT MOST 1048576: true; the input reads as it did. -/
def entryTwiceUptoRow : OpenClaim := { program := "ytjepglbolkbldaa", sum := "0561aa240e3fe3f985cc7dfde9074519d8a8ccc2cfde810ac2cc21d984039873", func := "compline/complinelaw22.EntryTwice", spec := "entryTwice", apart := false, narrowed := true }
def EntryTwiceUptoSaid : Prop := entryTwiceUptoRow.holds Try.pinned (OpenSpec.upto entryTwiceSpec)

/-- 'complinelaw22.EntryFull', WHERE WHAT IT READS IS OF BULK AT MOST 1048576: true; the input reads as it did. -/
def entryFullUptoRow : OpenClaim := { program := "ytjepglbolkbldaa", sum := "0561aa240e3fe3f985cc7dfde9074519d8a8ccc2cfde810ac2cc21d984039873", func := "compline/complinelaw22.EntryFull", spec := "entryFull", apart := false, narrowed := true }
def EntryFullUptoSaid : Prop := entryFullUptoRow.holds Try.pinned (OpenSpec.upto entryFullSpec)

/-- 'complinelaw22.EntryNone', WHERE WHAT IT READS IS OF BULK AT MOST 1048576: true; the input reads as it did. -/
def entryNoneUptoRow : OpenClaim := { program := "ytjepglbolkbldaa", sum := "0561aa240e3fe3f985cc7dfde9074519d8a8ccc2cfde810ac2cc21d984039873", func := "compline/complinelaw22.EntryNone", spec := "entryNone", apart := false, narrowed := true }
def EntryNoneUptoSaid : Prop := entryNoneUptoRow.holds Try.pinned (OpenSpec.upto entryNoneSpec)

end Rows
end Go.Proofs.Ytjepglbolkbldaa
