/-
  No cell of these rows narrows 'for every input' (looked for: loops, veiled, ifaces, maps, wideKeys, modest, calm, conditions, laid).
  DERIVED. THE GIVEN ROWS OF THIS SEAT. 3 by the template 'for every input the law returns true; each argument reads behind the call as it read before'; 0 by the template 'total and deterministic' (their statements: YtnonejablndojaaTotals.lean).
  GIVEN WITH THE SEED: the statements are not yours to turn. If you find one false, say at which input.
  Laid BY PROGRAM, IN A SANDBOX (cutbox-rows.mjs): the forced cells as the released guide's own fill.sh prints them over the translation ff61f8c51b5bc20c… (all of the seat's roots in one cut). By AI agents, Wed Nov 11 2026. No macro, syntax, notation, axiom, sorry.
-/
import Derived.Test.YtnonejablndojaaChecked
import GoSem.Claim
import GoSem.ClaimJoined
import GoSem.ClaimMapViews
import Derived.JoinedTies
import Derived.KernelRfl
namespace Go.Proofs.Ytnonejablndojaa
/- THE CELL 'sum', in the pinned program and in every row, IS THE sha256 OF THE DUMP (.gsa) THAT YtnonejablndojaaProg.lean LOADS. Nothing in Lean hashes anything: it is a label: what it is worth is what the hold of that sum in a sandbox is worth. -/
noncomputable def Try.pinned : Pinned := { name := "ytnonejablndojaa", sum := "ff61f8c51b5bc20c39c1abf49ce151721f584358e408fd3ad5a0a426885f8509", checked := Try.checked }
namespace Rows
def none {H : Type} : Left H := { results := [], args := [] }

/-- 'complinelaw24.BallotPlays': WHATEVER THE INPUT: true; the input reads as it did. -/
def ballotPlaysSpec : ChangeSpec := { name := "ballotPlays", fn := fun _ => fun
  | [d1, d2] => { results := [.lit (.bool true)], args := [d1, d2] }
  | _ => none }
def ballotPlaysRow : OpenClaim := { program := "ytnonejablndojaa", sum := "ff61f8c51b5bc20c39c1abf49ce151721f584358e408fd3ad5a0a426885f8509", func := "compline/complinelaw24.BallotPlays", spec := "ballotPlays", unfollowed := true, recurses := true, apart := false }
def BallotPlaysSaid : Prop := ballotPlaysRow.holds Try.pinned (OpenSpec.ofChange ballotPlaysSpec)

/-- ITS FALSE NEIGHBOUR: 'it returns false'. Refute it at one input. -/
def ballotPlaysWrong : ChangeSpec := { name := "ballotPlays", fn := fun _ => fun
  | [d1, d2] => { results := [.lit (.bool false)], args := [d1, d2] }
  | _ => none }
def BallotPlaysWrongFalsely : Prop := ballotPlaysRow.holds Try.pinned (OpenSpec.ofChange ballotPlaysWrong)

/-- 'complinelaw24.BallotOnce': WHATEVER THE INPUT: true; the input reads as it did. -/
def ballotOnceSpec : ChangeSpec := { name := "ballotOnce", fn := fun _ => fun
  | [d1, d2, d3] => { results := [.lit (.bool true)], args := [d1, d2, d3] }
  | _ => none }
def ballotOnceRow : OpenClaim := { program := "ytnonejablndojaa", sum := "ff61f8c51b5bc20c39c1abf49ce151721f584358e408fd3ad5a0a426885f8509", func := "compline/complinelaw24.BallotOnce", spec := "ballotOnce", unfollowed := true, recurses := true, apart := false }
def BallotOnceSaid : Prop := ballotOnceRow.holds Try.pinned (OpenSpec.ofChange ballotOnceSpec)

/-- ITS FALSE NEIGHBOUR: 'it returns false'. Refute it at one input. -/
def ballotOnceWrong : ChangeSpec := { name := "ballotOnce", fn := fun _ => fun
  | [d1, d2, d3] => { results := [.lit (.bool false)], args := [d1, d2, d3] }
  | _ => none }
def BallotOnceWrongFalsely : Prop := ballotOnceRow.holds Try.pinned (OpenSpec.ofChange ballotOnceWrong)

/-- 'complinelaw24.BallotAll': WHATEVER THE INPUT: true; the input reads as it did. -/
def ballotAllSpec : ChangeSpec := { name := "ballotAll", fn := fun _ => fun
  | [d1, d2] => { results := [.lit (.bool true)], args := [d1, d2] }
  | _ => none }
def ballotAllRow : OpenClaim := { program := "ytnonejablndojaa", sum := "ff61f8c51b5bc20c39c1abf49ce151721f584358e408fd3ad5a0a426885f8509", func := "compline/complinelaw24.BallotAll", spec := "ballotAll", unfollowed := true, recurses := true, apart := false }
def BallotAllSaid : Prop := ballotAllRow.holds Try.pinned (OpenSpec.ofChange ballotAllSpec)

/-- ITS FALSE NEIGHBOUR: 'it returns false'. Refute it at one input. -/
def ballotAllWrong : ChangeSpec := { name := "ballotAll", fn := fun _ => fun
  | [d1, d2] => { results := [.lit (.bool false)], args := [d1, d2] }
  | _ => none }
def BallotAllWrongFalsely : Prop := ballotAllRow.holds Try.pinned (OpenSpec.ofChange ballotAllWrong)

/- THE SECOND FORM. 'bulk': how many values and letters a reading holds, each counted each time it is reached (what is shared counts as often as it is met; a slice's spare places count too). A statement '..UptoSaid' is the law's where the arguments, and the package variables that the reading takes, are together of bulk at most 1048576: NARROWER than '..Said'. Prove '..Said' where nothing that the law and all that it calls make is longer than what came in: it says more and counts as full. Else prove '..UptoSaid'. A law counts once. -/
mutual
def uptoBulk {H : Type} : DataW H → Nat
  | .lit (.string bytes) => bytes.length + 1
  | .lit _ => 1
  | .nil => 1
  | .ptr d => uptoBulk d + 1
  | .slice elems spare => uptoBulkAll elems + uptoBulkAll spare + 1
  | .agg parts => uptoBulkAll parts + 1
  | .iface _ d => uptoBulk d + 1
  | .map entries => uptoBulkEntries entries + 1
  | .held _ => 1
def uptoBulkAll {H : Type} : List (DataW H) → Nat
  | [] => 0
  | d :: r => uptoBulk d + uptoBulkAll r
def uptoBulkEntries {H : Type} : List (Lit × DataW H) → Nat
  | [] => 0
  | x :: r => uptoBulkEntry x + uptoBulkEntries r
def uptoBulkEntry {H : Type} : Lit × DataW H → Nat
  | (.string bytes, d) => bytes.length + uptoBulk d + 1
  | (_, d) => uptoBulk d + 1
 end
def uptoSmall : (H : Type) → List (DataW H) → Bool := fun _ ds => decide (uptoBulkAll ds ≤ 1048576)
def OpenSpec.upto (s : _root_.Go.ChangeSpec) : _root_.Go.OpenSpec := { _root_.Go.OpenSpec.ofChange s with cond := some uptoSmall }

/-- 'complinelaw24.BallotPlays', WHERE WHAT IT READS IS OF BULK AT MOST 1048576: true; the input reads as it did. -/
def ballotPlaysUptoRow : OpenClaim := { program := "ytnonejablndojaa", sum := "ff61f8c51b5bc20c39c1abf49ce151721f584358e408fd3ad5a0a426885f8509", func := "compline/complinelaw24.BallotPlays", spec := "ballotPlays", unfollowed := true, recurses := true, apart := false, narrowed := true }
def BallotPlaysUptoSaid : Prop := ballotPlaysUptoRow.holds Try.pinned (OpenSpec.upto ballotPlaysSpec)

/-- 'complinelaw24.BallotOnce', WHERE WHAT IT READS IS OF BULK AT MOST 1048576: true; the input reads as it did. -/
def ballotOnceUptoRow : OpenClaim := { program := "ytnonejablndojaa", sum := "ff61f8c51b5bc20c39c1abf49ce151721f584358e408fd3ad5a0a426885f8509", func := "compline/complinelaw24.BallotOnce", spec := "ballotOnce", unfollowed := true, recurses := true, apart := false, narrowed := true }
def BallotOnceUptoSaid : Prop := ballotOnceUptoRow.holds Try.pinned (OpenSpec.upto ballotOnceSpec)

/-- 'complinelaw24.BallotAll', WHERE WHAT IT READS IS OF BULK AT MOST 1048576: true; the input reads as it did. -/
def ballotAllUptoRow : OpenClaim := { program := "ytnonejablndojaa", sum := "ff61f8c51b5bc20c39c1abf49ce151721f584358e408fd3ad5a0a426885f8509", func := "compline/complinelaw24.BallotAll", spec := "ballotAll", unfollowed := true, recurses := true, apart := false, narrowed := true }
def BallotAllUptoSaid : Prop := ballotAllUptoRow.holds Try.pinned (OpenSpec.upto ballotAllSpec)

end Rows
end Go.Proofs.Ytnonejablndojaa
