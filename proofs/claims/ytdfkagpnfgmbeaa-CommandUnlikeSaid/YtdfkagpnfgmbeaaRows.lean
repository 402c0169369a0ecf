/-
  No cell of these rows narrows 'for every input' (looked for: loops, veiled, ifaces, maps, wideKeys, modest, calm, conditions, laid).
  DERIVED. THE GIVEN ROWS OF THIS SEAT. 3 by the template 'for every input the law returns true; each argument reads behind the call as it read before'; 0 by the template 'total and deterministic' (their statements: YtdfkagpnfgmbeaaTotals.lean).
  GIVEN WITH THE SEED: the statements are not yours to turn. If you find one false, say at which input.
  Laid BY PROGRAM, IN A SANDBOX (cutbox-rows.mjs): the forced cells as the released guide's own fill.sh prints them over the translation eca5e0b3a14d600e… (all of the seat's roots in one cut). By AI agents, Wed Nov 11 2026. No macro, syntax, notation, axiom, sorry.
-/
import Derived.Test.YtdfkagpnfgmbeaaChecked
import GoSem.Claim
import GoSem.ClaimJoined
import GoSem.ClaimMapViews
import Derived.JoinedTies
import Derived.KernelRfl
namespace Go.Proofs.Ytdfkagpnfgmbeaa
/- THE CELL 'sum', in the pinned program and in every row, IS THE sha256 OF THE DUMP (.gsa) THAT YtdfkagpnfgmbeaaProg.lean LOADS. Nothing in Lean hashes anything: it is a label: what it is worth is what the hold of that sum in a sandbox is worth. -/
noncomputable def Try.pinned : Pinned := { name := "ytdfkagpnfgmbeaa", sum := "eca5e0b3a14d600ec0819c9d148116b73ff9970e5ea4e037f478027b43f4de91", checked := Try.checked }
namespace Rows
def none {H : Type} : Left H := { results := [], args := [] }

/-- 'complinelaw18.CommandMembers': WHATEVER THE INPUT: true; the input reads as it did. -/
def commandMembersSpec : ChangeSpec := { name := "commandMembers", fn := fun _ => fun
  | [d1, d2] => { results := [.lit (.bool true)], args := [d1, d2] }
  | _ => none }
def commandMembersRow : OpenClaim := { program := "ytdfkagpnfgmbeaa", sum := "eca5e0b3a14d600ec0819c9d148116b73ff9970e5ea4e037f478027b43f4de91", func := "compline/complinelaw18.CommandMembers", spec := "commandMembers", unfollowed := true, recurses := true, apart := false }
def CommandMembersSaid : Prop := commandMembersRow.holds Try.pinned (OpenSpec.ofChange commandMembersSpec)

/-- ITS FALSE NEIGHBOUR: 'it returns false'. Refute it at one input. -/
def commandMembersWrong : ChangeSpec := { name := "commandMembers", fn := fun _ => fun
  | [d1, d2] => { results := [.lit (.bool false)], args := [d1, d2] }
  | _ => none }
def CommandMembersWrongFalsely : Prop := commandMembersRow.holds Try.pinned (OpenSpec.ofChange commandMembersWrong)

/-- 'complinelaw18.CommandUnlike': WHATEVER THE INPUT: true; the input reads as it did. -/
def commandUnlikeSpec : ChangeSpec := { name := "commandUnlike", fn := fun _ => fun
  | [d1, d2] => { results := [.lit (.bool true)], args := [d1, d2] }
  | _ => none }
def commandUnlikeRow : OpenClaim := { program := "ytdfkagpnfgmbeaa", sum := "eca5e0b3a14d600ec0819c9d148116b73ff9970e5ea4e037f478027b43f4de91", func := "compline/complinelaw18.CommandUnlike", spec := "commandUnlike", unfollowed := true, recurses := true, apart := false }
def CommandUnlikeSaid : Prop := commandUnlikeRow.holds Try.pinned (OpenSpec.ofChange commandUnlikeSpec)

/-- ITS FALSE NEIGHBOUR: 'it returns false'. Refute it at one input. -/
def commandUnlikeWrong : ChangeSpec := { name := "commandUnlike", fn := fun _ => fun
  | [d1, d2] => { results := [.lit (.bool false)], args := [d1, d2] }
  | _ => none }
def CommandUnlikeWrongFalsely : Prop := commandUnlikeRow.holds Try.pinned (OpenSpec.ofChange commandUnlikeWrong)

/-- 'complinelaw18.CommandReads': WHATEVER THE INPUT: true; the input reads as it did. -/
def commandReadsSpec : ChangeSpec := { name := "commandReads", fn := fun _ => fun
  | [d] => { results := [.lit (.bool true)], args := [d] }
  | _ => none }
def commandReadsRow : OpenClaim := { program := "ytdfkagpnfgmbeaa", sum := "eca5e0b3a14d600ec0819c9d148116b73ff9970e5ea4e037f478027b43f4de91", func := "compline/complinelaw18.CommandReads", spec := "commandReads", unfollowed := true, recurses := true, apart := false }
def CommandReadsSaid : Prop := commandReadsRow.holds Try.pinned (OpenSpec.ofChange commandReadsSpec)

/-- ITS FALSE NEIGHBOUR: 'it returns false'. Refute it at one input. -/
def commandReadsWrong : ChangeSpec := { name := "commandReads", fn := fun _ => fun
  | [d] => { results := [.lit (.bool false)], args := [d] }
  | _ => none }
def CommandReadsWrongFalsely : Prop := commandReadsRow.holds Try.pinned (OpenSpec.ofChange commandReadsWrong)

/- THE SECOND FORM. 'bulk': how many values and letters a reading holds, each counted each time it is reached (what is shared counts as often as it is met; a slice's spare places count too). A statement '..UptoSaid' is the law's where the arguments, and the package variables that the reading takes, are together of bulk at most 1048576: NARROWER than '..Said'. Prove '..Said' where nothing that the law and all that it calls make is longer than what came in: it says more and counts as full. Else prove '..UptoSaid'. A law counts once. -/
mutual
def uptoBulk {H : Type} : DataW H → Nat
  | .lit (.string bytes) => bytes.length + 1
  | .lit _ => 1
  | .nil => 1
  | .ptr d => uptoBulk d + 1
  | .slice elems spare => uptoBulkAll elems + uptoBulkAll spare + 1
  | .agg parts => uptoBulkAll parts + 1
  | .iface _ d => uptoBulk d + 1
  | .map entries => uptoBulkEntries entries + 1
  | .held _ => 1
def uptoBulkAll {H : Type} : List (DataW H) → Nat
  | [] => 0
  | d :: r => uptoBulk d + uptoBulkAll r
def uptoBulkEntries {H : Type} : List (Lit × DataW H) → Nat
  | [] => 0
  | x :: r => uptoBulkEntry x + uptoBulkEntries r
def uptoBulkEntry {H : Type} : Lit × DataW H → Nat
  | (.string bytes, d) => bytes.length + uptoBulk d + 1
  | (_, d) => uptoBulk d + 1
 end
def uptoSmall : (H : Type) → List (DataW H) → Bool := fun _ ds => decide (uptoBulkAll ds ≤ 1048576)
def OpenSpec.upto (s : _root_.Go.ChangeSpec) : _root_.Go.OpenSpec := { _root_.Go.OpenSpec.ofChange s with cond := some uptoSmall }

/-- 'complinelaw18.CommandMembers', WHERE WHAT IT READS IS OF BULK AT MOST 1048576: true; the input reads as it did. -/
def commandMembersUptoRow : OpenClaim := { program := "ytdfkagpnfgmbeaa", sum := "eca5e0b3a14d600ec0819c9d148116b73ff9970e5ea4e037f478027b43f4de91", func := "compline/complinelaw18.CommandMembers", spec := "commandMembers", unfollowed := true, recurses := true, apart := false, narrowed := true }
def CommandMembersUptoSaid : Prop := commandMembersUptoRow.holds Try.pinned (OpenSpec.upto commandMembersSpec)

/-- 'complinelaw18.CommandUnlike', WHERE WHAT IT READS IS OF BULK AT MOST 1048576: true; the input reads as it did. -/
def commandUnlikeUptoRow : OpenClaim := { program := "ytdfkagpnfgmbeaa", sum := "eca5e0b3a14d600ec0819c9d148116b73ff9970e5ea4e037f478027b43f4de91", func := "compline/complinelaw18.CommandUnlike", spec := "commandUnlike", unfollowed := true, recurses := true, apart := false, narrowed := true }
def CommandUnlikeUptoSaid : Prop := commandUnlikeUptoRow.holds Try.pinned (OpenSpec.upto commandUnlikeSpec)

/-- 'complinelaw18.CommandReads', WHERE WHAT IT READS IS OF BULK AT MOST 1048576: true; the input reads as it did. -/
def commandReadsUptoRow : OpenClaim := { program := "ytdfkagpnfgmbeaa", sum := "eca5e0b3a14d600ec0819c9d148116b73ff9970e5ea4e037f478027b43f4de91", func := "compline/complinelaw18.CommandReads", spec := "commandReads", unfollowed := true, recurses := true, apart := false, narrowed := true }
def CommandReadsUptoSaid : Prop := commandReadsUptoRow.holds Try.pinned (OpenSpec.upto commandReadsSpec)

end Rows
end Go.Proofs.Ytdfkagpnfgmbeaa
