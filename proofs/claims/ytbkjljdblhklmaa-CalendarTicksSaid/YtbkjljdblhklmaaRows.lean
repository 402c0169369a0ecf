/-
  No cell of these rows narrows 'for every input' (looked for: loops, veiled, ifaces, maps, wideKeys, modest, calm, conditions, laid).
  DERIVED. THE GIVEN ROWS OF THIS SEAT. 5 by the template 'for every input the law returns true; each argument reads behind the call as it read before'; 0 by the template 'total and deterministic' (their statements: YtbkjljdblhklmaaTotals.lean).
  GIVEN WITH THE SEED: the statements are not yours to turn. If you find one false, say at which input.
  Laid BY PROGRAM, IN A SANDBOX (cutbox-rows.mjs): the forced cells as the released guide's own fill.sh prints them over the translation 54708af7d90ecd88… (all of the seat's roots in one cut). By AI agents, Wed Nov 11 2026. No macro, syntax, notation, axiom, sorry.
-/
import Derived.Test.YtbkjljdblhklmaaChecked
import GoSem.Claim
import GoSem.ClaimJoined
import GoSem.ClaimMapViews
import Derived.JoinedTies
import Derived.KernelRfl
namespace Go.Proofs.Ytbkjljdblhklmaa
/- THE CELL 'sum', in the pinned program and in every row, IS THE sha256 OF THE DUMP (.gsa) THAT YtbkjljdblhklmaaProg.lean LOADS. Nothing in Lean hashes anything: it is a label: what it is worth is what the hold of that sum in a sandbox is worth. -/
noncomputable def Try.pinned : Pinned := { name := "ytbkjljdblhklmaa", sum := "54708af7d90ecd888ebad56b92742cb8bdbb987fd9debef546076e5402fce3e0", checked := Try.checked }
namespace Rows
def none {H : Type} : Left H := { results := [], args := [] }

/-- 'complinelaw06.CalendarEras': WHATEVER THE INPUT: true; the input reads as it did. -/
def calendarErasSpec : ChangeSpec := { name := "calendarEras", fn := fun _ => fun
  | [d] => { results := [.lit (.bool true)], args := [d] }
  | _ => none }
def calendarErasRow : OpenClaim := { program := "ytbkjljdblhklmaa", sum := "54708af7d90ecd888ebad56b92742cb8bdbb987fd9debef546076e5402fce3e0", func := "compline/complinelaw06.CalendarEras", spec := "calendarEras", apart := false }
def CalendarErasSaid : Prop := calendarErasRow.holds Try.pinned (OpenSpec.ofChange calendarErasSpec)

/-- ITS FALSE NEIGHBOUR: 'it returns false'. Refute it at one input. -/
def calendarErasWrong : ChangeSpec := { name := "calendarEras", fn := fun _ => fun
  | [d] => { results := [.lit (.bool false)], args := [d] }
  | _ => none }
def CalendarErasWrongFalsely : Prop := calendarErasRow.holds Try.pinned (OpenSpec.ofChange calendarErasWrong)

/-- 'complinelaw06.CalendarOrder': WHATEVER THE INPUT: true; the input reads as it did. -/
def calendarOrderSpec : ChangeSpec := { name := "calendarOrder", fn := fun _ => fun
  | [d1, d2] => { results := [.lit (.bool true)], args := [d1, d2] }
  | _ => none }
def calendarOrderRow : OpenClaim := { program := "ytbkjljdblhklmaa", sum := "54708af7d90ecd888ebad56b92742cb8bdbb987fd9debef546076e5402fce3e0", func := "compline/complinelaw06.CalendarOrder", spec := "calendarOrder", apart := false }
def CalendarOrderSaid : Prop := calendarOrderRow.holds Try.pinned (OpenSpec.ofChange calendarOrderSpec)

/-- ITS FALSE NEIGHBOUR: 'it returns false'. Refute it at one input. -/
def calendarOrderWrong : ChangeSpec := { name := "calendarOrder", fn := fun _ => fun
  | [d1, d2] => { results := [.lit (.bool false)], args := [d1, d2] }
  | _ => none }
def CalendarOrderWrongFalsely : Prop := calendarOrderRow.holds Try.pinned (OpenSpec.ofChange calendarOrderWrong)

/-- 'complinelaw06.CalendarMonths': WHATEVER THE INPUT: true; the input reads as it did. -/
def calendarMonthsSpec : ChangeSpec := { name := "calendarMonths", fn := fun _ => fun
  | [d1, d2] => { results := [.lit (.bool true)], args := [d1, d2] }
  | _ => none }
def calendarMonthsRow : OpenClaim := { program := "ytbkjljdblhklmaa", sum := "54708af7d90ecd888ebad56b92742cb8bdbb987fd9debef546076e5402fce3e0", func := "compline/complinelaw06.CalendarMonths", spec := "calendarMonths", apart := false }
def CalendarMonthsSaid : Prop := calendarMonthsRow.holds Try.pinned (OpenSpec.ofChange calendarMonthsSpec)

/-- ITS FALSE NEIGHBOUR: 'it returns false'. Refute it at one input. -/
def calendarMonthsWrong : ChangeSpec := { name := "calendarMonths", fn := fun _ => fun
  | [d1, d2] => { results := [.lit (.bool false)], args := [d1, d2] }
  | _ => none }
def CalendarMonthsWrongFalsely : Prop := calendarMonthsRow.holds Try.pinned (OpenSpec.ofChange calendarMonthsWrong)

/-- 'complinelaw06.CalendarGoes': WHATEVER THE INPUT: true; the input reads as it did. -/
def calendarGoesSpec : ChangeSpec := { name := "calendarGoes", fn := fun _ => fun
  | [d] => { results := [.lit (.bool true)], args := [d] }
  | _ => none }
def calendarGoesRow : OpenClaim := { program := "ytbkjljdblhklmaa", sum := "54708af7d90ecd888ebad56b92742cb8bdbb987fd9debef546076e5402fce3e0", func := "compline/complinelaw06.CalendarGoes", spec := "calendarGoes", apart := false }
def CalendarGoesSaid : Prop := calendarGoesRow.holds Try.pinned (OpenSpec.ofChange calendarGoesSpec)

/-- ITS FALSE NEIGHBOUR: 'it returns false'. Refute it at one input. -/
def calendarGoesWrong : ChangeSpec := { name := "calendarGoes", fn := fun _ => fun
  | [d] => { results := [.lit (.bool false)], args := [d] }
  | _ => none }
def CalendarGoesWrongFalsely : Prop := calendarGoesRow.holds Try.pinned (OpenSpec.ofChange calendarGoesWrong)

/-- 'complinelaw06.CalendarTicks': WHATEVER THE INPUT: true; the input reads as it did. -/
def calendarTicksSpec : ChangeSpec := { name := "calendarTicks", fn := fun _ => fun
  | [d] => { results := [.lit (.bool true)], args := [d] }
  | _ => none }
def calendarTicksRow : OpenClaim := { program := "ytbkjljdblhklmaa", sum := "54708af7d90ecd888ebad56b92742cb8bdbb987fd9debef546076e5402fce3e0", func := "compline/complinelaw06.CalendarTicks", spec := "calendarTicks", apart := false }
def CalendarTicksSaid : Prop := calendarTicksRow.holds Try.pinned (OpenSpec.ofChange calendarTicksSpec)

/-- ITS FALSE NEIGHBOUR: 'it returns false'. Refute it at one input. -/
def calendarTicksWrong : ChangeSpec := { name := "calendarTicks", fn := fun _ => fun
  | [d] => { results := [.lit (.bool false)], args := [d] }
  | _ => none }
def CalendarTicksWrongFalsely : Prop := calendarTicksRow.holds Try.pinned (OpenSpec.ofChange calendarTicksWrong)

/- THE SECOND FORM. 'bulk': how many values and letters a reading holds, each counted each time it is reached (what is shared counts as often as it is met; a slice's spare places count too). A statement '..UptoSaid' is the law's where the arguments, and the package variables that the reading takes, are together of bulk at most 1048576: NARROWER than '..Said'. Prove '..Said' where nothing that the law and all that it calls make is longer than what came in: it says more and counts as full. Else prove '..UptoSaid'. A law counts once. -/
mutual
def uptoBulk {H : Type} : DataW H → Nat
  | .lit (.string bytes) => bytes.length + 1
  | .lit _ => 1
  | .nil => 1
  | .ptr d => uptoBulk d + 1
  | .slice elems spare => uptoBulkAll elems + uptoBulkAll spare + 1
  | .agg parts => uptoBulkAll parts + 1
  | .iface _ d => uptoBulk d + 1
  | .map entries => uptoBulkEntries entries + 1
  | .held _ => 1
def uptoBulkAll {H : Type} : List (DataW H) → Nat
  | [] => 0
  | d :: r => uptoBulk d + uptoBulkAll r
def uptoBulkEntries {H : Type} : List (Lit × DataW H) → Nat
  | [] => 0
  | x :: r => uptoBulkEntry x + uptoBulkEntries r
def uptoBulkEntry {H : Type} : Lit × DataW H → Nat
  | (.string bytes, d) => bytes.length + uptoBulk d + 1
  | (_, d) => uptoBulk d + 1
 end
def uptoSmall : (H : Type) → List (DataW H) → Bool := fun _ ds => decide (uptoBulkAll ds ≤ 1048576)
def OpenSpec.upto (s : _root_.Go.ChangeSpec) : _root_.Go.OpenSpec := { _root_.Go.OpenSpec.ofChange s with cond := some uptoSmall }

/-- 'complinelaw06.CalendarEras', WHERE WHAT IT READS IS OF BULK AT MOST 1048576: true; the input reads as it did. -/
def calendarErasUptoRow : OpenClaim := { program := "ytbkjljdblhklmaa", sum := "54708af7d90ecd888ebad56b92742cb8bdbb987fd9debef546076e5402fce3e0", func := "compline/complinelaw06.CalendarEras", spec := "calendarEras", apart := false, narrowed := true }
def CalendarErasUptoSaid : Prop := calendarErasUptoRow.holds Try.pinned (OpenSpec.upto calendarErasSpec)

/-- 'complinelaw06.CalendarOrder', WHERE WHAT IT READS IS OF BULK AT MOST 1048576: true; the input reads as it did. -/
def calendarOrderUptoRow : OpenClaim := { program := "ytbkjljdblhklmaa", sum := "54708af7d90ecd888ebad56b92742cb8bdbb987fd9debef546076e5402fce3e0", func := "compline/complinelaw06.CalendarOrder", spec := "calendarOrder", apart := false, narrowed := true }
def CalendarOrderUptoSaid : Prop := calendarOrderUptoRow.holds Try.pinned (OpenSpec.upto calendarOrderSpec)

/-- 'complinelaw06.CalendarMonths', WHERE WHAT IT READS IS OF BULK AT MOST 1048576: true; the input reads as it did. -/
def calendarMonthsUptoRow : OpenClaim := { program := "ytbkjljdblhklmaa", sum := "54708af7d90ecd888ebad56b92742cb8bdbb987fd9debef546076e5402fce3e0", func := "compline/complinelaw06.CalendarMonths", spec := "calendarMonths", apart := false, narrowed := true }
def CalendarMonthsUptoSaid : Prop := calendarMonthsUptoRow.holds Try.pinned (OpenSpec.upto calendarMonthsSpec)

/-- 'complinelaw06.CalendarGoes', WHERE WHAT IT READS IS OF BULK AT MOST 1048576: true; the input reads as it did. -/
def calendarGoesUptoRow : OpenClaim := { program := "ytbkjljdblhklmaa", sum := "54708af7d90ecd888ebad56b92742cb8bdbb987fd9debef546076e5402fce3e0", func := "compline/complinelaw06.CalendarGoes", spec := "calendarGoes", apart := false, narrowed := true }
def CalendarGoesUptoSaid : Prop := calendarGoesUptoRow.holds Try.pinned (OpenSpec.upto calendarGoesSpec)

/-- 'complinelaw06.CalendarTicks', WHERE WHAT IT READS IS OF BULK AT MOST 1048576: true; the input reads as it did. -/
def calendarTicksUptoRow : OpenClaim := { program := "ytbkjljdblhklmaa", sum := "54708af7d90ecd888ebad56b92742cb8bdbb987fd9debef546076e5402fce3e0", func := "compline/complinelaw06.CalendarTicks", spec := "calendarTicks", apart := false, narrowed := true }
def CalendarTicksUptoSaid : Prop := calendarTicksUptoRow.holds Try.pinned (OpenSpec.upto calendarTicksSpec)

end Rows
end Go.Proofs.Ytbkjljdblhklmaa
