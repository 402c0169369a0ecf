/-
  DERIVED. GIVEN WITH THE SEED: THE CARDS: each row of YtbkjljdblhklmaaDoorRows.lean that lists a variable, with what it lists TIED to the program's text (the seventh form; the later family's looks); each row that meets fmt, with fmt's text TOLD by the authors' own Lean function (tested against real Go, not proved from fmt's source: count such statements apart). THE CARD IS WHAT COUNTS. Prove the row's statement (the work); the ties are given (YtbkjljdblhklmaaDoorTie.lean); close each card by the builder's one call (the guide's Derived/Test/ToyasCard.lean, 'card_holds'). Laid BY PROGRAM, IN A SANDBOX (cutbox-door.mjs). By AI agents, Wed Nov 11 2026. No macro, syntax, notation, axiom, sorry.
-/
import Derived.Test.YtbkjljdblhklmaaDoorRows
import GoSem.ClaimSeven
namespace Go.Proofs.YtbkjljdblhklmaaDoor
namespace Rows

/-- THE TIED CARD OF 'complinelaw06.CalendarTells'. -/
def calendarTellsCard : Claim7 := { stood := { row := calendarTellsRow, standIns := [], harness := (true, "95fcd0b07fb9d6e806961072e0dab577eddc8fe4f3aaf40ff44dc4dfbe185b58"), looks := false }, kinds := [], alts := [], laidByText := true, laidKinds := [.data, .data, .data], laidTests := true, laidLooks := .later }
def CalendarTellsCardSaid : Prop := Claim7.holds Tryd.pinned (.plain (OpenSpec.ofChange calendarTellsSpec)) calendarTellsCard

/-- THE SECOND FORM's CARD OF 'complinelaw06.CalendarTells'. -/
def calendarTellsUptoCard : Claim7 := { stood := { row := calendarTellsUptoRow, standIns := [], harness := (true, "95fcd0b07fb9d6e806961072e0dab577eddc8fe4f3aaf40ff44dc4dfbe185b58"), looks := false }, kinds := [], alts := [], laidByText := true, laidKinds := [.data, .data, .data], laidTests := true, laidLooks := .later }
def CalendarTellsUptoCardSaid : Prop := Claim7.holds Tryd.pinned (.plain (OpenSpec.upto calendarTellsSpec)) calendarTellsUptoCard
end Rows
end Go.Proofs.YtbkjljdblhklmaaDoor
