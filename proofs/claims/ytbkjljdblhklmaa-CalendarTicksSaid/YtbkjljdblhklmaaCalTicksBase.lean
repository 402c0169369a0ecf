/- CalendarTicks: small things that the law's walks share. -/
import Derived.Test.YtbkjljdblhklmaaCalMoment
import Derived.Test.YtbkjljdblhklmaaCalOrderLaw
import Derived.Deep.RegionWith
namespace Go.Proofs.Ytbkjljdblhklmaa
set_option linter.unusedVariables false
open Go.RowKit

/-- the cells of a moment that came in -/
def iCells (Y M D W H I : Int) : Array Value := #[.int .i64 Y, .int .i64 M, .int .i64 D, .int .i64 W, .int .i64 H, .int .i64 I]

theorem Blk.six {w : World} {b : Nat} {Y M D W H I : Int} {T : TypeId} (h : Blk w b (iCells Y M D W H I) T) :
    w.cell? ⟨b, 0, none⟩ = some (.int .i64 Y) ∧ w.cell? ⟨b, 1, none⟩ = some (.int .i64 M) ∧ w.cell? ⟨b, 2, none⟩ = some (.int .i64 D) ∧ w.cell? ⟨b, 3, none⟩ = some (.int .i64 W) ∧
      w.cell? ⟨b, 4, none⟩ = some (.int .i64 H) ∧ w.cell? ⟨b, 5, none⟩ = some (.int .i64 I) :=
  ⟨h.cell 0, h.cell 1, h.cell 2, h.cell 3, h.cell 4, h.cell 5⟩

end Go.Proofs.Ytbkjljdblhklmaa
