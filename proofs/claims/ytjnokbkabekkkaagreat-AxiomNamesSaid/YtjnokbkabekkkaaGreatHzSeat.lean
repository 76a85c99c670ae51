/- Closed facts of the program. -/
import Derived.Test.YtjnokbkabekkkaaGreatRows
import Derived.Test.YtjnokbkabekkkaaGreatChecked
import Derived.JoinedOf
import Derived.KernelRfl
set_option linter.all false
set_option maxRecDepth 100000
namespace Go.Proofs.Hz
open Go Go.Proofs
theorem seat_own : ownKnob Tryz.prog.godebug = none := by kernel_rfl
theorem seat_laid : laidOutB Tryz.prog = true := by kernel_rfl
theorem seat_maps : mapsRowed Tryz.prog = true := by kernel_rfl
theorem seat_stops : Tryz.prog.stops = [] := by kernel_rfl
theorem seat_knobs : Tryz.prog.stopKnobs = [] := by kernel_rfl
theorem seat_keys : Tryz.prog.plainKeys = false := by kernel_rfl
theorem seat_heard : Tryz.prog.stopsHeard = true := by kernel_rfl
theorem seat_enter : Tryz.prog.mayEnter = true := by kernel_rfl
theorem seat_final : Tryz.prog.liftsFinal = Go.Proofs.YtjnokbkabekkkaaGreat.Rows.axiomNamesRow.lifted := by kernel_rfl
theorem seat_make : Tryz.prog.make = some Go.Proofs.YtjnokbkabekkkaaGreat.Rows.axiomNamesRow.make := by kernel_rfl
end Go.Proofs.Hz
