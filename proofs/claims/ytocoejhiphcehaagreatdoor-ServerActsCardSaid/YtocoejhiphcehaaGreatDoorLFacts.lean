/- What holds of the program as a whole. -/
import Derived.Test.YtocoejhiphcehaaGreatDoorCards
import Derived.Test.YtocoejhiphcehaaGreatDoorTie
import Derived.WalkKit
import Derived.ProofKit
import Derived.OpenShut
import Derived.Deep.DeepHandedRow
set_option maxRecDepth 1000000
namespace Go.Proofs.YtocoejhiphcehaaGreatDoor.Facts
open Go.ChangeShapes Go.WideShapes Go.ChangeAt Go.RowKit

theorem laidOut : laidOutB Tryz.prog = true := by kernel_rfl
theorem maps : mapsRowed Tryz.prog = true := by kernel_rfl
theorem stops : (Tryz.prog.stops == []) = true := by kernel_rfl
theorem knobs : (Tryz.prog.stopKnobs == []) = true := by kernel_rfl
theorem heard : Tryz.prog.stopsHeard = true := by kernel_rfl
theorem enter : Tryz.prog.mayEnter = true := by kernel_rfl

end Go.Proofs.YtocoejhiphcehaaGreatDoor.Facts
