/-
  A fact on the row ServerKnown that hangs on the program's text alone.
-/
import Derived.Test.YtihplijjkcdcjaaGreatDoorRows
import Derived.JoinedCond
import Derived.ProofKit
set_option linter.unusedVariables false
set_option linter.unusedSimpArgs false
namespace Go.Proofs.YtihplijjkcdcjaaGreatDoor.serverKnown
theorem factsE : (laidOutB Tryz.prog && mapsRowed Tryz.prog) = true := by kernel_rfl
end Go.Proofs.YtihplijjkcdcjaaGreatDoor.serverKnown
