/-
  What the rows list, of the program's variables: closed facts (D).
-/
import Derived.Test.YtihplijjkcdcjaaGreatDoorTieXA
set_option linter.unusedVariables false
set_option linter.unusedSimpArgs false
namespace Go.Proofs.YtihplijjkcdcjaaGreatDoor
open Go
theorem tieF8 (os tape) : (DataW.laidRun Tryz.prog (varsWorld Tryz.prog 400 (varsId Tryz.prog) os tape).memory 8 (tieL.map (·.1))).map (·.1) = some tieL := by kernel_rfl
end Go.Proofs.YtihplijjkcdcjaaGreatDoor
