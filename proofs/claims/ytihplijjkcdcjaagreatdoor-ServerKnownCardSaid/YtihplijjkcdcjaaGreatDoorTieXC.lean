/-
  What the rows list, of the program's variables: closed facts (C).
-/
import Derived.Test.YtihplijjkcdcjaaGreatDoorTieXA
set_option linter.unusedVariables false
set_option linter.unusedSimpArgs false
namespace Go.Proofs.YtihplijjkcdcjaaGreatDoor
open Go
theorem tieF7 (os tape) : varsDone Tryz.prog 400 (varsId Tryz.prog) os tape = true := by kernel_rfl
end Go.Proofs.YtihplijjkcdcjaaGreatDoor
