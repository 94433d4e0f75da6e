/-
  What the rows list, of the program's variables: closed facts (B).
-/
import Derived.Test.YtihplijjkcdcjaaGreatDoorTieXA
set_option linter.unusedVariables false
set_option linter.unusedSimpArgs false
namespace Go.Proofs.YtihplijjkcdcjaaGreatDoor
open Go
theorem tieF5 : (Tryz.prog.funcNamed "gosem.cut.vars").isSome = true := by kernel_rfl
theorem tieF6 : varsNamedLaterB Tryz.prog (varsId Tryz.prog) tieL = true := by kernel_rfl
end Go.Proofs.YtihplijjkcdcjaaGreatDoor
