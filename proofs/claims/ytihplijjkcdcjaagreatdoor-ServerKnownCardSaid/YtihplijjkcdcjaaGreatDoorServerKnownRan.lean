/-
  The closed run of ServerKnown, its calls cut: the evaluator answers true. No condition.
-/
import Derived.Test.YtihplijjkcdcjaaGreatDoorProg
import Derived.KernelRfl
import Derived.Test.YtihplijjkcdcjaaGreatDoorDfA
import Derived.Test.YtihplijjkcdcjaaGreatDoorCuts
import Derived.Test.YtihplijjkcdcjaaGreatDoorTbA
set_option linter.unusedVariables false
set_option linter.unusedSimpArgs false
namespace Go.Proofs.YtihplijjkcdcjaaGreatDoor.serverKnown
theorem ranQ (m : Int) : saysTrueQ (Abs.runQ Tryz.prog SmC23 1000000000 (.inv (.fn (.func 3) #[]) [] (Abs.stTabs (tabs4 m)))) = true := by kernel_rfl
end Go.Proofs.YtihplijjkcdcjaaGreatDoor.serverKnown
