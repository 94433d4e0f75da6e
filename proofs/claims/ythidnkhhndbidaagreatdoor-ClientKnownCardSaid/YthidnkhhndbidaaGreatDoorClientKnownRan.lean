/-
  The closed run of ClientKnown, its calls cut: the evaluator answers true. No condition.
-/
import Derived.Test.YthidnkhhndbidaaGreatDoorProg
import Derived.KernelRfl
import Derived.Test.YthidnkhhndbidaaGreatDoorCutRun
import Derived.Test.YthidnkhhndbidaaGreatDoorCuts
import Derived.Test.YthidnkhhndbidaaGreatDoorTabs4
namespace Go.Proofs.YthidnkhhndbidaaGreatDoor.clientKnown
theorem ranQ (m : Int) : saysTrueQ (Abs.runQ Tryz.prog SmC14 1000000000 (.inv (.fn (.func 3) #[]) [] (Abs.stTabs (tabs4 m)))) = true := by kernel_rfl
end Go.Proofs.YthidnkhhndbidaaGreatDoor.clientKnown
