/-
  Facts on the row ServerKnown that hang on the program's text alone.
-/
import Derived.Test.YtihplijjkcdcjaaGreatDoorRows
import Derived.JoinedCond
import Derived.ProofKit
import Derived.Test.YtihplijjkcdcjaaGreatDoorServerKnownFactsA
import Derived.Test.YtihplijjkcdcjaaGreatDoorServerKnownFactsB
import Derived.Test.YtihplijjkcdcjaaGreatDoorServerKnownFactsC
import Derived.Test.YtihplijjkcdcjaaGreatDoorServerKnownFactsD
import Derived.Test.YtihplijjkcdcjaaGreatDoorServerKnownFactsE
import Derived.Test.YtihplijjkcdcjaaGreatDoorServerKnownFactsF
set_option linter.unusedVariables false
set_option linter.unusedSimpArgs false
namespace Go.Proofs.YtihplijjkcdcjaaGreatDoor.serverKnown
theorem factsG : Tryz.prog.mayEnter = true := by kernel_rfl
theorem factsE1 : laidOutB Tryz.prog = true := ((Bool.and_eq_true _ _).mp factsE).1
theorem factsE2 : mapsRowed Tryz.prog = true := ((Bool.and_eq_true _ _).mp factsE).2
theorem facts : joinedFacts Tryz.prog 3 Tryz.f3 (OpenSpec.ofChange Rows.serverKnownSpec).bare Rows.serverKnownRow = true := by
  unfold joinedFacts
  rw [factsA, factsB, factsC, factsD, factsE1, factsE2, factsF, factsG, factsH, factsI, factsJ]
  kernel_rfl
end Go.Proofs.YtihplijjkcdcjaaGreatDoor.serverKnown
