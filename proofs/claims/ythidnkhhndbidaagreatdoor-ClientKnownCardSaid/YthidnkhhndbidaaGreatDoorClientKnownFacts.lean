/-
  Facts on the row ClientKnown that hang on the program's text alone.
-/
import Derived.Test.YthidnkhhndbidaaGreatDoorRows
import Derived.JoinedCond
import Derived.Test.YthidnkhhndbidaaGreatDoorClientKnownFactsA
import Derived.Test.YthidnkhhndbidaaGreatDoorClientKnownFactsB
import Derived.Test.YthidnkhhndbidaaGreatDoorClientKnownFactsC
import Derived.Test.YthidnkhhndbidaaGreatDoorClientKnownFactsD
import Derived.ProofKit
namespace Go.Proofs.YthidnkhhndbidaaGreatDoor.clientKnown
theorem facts : joinedFacts Tryz.prog 3 Tryz.f3 (OpenSpec.ofChange Rows.clientKnownSpec).bare Rows.clientKnownRow = true := by
  unfold joinedFacts
  rw [factsA, factsB, factsC, factsD]
  kernel_rfl
end Go.Proofs.YthidnkhhndbidaaGreatDoor.clientKnown
