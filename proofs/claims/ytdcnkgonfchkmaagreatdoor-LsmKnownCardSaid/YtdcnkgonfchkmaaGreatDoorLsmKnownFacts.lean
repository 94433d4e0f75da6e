/-
  Facts on the row LsmKnown that hang on the program's text alone.
-/
import Derived.Test.YtdcnkgonfchkmaaGreatDoorRows
import Derived.JoinedCond
import Derived.Test.YtdcnkgonfchkmaaGreatDoorLsmKnownFactsA
import Derived.Test.YtdcnkgonfchkmaaGreatDoorLsmKnownFactsB
import Derived.Test.YtdcnkgonfchkmaaGreatDoorLsmKnownFactsC
import Derived.Test.YtdcnkgonfchkmaaGreatDoorLsmKnownFactsD
import Derived.ProofKit
namespace Go.Proofs.YtdcnkgonfchkmaaGreatDoor.lsmKnown
theorem facts : joinedFacts Tryz.prog 3 Tryz.f3 (OpenSpec.ofChange Rows.lsmKnownSpec).bare Rows.lsmKnownRow = true := by
  unfold joinedFacts
  rw [factsA, factsB, factsC, factsD]
  kernel_rfl
end Go.Proofs.YtdcnkgonfchkmaaGreatDoor.lsmKnown
