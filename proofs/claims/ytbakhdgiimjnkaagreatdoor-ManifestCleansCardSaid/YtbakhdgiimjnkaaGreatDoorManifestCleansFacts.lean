/-
  Facts on the row ManifestCleans that hang on the program's text alone.
-/
import Derived.Test.YtbakhdgiimjnkaaGreatDoorRows
import Derived.JoinedCond
import Derived.Test.YtbakhdgiimjnkaaGreatDoorManifestCleansFactsA
import Derived.Test.YtbakhdgiimjnkaaGreatDoorManifestCleansFactsB
import Derived.Test.YtbakhdgiimjnkaaGreatDoorManifestCleansFactsC
import Derived.Test.YtbakhdgiimjnkaaGreatDoorManifestCleansFactsD
import Derived.ProofKit
namespace Go.Proofs.YtbakhdgiimjnkaaGreatDoor.manifestCleans
theorem facts : joinedFacts Tryz.prog 5 Tryz.f5 (OpenSpec.ofChange Rows.manifestCleansSpec).bare Rows.manifestCleansRow = true := by
  unfold joinedFacts
  rw [factsA, factsB, factsC, factsD]
  kernel_rfl
end Go.Proofs.YtbakhdgiimjnkaaGreatDoor.manifestCleans
