/-
  Facts on the row ManifestBytes that hang on the program's text alone.
-/
import Derived.Test.YtbakhdgiimjnkaaGreatDoorRows
import Derived.JoinedCond
import Derived.Test.YtbakhdgiimjnkaaGreatDoorManifestBytesFactsA
import Derived.Test.YtbakhdgiimjnkaaGreatDoorManifestBytesFactsB
import Derived.Test.YtbakhdgiimjnkaaGreatDoorManifestBytesFactsC
import Derived.Test.YtbakhdgiimjnkaaGreatDoorManifestBytesFactsD
import Derived.ProofKit
namespace Go.Proofs.YtbakhdgiimjnkaaGreatDoor.manifestBytes
theorem facts : joinedFacts Tryz.prog 4 Tryz.f4 (OpenSpec.ofChange Rows.manifestBytesSpec).bare Rows.manifestBytesRow = true := by
  unfold joinedFacts
  rw [factsA, factsB, factsC, factsD]
  kernel_rfl
end Go.Proofs.YtbakhdgiimjnkaaGreatDoor.manifestBytes
