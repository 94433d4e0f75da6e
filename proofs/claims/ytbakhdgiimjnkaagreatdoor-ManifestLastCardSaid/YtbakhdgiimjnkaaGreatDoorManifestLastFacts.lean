/-
  Facts on the row ManifestLast that hang on the program's text alone.
-/
import Derived.Test.YtbakhdgiimjnkaaGreatDoorRows
import Derived.JoinedCond
import Derived.Test.YtbakhdgiimjnkaaGreatDoorManifestLastFactsA
import Derived.Test.YtbakhdgiimjnkaaGreatDoorManifestLastFactsB
import Derived.Test.YtbakhdgiimjnkaaGreatDoorManifestLastFactsC
import Derived.Test.YtbakhdgiimjnkaaGreatDoorManifestLastFactsD
import Derived.ProofKit
namespace Go.Proofs.YtbakhdgiimjnkaaGreatDoor.manifestLast
theorem facts : joinedFacts Tryz.prog 6 Tryz.f6 (OpenSpec.ofChange Rows.manifestLastSpec).bare Rows.manifestLastRow = true := by
  unfold joinedFacts
  rw [factsA, factsB, factsC, factsD]
  kernel_rfl
end Go.Proofs.YtbakhdgiimjnkaaGreatDoor.manifestLast
