/-
  Facts on the row ManifestSwitches that hang on the program's text alone.
-/
import Derived.Test.YtbakhdgiimjnkaaGreatDoorRows
import Derived.JoinedCond
import Derived.Test.YtbakhdgiimjnkaaGreatDoorManifestSwitchesFactsA
import Derived.Test.YtbakhdgiimjnkaaGreatDoorManifestSwitchesFactsB
import Derived.Test.YtbakhdgiimjnkaaGreatDoorManifestSwitchesFactsC
import Derived.Test.YtbakhdgiimjnkaaGreatDoorManifestSwitchesFactsD
import Derived.ProofKit
namespace Go.Proofs.YtbakhdgiimjnkaaGreatDoor.manifestSwitches
theorem facts : joinedFacts Tryz.prog 7 Tryz.f7 (OpenSpec.ofChange Rows.manifestSwitchesSpec).bare Rows.manifestSwitchesRow = true := by
  unfold joinedFacts
  rw [factsA, factsB, factsC, factsD]
  kernel_rfl
end Go.Proofs.YtbakhdgiimjnkaaGreatDoor.manifestSwitches
