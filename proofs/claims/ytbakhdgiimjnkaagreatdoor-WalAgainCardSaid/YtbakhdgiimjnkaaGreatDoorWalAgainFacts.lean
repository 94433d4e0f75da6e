/-
  Facts on the row WalAgain that hang on the program's text alone.
-/
import Derived.Test.YtbakhdgiimjnkaaGreatDoorRows
import Derived.JoinedCond
import Derived.Test.YtbakhdgiimjnkaaGreatDoorWalAgainFactsA
import Derived.Test.YtbakhdgiimjnkaaGreatDoorWalAgainFactsB
import Derived.Test.YtbakhdgiimjnkaaGreatDoorWalAgainFactsC
import Derived.Test.YtbakhdgiimjnkaaGreatDoorWalAgainFactsD
import Derived.ProofKit
set_option linter.unusedVariables false
set_option linter.unusedSimpArgs false
namespace Go.Proofs.YtbakhdgiimjnkaaGreatDoor.walAgain
theorem facts : joinedFacts Tryz.prog 13 Tryz.f13 (OpenSpec.ofChange Rows.walAgainSpec).bare Rows.walAgainRow = true := by
  unfold joinedFacts
  rw [factsA, factsB, factsC, factsD]
  kernel_rfl
end Go.Proofs.YtbakhdgiimjnkaaGreatDoor.walAgain
