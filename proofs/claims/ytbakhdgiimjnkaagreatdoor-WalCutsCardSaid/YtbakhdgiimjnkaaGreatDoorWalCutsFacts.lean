/-
  Facts on the row WalCuts that hang on the program's text alone.
-/
import Derived.Test.YtbakhdgiimjnkaaGreatDoorRows
import Derived.JoinedCond
import Derived.Test.YtbakhdgiimjnkaaGreatDoorWalCutsFactsA
import Derived.Test.YtbakhdgiimjnkaaGreatDoorWalCutsFactsB
import Derived.Test.YtbakhdgiimjnkaaGreatDoorWalCutsFactsC
import Derived.Test.YtbakhdgiimjnkaaGreatDoorWalCutsFactsD
import Derived.ProofKit
set_option linter.unusedVariables false
set_option linter.unusedSimpArgs false
namespace Go.Proofs.YtbakhdgiimjnkaaGreatDoor.walCuts
theorem facts : joinedFacts Tryz.prog 11 Tryz.f11 (OpenSpec.ofChange Rows.walCutsSpec).bare Rows.walCutsRow = true := by
  unfold joinedFacts
  rw [factsA, factsB, factsC, factsD]
  kernel_rfl
end Go.Proofs.YtbakhdgiimjnkaaGreatDoor.walCuts
