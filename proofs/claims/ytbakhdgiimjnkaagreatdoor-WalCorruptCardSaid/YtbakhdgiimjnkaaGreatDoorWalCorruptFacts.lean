/-
  Facts on the row WalCorrupt that hang on the program's text alone.
-/
import Derived.Test.YtbakhdgiimjnkaaGreatDoorRows
import Derived.JoinedCond
import Derived.Test.YtbakhdgiimjnkaaGreatDoorWalCorruptFactsA
import Derived.Test.YtbakhdgiimjnkaaGreatDoorWalCorruptFactsC
import Derived.ProofKit
set_option linter.unusedVariables false
set_option linter.unusedSimpArgs false
namespace Go.Proofs.YtbakhdgiimjnkaaGreatDoor.walCorrupt
theorem facts : joinedFacts Tryz.prog 10 Tryz.f10 (OpenSpec.ofChange Rows.walCorruptSpec).bare Rows.walCorruptRow = true := by
  unfold joinedFacts
  rw [factsA, factsB, factsC, factsD]
  kernel_rfl
end Go.Proofs.YtbakhdgiimjnkaaGreatDoor.walCorrupt
