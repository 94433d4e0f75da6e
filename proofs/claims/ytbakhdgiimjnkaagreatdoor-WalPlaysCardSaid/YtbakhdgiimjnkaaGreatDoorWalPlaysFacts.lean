/-
  Facts on the row WalPlays that hang on the program's text alone.
-/
import Derived.Test.YtbakhdgiimjnkaaGreatDoorRows
import Derived.JoinedCond
import Derived.Test.YtbakhdgiimjnkaaGreatDoorWalPlaysFactsA
import Derived.Test.YtbakhdgiimjnkaaGreatDoorWalPlaysFactsC
import Derived.ProofKit
set_option linter.unusedVariables false
set_option linter.unusedSimpArgs false
namespace Go.Proofs.YtbakhdgiimjnkaaGreatDoor.walPlays
theorem facts : joinedFacts Tryz.prog 14 Tryz.f14 (OpenSpec.ofChange Rows.walPlaysSpec).bare Rows.walPlaysRow = true := by
  unfold joinedFacts
  rw [factsA, factsB, factsC, factsD]
  kernel_rfl
end Go.Proofs.YtbakhdgiimjnkaaGreatDoor.walPlays
