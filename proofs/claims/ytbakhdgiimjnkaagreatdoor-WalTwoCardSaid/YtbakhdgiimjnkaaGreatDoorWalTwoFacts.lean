/-
  Facts on the row WalTwo that hang on the program's text alone.
-/
import Derived.Test.YtbakhdgiimjnkaaGreatDoorRows
import Derived.JoinedCond
import Derived.Test.YtbakhdgiimjnkaaGreatDoorWalTwoFactsA
import Derived.Test.YtbakhdgiimjnkaaGreatDoorWalTwoFactsB
import Derived.Test.YtbakhdgiimjnkaaGreatDoorWalTwoFactsC
import Derived.Test.YtbakhdgiimjnkaaGreatDoorWalTwoFactsD
import Derived.ProofKit
set_option linter.unusedVariables false
set_option linter.unusedSimpArgs false
namespace Go.Proofs.YtbakhdgiimjnkaaGreatDoor.walTwo
theorem facts : joinedFacts Tryz.prog 12 Tryz.f12 (OpenSpec.ofChange Rows.walTwoSpec).bare Rows.walTwoRow = true := by
  unfold joinedFacts
  rw [factsA, factsB, factsC, factsD]
  kernel_rfl
end Go.Proofs.YtbakhdgiimjnkaaGreatDoor.walTwo
