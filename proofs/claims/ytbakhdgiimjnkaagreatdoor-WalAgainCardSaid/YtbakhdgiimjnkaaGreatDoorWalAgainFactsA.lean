/-
  A fact on the row WalAgain that hangs on the program's text alone.
-/
import Derived.Test.YtbakhdgiimjnkaaGreatDoorRows
import Derived.JoinedCond
import Derived.ProofKit
set_option linter.unusedVariables false
set_option linter.unusedSimpArgs false
namespace Go.Proofs.YtbakhdgiimjnkaaGreatDoor.walAgain
theorem factsA : (Rows.walAgainRow.inPlace == Tryz.prog.inPlace 13) = true := by kernel_rfl
end Go.Proofs.YtbakhdgiimjnkaaGreatDoor.walAgain
