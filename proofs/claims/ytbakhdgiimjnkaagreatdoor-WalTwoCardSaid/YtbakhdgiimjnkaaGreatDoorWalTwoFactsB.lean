/-
  A fact on the row WalTwo that hangs on the program's text alone.
-/
import Derived.Test.YtbakhdgiimjnkaaGreatDoorRows
import Derived.JoinedCond
import Derived.ProofKit
set_option linter.unusedVariables false
set_option linter.unusedSimpArgs false
namespace Go.Proofs.YtbakhdgiimjnkaaGreatDoor.walTwo
theorem factsB : (Rows.walTwoRow.unfollowed == Tryz.prog.unfollowed 12) = true := by kernel_rfl
end Go.Proofs.YtbakhdgiimjnkaaGreatDoor.walTwo
