/-
  A fact on the row WalCuts that hangs on the program's text alone.
-/
import Derived.Test.YtbakhdgiimjnkaaGreatDoorRows
import Derived.JoinedCond
import Derived.ProofKit
set_option linter.unusedVariables false
set_option linter.unusedSimpArgs false
namespace Go.Proofs.YtbakhdgiimjnkaaGreatDoor.walCuts
theorem factsA : (Rows.walCutsRow.inPlace == Tryz.prog.inPlace 11) = true := by kernel_rfl
end Go.Proofs.YtbakhdgiimjnkaaGreatDoor.walCuts
