/-
  Facts on the row WalFiles that hang on the program's text alone.
-/
import Derived.Test.YtbakhdgiimjnkaaGreatDoorRows
import Derived.JoinedCond
import Derived.ProofKit
set_option linter.unusedVariables false
set_option linter.unusedSimpArgs false
namespace Go.Proofs.YtbakhdgiimjnkaaGreatDoor.walFiles
theorem factsA : (Rows.walFilesRow.inPlace == Tryz.prog.inPlace 9) = true := by kernel_rfl
theorem factsB : (Rows.walFilesRow.unfollowed == Tryz.prog.unfollowed 9) = true := by kernel_rfl
end Go.Proofs.YtbakhdgiimjnkaaGreatDoor.walFiles
