/-
  Facts on the row WalFiles that hang on the program's text alone.
-/
import Derived.Test.YtbakhdgiimjnkaaGreatDoorRows
import Derived.JoinedCond
import Derived.ProofKit
set_option linter.unusedVariables false
set_option linter.unusedSimpArgs false
namespace Go.Proofs.YtbakhdgiimjnkaaGreatDoor.walFiles
theorem factsC : (Rows.walFilesRow.recurses == Tryz.prog.recurses 9) = true := by kernel_rfl
theorem factsD : (Rows.walFilesRow.named == Tryz.prog.varsNamed 9) = true := by kernel_rfl
end Go.Proofs.YtbakhdgiimjnkaaGreatDoor.walFiles
