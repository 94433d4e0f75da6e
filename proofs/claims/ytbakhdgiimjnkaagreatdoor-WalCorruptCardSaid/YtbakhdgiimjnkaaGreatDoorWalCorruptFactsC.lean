/-
  Facts on the row WalCorrupt that hang on the program's text alone.
-/
import Derived.Test.YtbakhdgiimjnkaaGreatDoorRows
import Derived.JoinedCond
import Derived.ProofKit
set_option linter.unusedVariables false
set_option linter.unusedSimpArgs false
namespace Go.Proofs.YtbakhdgiimjnkaaGreatDoor.walCorrupt
theorem factsC : (Rows.walCorruptRow.recurses == Tryz.prog.recurses 10) = true := by kernel_rfl
theorem factsD : (Rows.walCorruptRow.named == Tryz.prog.varsNamed 10) = true := by kernel_rfl
end Go.Proofs.YtbakhdgiimjnkaaGreatDoor.walCorrupt
