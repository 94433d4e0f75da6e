/-
  Facts on the row WalPlays that hang on the program's text alone.
-/
import Derived.Test.YtbakhdgiimjnkaaGreatDoorRows
import Derived.JoinedCond
import Derived.ProofKit
set_option linter.unusedVariables false
set_option linter.unusedSimpArgs false
namespace Go.Proofs.YtbakhdgiimjnkaaGreatDoor.walPlays
theorem factsC : (Rows.walPlaysRow.recurses == Tryz.prog.recurses 14) = true := by kernel_rfl
theorem factsD : (Rows.walPlaysRow.named == Tryz.prog.varsNamed 14) = true := by kernel_rfl
end Go.Proofs.YtbakhdgiimjnkaaGreatDoor.walPlays
