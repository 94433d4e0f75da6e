/-
  Facts on the row WalCorrupt that hang on the program's text alone.
-/
import Derived.Test.YtbakhdgiimjnkaaGreatDoorRows
import Derived.JoinedCond
import Derived.ProofKit
set_option linter.unusedVariables false
set_option linter.unusedSimpArgs false
namespace Go.Proofs.YtbakhdgiimjnkaaGreatDoor.walCorrupt
theorem factsA : (Rows.walCorruptRow.inPlace == Tryz.prog.inPlace 10) = true := by kernel_rfl
theorem factsB : (Rows.walCorruptRow.unfollowed == Tryz.prog.unfollowed 10) = true := by kernel_rfl
end Go.Proofs.YtbakhdgiimjnkaaGreatDoor.walCorrupt
