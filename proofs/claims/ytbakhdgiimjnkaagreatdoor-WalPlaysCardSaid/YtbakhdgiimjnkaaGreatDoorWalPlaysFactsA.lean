/-
  Facts on the row WalPlays that hang on the program's text alone.
-/
import Derived.Test.YtbakhdgiimjnkaaGreatDoorRows
import Derived.JoinedCond
import Derived.ProofKit
set_option linter.unusedVariables false
set_option linter.unusedSimpArgs false
namespace Go.Proofs.YtbakhdgiimjnkaaGreatDoor.walPlays
theorem factsA : (Rows.walPlaysRow.inPlace == Tryz.prog.inPlace 14) = true := by kernel_rfl
theorem factsB : (Rows.walPlaysRow.unfollowed == Tryz.prog.unfollowed 14) = true := by kernel_rfl
end Go.Proofs.YtbakhdgiimjnkaaGreatDoor.walPlays
