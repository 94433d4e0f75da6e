/-
  Facts on the row ServerKnown that hang on the program's text alone.
-/
import Derived.Test.YtihplijjkcdcjaaGreatDoorRows
import Derived.JoinedCond
import Derived.ProofKit
set_option linter.unusedVariables false
set_option linter.unusedSimpArgs false
namespace Go.Proofs.YtihplijjkcdcjaaGreatDoor.serverKnown
theorem factsF : Tryz.prog.stopsHeard = true := by kernel_rfl
theorem factsH : (Rows.serverKnownRow.lifted == Tryz.prog.liftsFinal) = true := by kernel_rfl
theorem factsI : (Tryz.prog.make == some Rows.serverKnownRow.make) = true := by kernel_rfl
theorem factsJ : (Rows.serverKnownRow.plainKeys == Tryz.prog.plainKeys) = true := by kernel_rfl
end Go.Proofs.YtihplijjkcdcjaaGreatDoor.serverKnown
