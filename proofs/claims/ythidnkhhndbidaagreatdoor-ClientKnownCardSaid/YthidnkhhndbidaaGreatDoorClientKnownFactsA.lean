/-
  A fact on the row ClientKnown that hangs on the program's text alone.
-/
import Derived.Test.YthidnkhhndbidaaGreatDoorRows
import Derived.JoinedCond
import Derived.ProofKit
namespace Go.Proofs.YthidnkhhndbidaaGreatDoor.clientKnown
theorem factsA : (Rows.clientKnownRow.inPlace == Tryz.prog.inPlace 3) = true := by kernel_rfl
end Go.Proofs.YthidnkhhndbidaaGreatDoor.clientKnown
