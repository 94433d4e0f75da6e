/-
  Over the given program, the card of ClientKnown: how the row goes. No condition.
-/
import Derived.Test.YthidnkhhndbidaaGreatDoorCards
import Derived.Test.YthidnkhhndbidaaGreatDoorTie
import Derived.ProofKit
import Derived.Test.YthidnkhhndbidaaGreatDoorGoes
namespace Go.Proofs.YthidnkhhndbidaaGreatDoor.clientKnown
open Go.ChangeShapes Go.WideShapes Go.ChangeAt Go.RowKit

theorem goes : false = Rows.clientKnownRow.goesBy Tryz.pinned.checked.prog := goesBy_none noGoes _
end Go.Proofs.YthidnkhhndbidaaGreatDoor.clientKnown
