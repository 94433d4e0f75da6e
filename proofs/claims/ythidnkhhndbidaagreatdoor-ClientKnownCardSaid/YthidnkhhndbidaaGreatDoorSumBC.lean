/-
  At this program: the evaluator's summaries below the cuts (check sums, strings.Trim, sha's rounds, sorted keys). A definition.
-/
import Derived.Test.YthidnkhhndbidaaGreatDoorSumOr
import Derived.Test.YthidnkhhndbidaaGreatDoorShaDef
import Derived.Test.YthidnkhhndbidaaGreatDoorSumIdxDef
namespace Go.Proofs.YthidnkhhndbidaaGreatDoor
open Abs
noncomputable def SmZ : Abs.Summ := fun _ => none
noncomputable def sumKeys : List Value → St → Rs (Value × St) := orSum (sumSorted 238 9) (orSum (sumSorted 239 9) (sumSorted 240 9))
noncomputable def SmB : Abs.Summ := ((((SmZ.add 152 sumKeys).add 228 (sumIdx 0)).add 256 sumCrc).add 161 sumTrim).add 199 sumTake
end Go.Proofs.YthidnkhhndbidaaGreatDoor
