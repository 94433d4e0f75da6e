/-
  At this program: the evaluator's summaries for LsmKnown. A definition.
-/
import Derived.Test.YtdcnkgonfchkmaaGreatDoorSumKDef
namespace Go.Proofs.YtdcnkgonfchkmaaGreatDoor
open Abs
noncomputable def SmL0 : Abs.Summ := ((((((SmK.add 117 sumTotal).add 147 sumCrc).add 108 sumTrim).add 179 sumCmpS).add 180 sumCmpU).add 178 sumOr).add 202 sumPre
noncomputable def SmL : Abs.Summ := (SmL0.add 106 sumRep).add 105 sumItoa
noncomputable def SmL2 : Abs.Summ := SmL.add 4 (sumTrue [])
end Go.Proofs.YtdcnkgonfchkmaaGreatDoor
