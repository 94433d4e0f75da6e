/-
  Pieces of a closed run: the evaluator answers so.
-/
import Derived.Test.YthidnkhhndbidaaGreatDoorProg
import Derived.KernelRfl
import Derived.Test.YthidnkhhndbidaaGreatDoorCutRun
import Derived.Test.YthidnkhhndbidaaGreatDoorCuts
namespace Go.Proofs.YthidnkhhndbidaaGreatDoor
open Abs
/-- 3966 operations -/
theorem g16_6059 (m : Int) (t : TypeId) : c16_6059.good (c16_6059.runs Tryz.prog SmC2 16 (Tr.nil.set 0 (.const [.int .i64 m] t))) = true := by kernel_rfl
/-- 7063 operations -/
theorem g18_6163 (m : Int) (t : TypeId) : c18_6163.good (c18_6163.runs Tryz.prog SmC3 18 (Tr.nil.set 0 (.const [.int .i64 m] t))) = true := by kernel_rfl
/-- 6988 operations -/
theorem g18_6425 (m : Int) (t : TypeId) : c18_6425.good (c18_6425.runs Tryz.prog SmC3 18 (Tr.nil.set 0 (.const [.int .i64 m] t))) = true := by kernel_rfl
end Go.Proofs.YthidnkhhndbidaaGreatDoor
