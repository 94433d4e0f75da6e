/-
  Pieces of a closed run: the evaluator answers so.
-/
import Derived.Test.YthidnkhhndbidaaGreatDoorProg
import Derived.KernelRfl
import Derived.Test.YthidnkhhndbidaaGreatDoorCutRun
import Derived.Test.YthidnkhhndbidaaGreatDoorCuts
namespace Go.Proofs.YthidnkhhndbidaaGreatDoor
open Abs
/-- 7288 operations -/
theorem g97_8100 (m : Int) (t : TypeId) : c97_8100.good (c97_8100.runs Tryz.prog SmC9 97 (Tr.nil.set 0 (.const [.int .i64 m] t))) = true := by kernel_rfl
/-- 8573 operations -/
theorem g97_11428 (m : Int) (t : TypeId) : c97_11428.good (c97_11428.runs Tryz.prog SmC9 97 (Tr.nil.set 0 (.const [.int .i64 m] t))) = true := by kernel_rfl
/-- 10735 operations -/
theorem g8_4583 (m : Int) (t : TypeId) : c8_4583.good (c8_4583.runs Tryz.prog SmC10 8 (Tr.nil.set 0 (.const [.int .i64 m] t))) = true := by kernel_rfl
end Go.Proofs.YthidnkhhndbidaaGreatDoor
