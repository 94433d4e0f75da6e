/-
  Pieces of a closed run: the evaluator answers so.
-/
import Derived.Test.YthidnkhhndbidaaGreatDoorProg
import Derived.KernelRfl
import Derived.Test.YthidnkhhndbidaaGreatDoorCutRun
import Derived.Test.YthidnkhhndbidaaGreatDoorCuts
namespace Go.Proofs.YthidnkhhndbidaaGreatDoor
open Abs
/-- 4812 operations -/
theorem g30_15343 (m : Int) (t : TypeId) : c30_15343.good (c30_15343.runs Tryz.prog SmC4 30 (Tr.nil.set 0 (.const [.int .i64 m] t))) = true := by kernel_rfl
/-- 7115 operations -/
theorem g35_12002 (m : Int) (t : TypeId) : c35_12002.good (c35_12002.runs Tryz.prog SmC5 35 (Tr.nil.set 0 (.const [.int .i64 m] t))) = true := by kernel_rfl
/-- 7501 operations -/
theorem g35_14339 (m : Int) (t : TypeId) : c35_14339.good (c35_14339.runs Tryz.prog SmC5 35 (Tr.nil.set 0 (.const [.int .i64 m] t))) = true := by kernel_rfl
end Go.Proofs.YthidnkhhndbidaaGreatDoor
