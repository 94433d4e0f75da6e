/-
  Pieces of a closed run: the evaluator answers so.
-/
import Derived.Test.YtihplijjkcdcjaaGreatDoorProg
import Derived.KernelRfl
import Derived.Test.YtihplijjkcdcjaaGreatDoorDfA
import Derived.Test.YtihplijjkcdcjaaGreatDoorCuts
namespace Go.Proofs.YtihplijjkcdcjaaGreatDoor
open Abs
/-- 8032 operations -/
theorem g268_9990 (m : Int) (t : TypeId) : c268_9990.good (c268_9990.runs Tryz.prog SmC12 268 (Tr.nil.set 0 (.const [.int .i64 m] t))) = true := by kernel_rfl
/-- 10431 operations -/
theorem g28_9573 (m : Int) (t : TypeId) : c28_9573.good (c28_9573.runs Tryz.prog SmC13 28 (Tr.nil.set 0 (.const [.int .i64 m] t))) = true := by kernel_rfl
/-- 10897 operations -/
theorem g10_8356 (m : Int) (t : TypeId) : c10_8356.good (c10_8356.runs Tryz.prog SmC14 10 (Tr.nil.set 0 (.const [.int .i64 m] t))) = true := by kernel_rfl
/-- 7125 operations -/
theorem g10_8582 (m : Int) (t : TypeId) : c10_8582.good (c10_8582.runs Tryz.prog SmC14 10 (Tr.nil.set 0 (.const [.int .i64 m] t))) = true := by kernel_rfl
end Go.Proofs.YtihplijjkcdcjaaGreatDoor
