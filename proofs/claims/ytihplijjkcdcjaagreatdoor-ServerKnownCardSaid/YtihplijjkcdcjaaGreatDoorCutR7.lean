/-
  Pieces of a closed run: the evaluator answers so.
-/
import Derived.Test.YtihplijjkcdcjaaGreatDoorProg
import Derived.KernelRfl
import Derived.Test.YtihplijjkcdcjaaGreatDoorDfA
import Derived.Test.YtihplijjkcdcjaaGreatDoorCuts
namespace Go.Proofs.YtihplijjkcdcjaaGreatDoor
open Abs
/-- 7411 operations -/
theorem g384_11233 (m : Int) (t : TypeId) : c384_11233.good (c384_11233.runs Tryz.prog SmC19 384 (Tr.nil.set 0 (.const [.int .i64 m] t))) = true := by kernel_rfl
/-- 8651 operations -/
theorem g24_10905 (m : Int) (t : TypeId) : c24_10905.good (c24_10905.runs Tryz.prog SmC20 24 (Tr.nil.set 0 (.const [.int .i64 m] t))) = true := by kernel_rfl
/-- 3340 operations -/
theorem g6_4101 (m : Int) (t : TypeId) : c6_4101.good (c6_4101.runs Tryz.prog SmC21 6 (Tr.nil.set 0 (.const [.int .i64 m] t))) = true := by kernel_rfl
/-- 5951 operations -/
theorem g6_10904 (m : Int) (t : TypeId) : c6_10904.good (c6_10904.runs Tryz.prog SmC21 6 (Tr.nil.set 0 (.const [.int .i64 m] t))) = true := by kernel_rfl
end Go.Proofs.YtihplijjkcdcjaaGreatDoor
