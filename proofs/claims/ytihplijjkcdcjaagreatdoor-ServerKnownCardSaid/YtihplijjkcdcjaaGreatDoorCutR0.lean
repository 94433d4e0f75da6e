/-
  Pieces of a closed run: the evaluator answers so.
-/
import Derived.Test.YtihplijjkcdcjaaGreatDoorProg
import Derived.KernelRfl
import Derived.Test.YtihplijjkcdcjaaGreatDoorDfA
import Derived.Test.YtihplijjkcdcjaaGreatDoorCuts
namespace Go.Proofs.YtihplijjkcdcjaaGreatDoor
open Abs
/-- 4380 operations -/
theorem g9_8279 (m : Int) (t : TypeId) : c9_8279.good (c9_8279.runs Tryz.prog SmC0 9 (Tr.nil.set 0 (.const [.int .i64 m] t))) = true := by kernel_rfl
/-- 4380 operations -/
theorem g9_8487 (m : Int) (t : TypeId) : c9_8487.good (c9_8487.runs Tryz.prog SmC0 9 (Tr.nil.set 0 (.const [.int .i64 m] t))) = true := by kernel_rfl
/-- 4455 operations -/
theorem g9_10847 (m : Int) (t : TypeId) : c9_10847.good (c9_10847.runs Tryz.prog SmC0 9 (Tr.nil.set 0 (.const [.int .i64 m] t))) = true := by kernel_rfl
/-- 4686 operations -/
theorem g14_4234 (m : Int) (t : TypeId) : c14_4234.good (c14_4234.runs Tryz.prog SmC1 14 (Tr.nil.set 0 (.const [.int .i64 m] t))) = true := by kernel_rfl
end Go.Proofs.YtihplijjkcdcjaaGreatDoor
