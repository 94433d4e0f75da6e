/-
  Pieces of a closed run: the evaluator answers so.
-/
import Derived.Test.YtihplijjkcdcjaaGreatDoorProg
import Derived.KernelRfl
import Derived.Test.YtihplijjkcdcjaaGreatDoorDfA
import Derived.Test.YtihplijjkcdcjaaGreatDoorCuts
namespace Go.Proofs.YtihplijjkcdcjaaGreatDoor
open Abs
/-- 4511 operations -/
theorem g314_6708 (m : Int) (t : TypeId) : c314_6708.good (c314_6708.runs Tryz.prog SmC15 314 (Tr.nil.set 0 (.const [.int .i64 m] t))) = true := by kernel_rfl
/-- 7595 operations -/
theorem g205_6708 (m : Int) (t : TypeId) : c205_6708.good (c205_6708.runs Tryz.prog SmC16 205 (Tr.nil.set 0 (.const [.int .i64 m] t))) = true := by kernel_rfl
/-- 9775 operations -/
theorem g43_5381 (m : Int) (t : TypeId) : c43_5381.good (c43_5381.runs Tryz.prog SmC17 43 (Tr.nil.set 0 (.const [.int .i64 m] t))) = true := by kernel_rfl
/-- 6748 operations -/
theorem g383_10999 (m : Int) (t : TypeId) : c383_10999.good (c383_10999.runs Tryz.prog SmC18 383 (Tr.nil.set 0 (.const [.int .i64 m] t))) = true := by kernel_rfl
end Go.Proofs.YtihplijjkcdcjaaGreatDoor
