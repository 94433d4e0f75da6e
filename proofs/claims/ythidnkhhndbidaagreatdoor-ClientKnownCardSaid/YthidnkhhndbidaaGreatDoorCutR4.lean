/-
  Pieces of a closed run: the evaluator answers so.
-/
import Derived.Test.YthidnkhhndbidaaGreatDoorProg
import Derived.KernelRfl
import Derived.Test.YthidnkhhndbidaaGreatDoorCutRun
import Derived.Test.YthidnkhhndbidaaGreatDoorCuts
namespace Go.Proofs.YthidnkhhndbidaaGreatDoor
open Abs
/-- 5637 operations -/
theorem g89_7535 (m : Int) (t : TypeId) : c89_7535.good (c89_7535.runs Tryz.prog SmC8 89 (Tr.nil.set 0 (.const [.int .i64 m] t))) = true := by kernel_rfl
/-- 5390 operations -/
theorem g89_10910 (m : Int) (t : TypeId) : c89_10910.good (c89_10910.runs Tryz.prog SmC8 89 (Tr.nil.set 0 (.const [.int .i64 m] t))) = true := by kernel_rfl
/-- 8187 operations -/
theorem g97_5553 (m : Int) (t : TypeId) : c97_5553.good (c97_5553.runs Tryz.prog SmC9 97 (Tr.nil.set 0 (.const [.int .i64 m] t))) = true := by kernel_rfl
end Go.Proofs.YthidnkhhndbidaaGreatDoor
