/-
  Facts on the program's types: cells, bytes, zero values. Printed by program.
-/
import Derived.Test.YtihplijjkcdcjaaGreatDoorChecked
import Derived.KernelRfl
import Derived.Test.YtihplijjkcdcjaaGreatDoorAbsA
namespace Go.Proofs.YtihplijjkcdcjaaGreatDoor.Ty
open Abs
theorem sz3 : szT Tryz.prog 3 = .ok 1 := by kernel_rfl
theorem by3 : bytesT Tryz.prog 3 = .ok 8 := by kernel_rfl
theorem ag3 : aggT Tryz.prog 3 = .ok false := by kernel_rfl
theorem ze3 : zeroT Tryz.prog 3 = .ok (.int .i64 0) := by kernel_rfl
theorem sz4 : szT Tryz.prog 4 = .ok 1 := by kernel_rfl
theorem by4 : bytesT Tryz.prog 4 = .ok 1 := by kernel_rfl
theorem ag4 : aggT Tryz.prog 4 = .ok false := by kernel_rfl
theorem ze4 : zeroT Tryz.prog 4 = .ok (.bool false) := by kernel_rfl
theorem sz5 : szT Tryz.prog 5 = .ok 1 := by kernel_rfl
theorem by5 : bytesT Tryz.prog 5 = .ok 1 := by kernel_rfl
theorem ag5 : aggT Tryz.prog 5 = .ok false := by kernel_rfl
theorem ze5 : zeroT Tryz.prog 5 = .ok (.int .u8 0) := by kernel_rfl
theorem sz9 : szT Tryz.prog 9 = .ok 1 := by kernel_rfl
theorem by9 : bytesT Tryz.prog 9 = .ok 16 := by kernel_rfl
theorem ag9 : aggT Tryz.prog 9 = .ok false := by kernel_rfl
theorem ze9 : zeroT Tryz.prog 9 = .ok (.string ⟨⟨[]⟩⟩) := by kernel_rfl
theorem sz30 : szT Tryz.prog 30 = .ok 1 := by kernel_rfl
theorem by30 : bytesT Tryz.prog 30 = .ok 24 := by kernel_rfl
theorem ag30 : aggT Tryz.prog 30 = .ok false := by kernel_rfl
theorem ze30 : zeroT Tryz.prog 30 = .ok (.slice none 0 0) := by kernel_rfl
theorem sz94 : szT Tryz.prog 94 = .ok 1 := by kernel_rfl
theorem by94 : bytesT Tryz.prog 94 = .ok 4 := by kernel_rfl
theorem ag94 : aggT Tryz.prog 94 = .ok false := by kernel_rfl
theorem ze94 : zeroT Tryz.prog 94 = .ok (.int .u32 0) := by kernel_rfl
theorem sz318 : szT Tryz.prog 318 = .ok 1 := by kernel_rfl
theorem by318 : bytesT Tryz.prog 318 = .ok 8 := by kernel_rfl
theorem ag318 : aggT Tryz.prog 318 = .ok false := by kernel_rfl
theorem ze318 : zeroT Tryz.prog 318 = .ok (.int .u64 0) := by kernel_rfl
theorem sz425 : szT Tryz.prog 425 = .ok 64 := by kernel_rfl
theorem by425 : bytesT Tryz.prog 425 = .ok 256 := by kernel_rfl
theorem ag425 : aggT Tryz.prog 425 = .ok true := by kernel_rfl
theorem ze425 : zeroT Tryz.prog 425 = .ok (.agg #[(.int .u32 0), (.int .u32 0), (.int .u32 0), (.int .u32 0), (.int .u32 0), (.int .u32 0), (.int .u32 0), (.int .u32 0), (.int .u32 0), (.int .u32 0), (.int .u32 0), (.int .u32 0), (.int .u32 0), (.int .u32 0), (.int .u32 0), (.int .u32 0), (.int .u32 0), (.int .u32 0), (.int .u32 0), (.int .u32 0), (.int .u32 0), (.int .u32 0), (.int .u32 0), (.int .u32 0), (.int .u32 0), (.int .u32 0), (.int .u32 0), (.int .u32 0), (.int .u32 0), (.int .u32 0), (.int .u32 0), (.int .u32 0), (.int .u32 0), (.int .u32 0), (.int .u32 0), (.int .u32 0), (.int .u32 0), (.int .u32 0), (.int .u32 0), (.int .u32 0), (.int .u32 0), (.int .u32 0), (.int .u32 0), (.int .u32 0), (.int .u32 0), (.int .u32 0), (.int .u32 0), (.int .u32 0), (.int .u32 0), (.int .u32 0), (.int .u32 0), (.int .u32 0), (.int .u32 0), (.int .u32 0), (.int .u32 0), (.int .u32 0), (.int .u32 0), (.int .u32 0), (.int .u32 0), (.int .u32 0), (.int .u32 0), (.int .u32 0), (.int .u32 0), (.int .u32 0)]) := by kernel_rfl
theorem sz428 : szT Tryz.prog 428 = .ok 8 := by kernel_rfl
theorem by428 : bytesT Tryz.prog 428 = .ok 32 := by kernel_rfl
theorem ag428 : aggT Tryz.prog 428 = .ok true := by kernel_rfl
theorem ze428 : zeroT Tryz.prog 428 = .ok (.agg #[(.int .u32 0), (.int .u32 0), (.int .u32 0), (.int .u32 0), (.int .u32 0), (.int .u32 0), (.int .u32 0), (.int .u32 0)]) := by kernel_rfl
theorem sz436 : szT Tryz.prog 436 = .ok 256 := by kernel_rfl
theorem by436 : bytesT Tryz.prog 436 = .ok 256 := by kernel_rfl
theorem ag436 : aggT Tryz.prog 436 = .ok true := by kernel_rfl
theorem ze436 : zeroT Tryz.prog 436 = .ok (.agg ⟨List.replicate 256 (.bool false)⟩) := by kernel_rfl
end Go.Proofs.YtihplijjkcdcjaaGreatDoor.Ty
