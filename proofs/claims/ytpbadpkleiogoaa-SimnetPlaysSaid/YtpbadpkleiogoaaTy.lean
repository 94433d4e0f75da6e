/-
  Facts on the program's types: cells, bytes, zero values. Printed by program.
-/
import Derived.Test.YtpbadpkleiogoaaChecked
import Derived.KernelRfl
import Derived.Test.YtpbadpkleiogoaaAbsA
namespace Go.Proofs.Ytpbadpkleiogoaa.Ty
open Abs
theorem sz2 : szT Try.prog 2 = .ok 1 := by kernel_rfl
theorem by2 : bytesT Try.prog 2 = .ok 8 := by kernel_rfl
theorem ag2 : aggT Try.prog 2 = .ok false := by kernel_rfl
theorem ze2 : zeroT Try.prog 2 = .ok (.int .i64 0) := by kernel_rfl
theorem sz3 : szT Try.prog 3 = .ok 1 := by kernel_rfl
theorem by3 : bytesT Try.prog 3 = .ok 8 := by kernel_rfl
theorem ag3 : aggT Try.prog 3 = .ok false := by kernel_rfl
theorem ze3 : zeroT Try.prog 3 = .ok (.int .i64 0) := by kernel_rfl
theorem sz4 : szT Try.prog 4 = .ok 1 := by kernel_rfl
theorem by4 : bytesT Try.prog 4 = .ok 1 := by kernel_rfl
theorem ag4 : aggT Try.prog 4 = .ok false := by kernel_rfl
theorem ze4 : zeroT Try.prog 4 = .ok (.bool false) := by kernel_rfl
theorem sz5 : szT Try.prog 5 = .ok 1 := by kernel_rfl
theorem by5 : bytesT Try.prog 5 = .ok 1 := by kernel_rfl
theorem ag5 : aggT Try.prog 5 = .ok false := by kernel_rfl
theorem ze5 : zeroT Try.prog 5 = .ok (.int .u8 0) := by kernel_rfl
theorem sz9 : szT Try.prog 9 = .ok 1 := by kernel_rfl
theorem by9 : bytesT Try.prog 9 = .ok 16 := by kernel_rfl
theorem ag9 : aggT Try.prog 9 = .ok false := by kernel_rfl
theorem ze9 : zeroT Try.prog 9 = .ok (.string ⟨⟨[]⟩⟩) := by kernel_rfl
theorem sz29 : szT Try.prog 29 = .ok 1 := by kernel_rfl
theorem by29 : bytesT Try.prog 29 = .ok 8 := by kernel_rfl
theorem ag29 : aggT Try.prog 29 = .ok false := by kernel_rfl
theorem ze29 : zeroT Try.prog 29 = .ok (.int .u64 0) := by kernel_rfl
theorem sz45 : szT Try.prog 45 = .ok 1 := by kernel_rfl
theorem by45 : bytesT Try.prog 45 = .ok 24 := by kernel_rfl
theorem ag45 : aggT Try.prog 45 = .ok false := by kernel_rfl
theorem ze45 : zeroT Try.prog 45 = .ok (.slice none 0 0) := by kernel_rfl
theorem sz53 : szT Try.prog 53 = .ok 1 := by kernel_rfl
theorem by53 : bytesT Try.prog 53 = .ok 24 := by kernel_rfl
theorem ag53 : aggT Try.prog 53 = .ok false := by kernel_rfl
theorem ze53 : zeroT Try.prog 53 = .ok (.slice none 0 0) := by kernel_rfl
theorem sz55 : szT Try.prog 55 = .ok 1 := by kernel_rfl
theorem by55 : bytesT Try.prog 55 = .ok 24 := by kernel_rfl
theorem ag55 : aggT Try.prog 55 = .ok false := by kernel_rfl
theorem ze55 : zeroT Try.prog 55 = .ok (.slice none 0 0) := by kernel_rfl
theorem sz57 : szT Try.prog 57 = .ok 1 := by kernel_rfl
theorem by57 : bytesT Try.prog 57 = .ok 24 := by kernel_rfl
theorem ag57 : aggT Try.prog 57 = .ok false := by kernel_rfl
theorem ze57 : zeroT Try.prog 57 = .ok (.slice none 0 0) := by kernel_rfl
theorem sz58 : szT Try.prog 58 = .ok 1 := by kernel_rfl
theorem by58 : bytesT Try.prog 58 = .ok 24 := by kernel_rfl
theorem ag58 : aggT Try.prog 58 = .ok false := by kernel_rfl
theorem ze58 : zeroT Try.prog 58 = .ok (.slice none 0 0) := by kernel_rfl
theorem sz60 : szT Try.prog 60 = .ok 5 := by kernel_rfl
theorem by60 : bytesT Try.prog 60 = .ok 72 := by kernel_rfl
theorem ag60 : aggT Try.prog 60 = .ok true := by kernel_rfl
theorem ze60 : zeroT Try.prog 60 = .ok (.agg #[(.slice none 0 0), (.int .i64 0), (.int .i64 0), (.slice none 0 0), (.int .u64 0)]) := by kernel_rfl
theorem sz62 : szT Try.prog 62 = .ok 4 := by kernel_rfl
theorem by62 : bytesT Try.prog 62 = .ok 40 := by kernel_rfl
theorem ag62 : aggT Try.prog 62 = .ok true := by kernel_rfl
theorem ze62 : zeroT Try.prog 62 = .ok (.agg #[(.int .i64 0), (.int .i64 0), (.int .i64 0), (.string ⟨⟨[]⟩⟩)]) := by kernel_rfl
theorem sz67 : szT Try.prog 67 = .ok 4 := by kernel_rfl
theorem by67 : bytesT Try.prog 67 = .ok 48 := by kernel_rfl
theorem ag67 : aggT Try.prog 67 = .ok true := by kernel_rfl
theorem ze67 : zeroT Try.prog 67 = .ok (.agg #[(.int .i64 0), (.int .i64 0), (.int .i64 0), (.slice none 0 0)]) := by kernel_rfl
theorem sz84 : szT Try.prog 84 = .ok 4 := by kernel_rfl
theorem by84 : bytesT Try.prog 84 = .ok 32 := by kernel_rfl
theorem ag84 : aggT Try.prog 84 = .ok true := by kernel_rfl
theorem ze84 : zeroT Try.prog 84 = .ok (.agg #[(.int .i64 0), (.int .i64 0), (.int .i64 0), (.int .i64 0)]) := by kernel_rfl
theorem sz85 : szT Try.prog 85 = .ok 1 := by kernel_rfl
theorem by85 : bytesT Try.prog 85 = .ok 24 := by kernel_rfl
theorem ag85 : aggT Try.prog 85 = .ok false := by kernel_rfl
theorem ze85 : zeroT Try.prog 85 = .ok (.slice none 0 0) := by kernel_rfl
theorem sz87 : szT Try.prog 87 = .ok 5 := by kernel_rfl
theorem by87 : bytesT Try.prog 87 = .ok 72 := by kernel_rfl
theorem ag87 : aggT Try.prog 87 = .ok true := by kernel_rfl
theorem ze87 : zeroT Try.prog 87 = .ok (.agg #[(.slice none 0 0), (.int .i64 0), (.int .i64 0), (.slice none 0 0), (.int .u64 0)]) := by kernel_rfl
theorem sz90 : szT Try.prog 90 = .ok 4 := by kernel_rfl
theorem by90 : bytesT Try.prog 90 = .ok 48 := by kernel_rfl
theorem ag90 : aggT Try.prog 90 = .ok true := by kernel_rfl
theorem ze90 : zeroT Try.prog 90 = .ok (.agg #[(.int .i64 0), (.int .i64 0), (.int .i64 0), (.slice none 0 0)]) := by kernel_rfl
end Go.Proofs.Ytpbadpkleiogoaa.Ty
