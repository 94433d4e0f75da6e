/-
  Facts on the program's types: cells, bytes, zero values. Printed by program.
-/
import Derived.Test.YtbakhdgiimjnkaaGreatDoorChecked
import Derived.KernelRfl
import Derived.Test.YtbakhdgiimjnkaaGreatDoorAbsA
namespace Go.Proofs.YtbakhdgiimjnkaaGreatDoor.Ty
open Abs
theorem sz2 : szT Tryz.prog 2 = .ok 1 := by kernel_rfl
theorem by2 : bytesT Tryz.prog 2 = .ok 8 := by kernel_rfl
theorem ag2 : aggT Tryz.prog 2 = .ok false := by kernel_rfl
theorem ze2 : zeroT Tryz.prog 2 = .ok (.int .i64 0) := by kernel_rfl
theorem sz3 : szT Tryz.prog 3 = .ok 1 := by kernel_rfl
theorem by3 : bytesT Tryz.prog 3 = .ok 8 := by kernel_rfl
theorem ag3 : aggT Tryz.prog 3 = .ok false := by kernel_rfl
theorem ze3 : zeroT Tryz.prog 3 = .ok (.int .i64 0) := by kernel_rfl
theorem sz4 : szT Tryz.prog 4 = .ok 1 := by kernel_rfl
theorem by4 : bytesT Tryz.prog 4 = .ok 1 := by kernel_rfl
theorem ag4 : aggT Tryz.prog 4 = .ok false := by kernel_rfl
theorem ze4 : zeroT Tryz.prog 4 = .ok (.bool false) := by kernel_rfl
theorem sz5 : szT Tryz.prog 5 = .ok 1 := by kernel_rfl
theorem by5 : bytesT Tryz.prog 5 = .ok 1 := by kernel_rfl
theorem ag5 : aggT Tryz.prog 5 = .ok false := by kernel_rfl
theorem ze5 : zeroT Tryz.prog 5 = .ok (.int .u8 0) := by kernel_rfl
theorem sz9 : szT Tryz.prog 9 = .ok 1 := by kernel_rfl
theorem by9 : bytesT Tryz.prog 9 = .ok 16 := by kernel_rfl
theorem ag9 : aggT Tryz.prog 9 = .ok false := by kernel_rfl
theorem ze9 : zeroT Tryz.prog 9 = .ok (.string ⟨⟨[]⟩⟩) := by kernel_rfl
theorem sz23 : szT Tryz.prog 23 = .ok 1 := by kernel_rfl
theorem by23 : bytesT Tryz.prog 23 = .ok 24 := by kernel_rfl
theorem ag23 : aggT Tryz.prog 23 = .ok false := by kernel_rfl
theorem ze23 : zeroT Tryz.prog 23 = .ok (.slice none 0 0) := by kernel_rfl
theorem sz24 : szT Tryz.prog 24 = .ok 1 := by kernel_rfl
theorem by24 : bytesT Tryz.prog 24 = .ok 8 := by kernel_rfl
theorem ag24 : aggT Tryz.prog 24 = .ok false := by kernel_rfl
theorem ze24 : zeroT Tryz.prog 24 = .ok (.int .u64 0) := by kernel_rfl
theorem sz26 : szT Tryz.prog 26 = .ok 4 := by kernel_rfl
theorem by26 : bytesT Tryz.prog 26 = .ok 48 := by kernel_rfl
theorem ag26 : aggT Tryz.prog 26 = .ok true := by kernel_rfl
theorem ze26 : zeroT Tryz.prog 26 = .ok (.agg #[(.slice none 0 0), (.int .i64 0), (.int .u64 0), (.int .i64 0)]) := by kernel_rfl
theorem sz28 : szT Tryz.prog 28 = .ok 1 := by kernel_rfl
theorem by28 : bytesT Tryz.prog 28 = .ok 24 := by kernel_rfl
theorem ag28 : aggT Tryz.prog 28 = .ok false := by kernel_rfl
theorem ze28 : zeroT Tryz.prog 28 = .ok (.slice none 0 0) := by kernel_rfl
theorem sz29 : szT Tryz.prog 29 = .ok 1 := by kernel_rfl
theorem by29 : bytesT Tryz.prog 29 = .ok 8 := by kernel_rfl
theorem ag29 : aggT Tryz.prog 29 = .ok false := by kernel_rfl
theorem ze29 : zeroT Tryz.prog 29 = .ok (.int .i64 0) := by kernel_rfl
theorem sz34 : szT Tryz.prog 34 = .ok 1 := by kernel_rfl
theorem by34 : bytesT Tryz.prog 34 = .ok 8 := by kernel_rfl
theorem ag34 : aggT Tryz.prog 34 = .ok false := by kernel_rfl
theorem ze34 : zeroT Tryz.prog 34 = .ok (.pointer none) := by kernel_rfl
theorem sz41 : szT Tryz.prog 41 = .ok 4 := by kernel_rfl
theorem by41 : bytesT Tryz.prog 41 = .ok 48 := by kernel_rfl
theorem ag41 : aggT Tryz.prog 41 = .ok true := by kernel_rfl
theorem ze41 : zeroT Tryz.prog 41 = .ok (.agg #[(.int .i64 0), (.int .i64 0), (.string ⟨⟨[]⟩⟩), (.string ⟨⟨[]⟩⟩)]) := by kernel_rfl
theorem sz45 : szT Tryz.prog 45 = .ok 1 := by kernel_rfl
theorem by45 : bytesT Tryz.prog 45 = .ok 24 := by kernel_rfl
theorem ag45 : aggT Tryz.prog 45 = .ok false := by kernel_rfl
theorem ze45 : zeroT Tryz.prog 45 = .ok (.slice none 0 0) := by kernel_rfl
theorem sz46 : szT Tryz.prog 46 = .ok 1 := by kernel_rfl
theorem by46 : bytesT Tryz.prog 46 = .ok 24 := by kernel_rfl
theorem ag46 : aggT Tryz.prog 46 = .ok false := by kernel_rfl
theorem ze46 : zeroT Tryz.prog 46 = .ok (.slice none 0 0) := by kernel_rfl
theorem sz55 : szT Tryz.prog 55 = .ok 4 := by kernel_rfl
theorem by55 : bytesT Tryz.prog 55 = .ok 32 := by kernel_rfl
theorem ag55 : aggT Tryz.prog 55 = .ok true := by kernel_rfl
theorem ze55 : zeroT Tryz.prog 55 = .ok (.agg #[(.int .i64 0), (.int .i64 0), (.int .i64 0), (.int .i64 0)]) := by kernel_rfl
theorem sz59 : szT Tryz.prog 59 = .ok 1 := by kernel_rfl
theorem by59 : bytesT Tryz.prog 59 = .ok 24 := by kernel_rfl
theorem ag59 : aggT Tryz.prog 59 = .ok false := by kernel_rfl
theorem ze59 : zeroT Tryz.prog 59 = .ok (.slice none 0 0) := by kernel_rfl
theorem sz83 : szT Tryz.prog 83 = .ok 1 := by kernel_rfl
theorem by83 : bytesT Tryz.prog 83 = .ok 8 := by kernel_rfl
theorem ag83 : aggT Tryz.prog 83 = .ok false := by kernel_rfl
theorem ze83 : zeroT Tryz.prog 83 = .ok (.pointer none) := by kernel_rfl
theorem sz88 : szT Tryz.prog 88 = .ok 1 := by kernel_rfl
theorem by88 : bytesT Tryz.prog 88 = .ok 8 := by kernel_rfl
theorem ag88 : aggT Tryz.prog 88 = .ok false := by kernel_rfl
theorem ze88 : zeroT Tryz.prog 88 = .ok (.map none) := by kernel_rfl
theorem sz89 : szT Tryz.prog 89 = .ok 1 := by kernel_rfl
theorem by89 : bytesT Tryz.prog 89 = .ok 24 := by kernel_rfl
theorem ag89 : aggT Tryz.prog 89 = .ok false := by kernel_rfl
theorem ze89 : zeroT Tryz.prog 89 = .ok (.slice none 0 0) := by kernel_rfl
theorem sz94 : szT Tryz.prog 94 = .ok 1 := by kernel_rfl
theorem by94 : bytesT Tryz.prog 94 = .ok 8 := by kernel_rfl
theorem ag94 : aggT Tryz.prog 94 = .ok true := by kernel_rfl
theorem ze94 : zeroT Tryz.prog 94 = .ok (.agg #[(.int .i64 0)]) := by kernel_rfl
theorem sz96 : szT Tryz.prog 96 = .ok 6 := by kernel_rfl
theorem by96 : bytesT Tryz.prog 96 = .ok 64 := by kernel_rfl
theorem ag96 : aggT Tryz.prog 96 = .ok true := by kernel_rfl
theorem ze96 : zeroT Tryz.prog 96 = .ok (.agg #[(.int .i64 0), (.map none), (.map none), (.slice none 0 0), (.int .i64 0), (.int .i64 0)]) := by kernel_rfl
theorem sz98 : szT Tryz.prog 98 = .ok 1 := by kernel_rfl
theorem by98 : bytesT Tryz.prog 98 = .ok 8 := by kernel_rfl
theorem ag98 : aggT Tryz.prog 98 = .ok false := by kernel_rfl
theorem ze98 : zeroT Tryz.prog 98 = .ok (.pointer none) := by kernel_rfl
theorem sz101 : szT Tryz.prog 101 = .ok 2 := by kernel_rfl
theorem by101 : bytesT Tryz.prog 101 = .ok 32 := by kernel_rfl
theorem ag101 : aggT Tryz.prog 101 = .ok true := by kernel_rfl
theorem ze101 : zeroT Tryz.prog 101 = .ok (.agg #[(.slice none 0 0), (.int .i64 0)]) := by kernel_rfl
theorem sz103 : szT Tryz.prog 103 = .ok 3 := by kernel_rfl
theorem by103 : bytesT Tryz.prog 103 = .ok 40 := by kernel_rfl
theorem ag103 : aggT Tryz.prog 103 = .ok true := by kernel_rfl
theorem ze103 : zeroT Tryz.prog 103 = .ok (.agg #[(.string ⟨⟨[]⟩⟩), (.pointer none), (.string ⟨⟨[]⟩⟩)]) := by kernel_rfl
theorem sz117 : szT Tryz.prog 117 = .ok 7 := by kernel_rfl
theorem by117 : bytesT Tryz.prog 117 = .ok 64 := by kernel_rfl
theorem ag117 : aggT Tryz.prog 117 = .ok true := by kernel_rfl
theorem ze117 : zeroT Tryz.prog 117 = .ok (.agg #[(.pointer none), (.string ⟨⟨[]⟩⟩), (.int .i64 0), (.int .i64 0), (.int .i64 0), (.int .i64 0), (.int .i64 0)]) := by kernel_rfl
theorem sz121 : szT Tryz.prog 121 = .ok 1 := by kernel_rfl
theorem by121 : bytesT Tryz.prog 121 = .ok 4 := by kernel_rfl
theorem ag121 : aggT Tryz.prog 121 = .ok false := by kernel_rfl
theorem ze121 : zeroT Tryz.prog 121 = .ok (.int .u32 0) := by kernel_rfl
theorem sz124 : szT Tryz.prog 124 = .ok 1 := by kernel_rfl
theorem by124 : bytesT Tryz.prog 124 = .ok 8 := by kernel_rfl
theorem ag124 : aggT Tryz.prog 124 = .ok false := by kernel_rfl
theorem ze124 : zeroT Tryz.prog 124 = .ok (.map none) := by kernel_rfl
theorem sz127 : szT Tryz.prog 127 = .ok 2 := by kernel_rfl
theorem by127 : bytesT Tryz.prog 127 = .ok 32 := by kernel_rfl
theorem ag127 : aggT Tryz.prog 127 = .ok true := by kernel_rfl
theorem ze127 : zeroT Tryz.prog 127 = .ok (.agg #[(.slice none 0 0), (.bool false)]) := by kernel_rfl
theorem sz156 : szT Tryz.prog 156 = .ok 256 := by kernel_rfl
theorem ag156 : aggT Tryz.prog 156 = .ok true := by kernel_rfl
theorem ze156 : zeroT Tryz.prog 156 = .ok (.agg ⟨List.replicate 256 (.bool false)⟩) := by kernel_rfl
theorem sz176 : szT Tryz.prog 176 = .ok 24 := by kernel_rfl
theorem by176 : bytesT Tryz.prog 176 = .ok 24 := by kernel_rfl
theorem ag176 : aggT Tryz.prog 176 = .ok true := by kernel_rfl
theorem ze176 : zeroT Tryz.prog 176 = .ok (.agg #[(.int .u8 0), (.int .u8 0), (.int .u8 0), (.int .u8 0), (.int .u8 0), (.int .u8 0), (.int .u8 0), (.int .u8 0), (.int .u8 0), (.int .u8 0), (.int .u8 0), (.int .u8 0), (.int .u8 0), (.int .u8 0), (.int .u8 0), (.int .u8 0), (.int .u8 0), (.int .u8 0), (.int .u8 0), (.int .u8 0), (.int .u8 0), (.int .u8 0), (.int .u8 0), (.int .u8 0)]) := by kernel_rfl
theorem sz196 : szT Tryz.prog 196 = .ok 20 := by kernel_rfl
theorem by196 : bytesT Tryz.prog 196 = .ok 160 := by kernel_rfl
theorem ag196 : aggT Tryz.prog 196 = .ok true := by kernel_rfl
theorem ze196 : zeroT Tryz.prog 196 = .ok (.agg #[(.int .u64 0), (.int .u64 0), (.int .u64 0), (.int .u64 0), (.int .u64 0), (.int .u64 0), (.int .u64 0), (.int .u64 0), (.int .u64 0), (.int .u64 0), (.int .u64 0), (.int .u64 0), (.int .u64 0), (.int .u64 0), (.int .u64 0), (.int .u64 0), (.int .u64 0), (.int .u64 0), (.int .u64 0), (.int .u64 0)]) := by kernel_rfl
end Go.Proofs.YtbakhdgiimjnkaaGreatDoor.Ty
