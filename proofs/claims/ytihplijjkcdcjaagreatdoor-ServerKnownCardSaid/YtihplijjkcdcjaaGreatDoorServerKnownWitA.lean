/-
  The witness of the row ServerKnown: a world in which the listed variables lie as the card ties them; closed facts (A).
-/
import Derived.Test.YtihplijjkcdcjaaGreatDoorRows
import Derived.LaidMore
import Derived.ProofKit
import Derived.OpenShut
import Derived.Deep.DeepHandedRow
import Derived.Deep.DeepWitnessRowRef
set_option linter.unusedVariables false
set_option linter.unusedSimpArgs false
namespace Go.Proofs.YtihplijjkcdcjaaGreatDoor.serverKnown
open Go.ChangeShapes Go.WideShapes Go.ChangeAt Go.RowKit
noncomputable def laidHeap (h : Array Obj) : Array Obj :=
  let put (cs : Array Value) : Obj → Obj := fun | .cells _ t fr => .cells cs t fr | o => o
  (((((((((h.modify 1 (put #[(.iface 556 (.pointer (some ⟨14, 0, none⟩)))])).modify 2 (put #[(.iface 556 (.pointer (some ⟨13, 0, none⟩)))])).modify 3 (put ((([1, 10, 100, 1000, 10000, 100000, 1000000, 10000000, 100000000, 1000000000, 10000000000, 100000000000, 1000000000000, 10000000000000, 100000000000000, 1000000000000000, 10000000000000000, 100000000000000000, 1000000000000000000, 10000000000000000000] : List Nat).map fun (n : Nat) => Value.int .u64 (Int.ofNat n)).toArray))).modify 4 (put (Go.Pinned.utf8FirstZ.map fun (n : Nat) => Value.int .u8 (Int.ofNat n)).toArray)).modify 5 (put ((([128, 191, 160, 191, 128, 159, 144, 191, 128, 143, 0, 0, 0, 0, 0, 0, 0, 0, 0, 0, 0, 0, 0, 0, 0, 0, 0, 0, 0, 0, 0, 0] : List Nat).map fun (n : Nat) => Value.int .u8 (Int.ofNat n)).toArray))).modify 6 (put ((([0, 1, 28, 2, 29, 14, 24, 3, 30, 22, 20, 15, 25, 17, 4, 8, 31, 27, 13, 23, 21, 19, 16, 7, 26, 12, 18, 6, 11, 5, 10, 9] : List Nat).map fun (n : Nat) => Value.int .u8 (Int.ofNat n)).toArray))).modify 7 (put ((([0, 1, 56, 2, 57, 49, 28, 3, 61, 58, 42, 50, 38, 29, 17, 4, 62, 47, 59, 36, 45, 43, 51, 22, 53, 39, 33, 30, 24, 18, 12, 5, 63, 55, 48, 27, 60, 41, 37, 16, 46, 35, 44, 21, 52, 32, 23, 11, 54, 26, 40, 15, 34, 20, 31, 10, 25, 14, 19, 9, 13, 8, 7, 6] : List Nat).map fun (n : Nat) => Value.int .u8 (Int.ofNat n)).toArray))).push (.cells #[(.string ⟨⟨[118, 97, 108, 117, 101, 32, 111, 117, 116, 32, 111, 102, 32, 114, 97, 110, 103, 101]⟩⟩)] 558 (0, 0))).push (.cells #[(.string ⟨⟨[105, 110, 118, 97, 108, 105, 100, 32, 115, 121, 110, 116, 97, 120]⟩⟩)] 558 (0, 0)))
noncomputable def laidWorld (os : Os) : World :=
  { World.holding Tryz.prog os ⟨#[], #[], []⟩ with heap := laidHeap (World.holding Tryz.prog os ⟨#[], #[], []⟩).heap }
theorem wa (os : Os) : (DataW.laidRun Tryz.prog ((laidWorld os).forCall (fun _ _ => 0) ⟨#[], #[], []⟩).memory 8 (Rows.serverKnownRow.laid.map (·.1))).map (·.1) = some Rows.serverKnownRow.laid := by kernel_rfl
theorem wd (os : Os) : ((laidWorld os).forCall (fun _ _ => 0) ⟨#[], #[], []⟩).variablesRefB Tryz.prog = true := by kernel_rfl
end Go.Proofs.YtihplijjkcdcjaaGreatDoor.serverKnown
