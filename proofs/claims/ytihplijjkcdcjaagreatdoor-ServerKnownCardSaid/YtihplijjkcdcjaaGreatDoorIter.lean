/-
  DERIVED. MADE BY PROGRAM (the kit's lay-iter.mjs) at this seat's dump: the shelf's contracts on slices.Sorted of maps.Keys: the layings stand in the text beside (lay-plain.mjs).
-/
import Derived.Shelf.SlIter.Nil
import Derived.Shelf.SortM.Plain
import Derived.Shelf.SortM.SortNone
import Derived.Test.YtihplijjkcdcjaaGreatDoorLays
namespace Go.Proofs
open Go.RowKit Go.Maps Go.Sort Go.Shelf


/-- slices.Sort's two contracts at this dump, at the fence that asks nothing. -/
theorem Tryz.sorts69 (m : Nat) : AnyZ.SortsIn Tryz.prog Tryz.sorted69_ren Fence.wide m :=
  ⟨fun blk off cap ss W hH hblk hsz => callsIn_wide.2 (AnyM.slices_Sort_string Tryz.sort146 blk off cap ss W hH hblk hsz),
   fun p cap W => callsIn_wide.2 (AnyM.slices_Sort_string_none Tryz.sort146 p cap W)⟩

end Go.Proofs
