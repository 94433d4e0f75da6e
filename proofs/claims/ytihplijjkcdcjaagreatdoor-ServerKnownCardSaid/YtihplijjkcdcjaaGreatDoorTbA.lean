/-
  The evaluator and what is proved of it (several texts in one).
-/
import Derived.Test.YtihplijjkcdcjaaGreatDoorRows
import Derived.Test.YtihplijjkcdcjaaGreatDoorAbsE
import Derived.Lib.LaidTab
import Derived.Stop.LaidErr
set_option linter.unusedVariables false
set_option linter.unusedSimpArgs false
/-
  The tables (and one variable) of Go's library that strconv and math/bits read: their numbers, and what the row's list says of their cells.
-/
namespace Go.Proofs.YtihplijjkcdcjaaGreatDoor
def zB32 : List Int := [0, 1, 28, 2, 29, 14, 24, 3, 30, 22, 20, 15, 25, 17, 4, 8, 31, 27, 13, 23, 21, 19, 16, 7, 26, 12, 18, 6, 11, 5, 10, 9]
def zB64 : List Int := [0, 1, 56, 2, 57, 49, 28, 3, 61, 58, 42, 50, 38, 29, 17, 4, 62, 47, 59, 36, 45, 43, 51, 22, 53, 39, 33, 30, 24, 18, 12, 5, 63, 55, 48, 27, 60, 41, 37, 16, 46, 35, 44, 21, 52, 32, 23, 11, 54, 26, 40, 15, 34, 20, 31, 10, 25, 14, 19, 9, 13, 8, 7, 6]
def zP10 : List Int := [1, 10, 100, 1000, 10000, 100000, 1000000, 10000000, 100000000, 1000000000, 10000000000, 100000000000, 1000000000000, 10000000000000, 100000000000000, 1000000000000000, 10000000000000000, 100000000000000000, 1000000000000000000, 10000000000000000000]
/-- what the evaluator holds of them (the type's number is not looked at) -/
def tabs3 : List (Nat × List Value × TypeId) := [(3, zP10.map fun z => Value.int .u64 z, 0), (6, zB32.map fun z => Value.int .u8 z, 0), (7, zB64.map fun z => Value.int .u8 z, 0)]

theorem cells_map {P : Program} {W : World} {name : String} {k : IntKind} {zs : List Int} {g : Nat} (h : Lib.TabIs P W name k zs) (hg : P.globalNamed name = some g) : ∀ (i : Nat) (v : Value), (zs.map fun z => Value.int k z)[i]? = some v → Abs.constOk v = true ∧ W.cell? ⟨g, i, none⟩ = some v := by
  intro i v hv
  rw [List.getElem?_map, Option.map_eq_some_iff] at hv
  obtain ⟨z, hz, rfl⟩ := hv
  have hlt := (List.getElem?_eq_some_iff.1 hz).1
  refine ⟨rfl, ?_⟩
  rw [h.cell hg i hlt, List.getD_eq_getElem?_getD, hz]
  rfl
/-- .. and a variable whose number is not known -/
def tabs4 (m : Int) : List (Nat × List Value × TypeId) := (0, [.int .i64 m], 0) :: tabs3
theorem srel4 {W : World} {m : Int} (h0 : W.cell? ⟨0, 0, none⟩ = some (.int .i64 m)) (h1 : Lib.TabIs Tryz.prog W "math/bits.deBruijn32tab" .u8 zB32) (h2 : Lib.TabIs Tryz.prog W "math/bits.deBruijn64tab" .u8 zB64) (h3 : Lib.TabIs Tryz.prog W "internal/strconv.uint64pow10" .u64 zP10) : Abs.SRel Abs.phiNil (Abs.stTabs (tabs4 m)) W := by
  have g1 : Tryz.prog.globalNamed "math/bits.deBruijn32tab" = some 6 := by kernel_rfl
  have g2 : Tryz.prog.globalNamed "math/bits.deBruijn64tab" = some 7 := by kernel_rfl
  have g3 : Tryz.prog.globalNamed "internal/strconv.uint64pow10" = some 3 := by kernel_rfl
  refine Abs.srel_tabs (fun t ht => ?_) (fun t ht => ?_)
  · simp only [tabs4, tabs3, List.mem_cons, List.mem_nil_iff, or_false] at ht
    rcases ht with rfl | rfl | rfl | rfl
    · refine ⟨(by decide : 0 < 4096), fun i v hv => ?_⟩
      match i, hv with
      | 0, hv => cases hv; exact ⟨rfl, h0⟩
    · exact ⟨by decide, cells_map h3 g3⟩
    · exact ⟨by decide, cells_map h1 g1⟩
    · exact ⟨by decide, cells_map h2 g2⟩
  · simp only [tabs4, tabs3, List.mem_cons, List.mem_nil_iff, or_false] at ht
    rcases ht with rfl | rfl | rfl | rfl <;> exact ⟨_, rfl⟩
end Go.Proofs.YtihplijjkcdcjaaGreatDoor

/-
  What the row's list of ServerKnown says of three tables of Go's library, as the evaluator wants it.
-/
namespace Go.Proofs.YtihplijjkcdcjaaGreatDoor.serverKnown
open Go.RowKit

theorem tables {W : World} (hL : laidMetH Tryz.prog Rows.serverKnownRow.laid W) {m : Int} (hm : W.cell? ⟨0, 0, none⟩ = some (.int .i64 m)) : Abs.SRel Abs.phiNil (Abs.stTabs (tabs4 m)) W := by
  have h00 : laidMet Tryz.prog (("unicode/utf8.first", Rows.laid_unicode_utf8_first) :: ("unicode/utf8.acceptRanges", Rows.laid_unicode_utf8_acceptRanges) :: ("internal/strconv.uint64pow10", Lib.tabData .u64 zP10) :: ("math/bits.deBruijn32tab", Lib.tabData .u8 zB32) :: ("math/bits.deBruijn64tab", Lib.tabData .u8 zB64) :: Rows.serverKnownRow.laid.drop 5) W := hL
  have h2 := laidMet.tail (laidMet.tail h00)
  have h0 := laidMet.tail h2
  have h1 := laidMet.tail h0
  exact srel4 hm (Lib.tabIs_of_head (g := 6) (t := 215) (by kernel_rfl) (by kernel_rfl) Tryz.underlying215 Tryz.underlying5 (by kernel_rfl) (by kernel_rfl) h0)
    (Lib.tabIs_of_head (g := 7) (t := 312) (by kernel_rfl) (by kernel_rfl) Tryz.underlying312 Tryz.underlying5 (by kernel_rfl) (by kernel_rfl) h1)
    (Lib.tabIs_of_head (g := 3) (t := 611) (by kernel_rfl) (by kernel_rfl) Tryz.underlying611 Tryz.underlying43 (by kernel_rfl) (by kernel_rfl) h2)
end Go.Proofs.YtihplijjkcdcjaaGreatDoor.serverKnown

