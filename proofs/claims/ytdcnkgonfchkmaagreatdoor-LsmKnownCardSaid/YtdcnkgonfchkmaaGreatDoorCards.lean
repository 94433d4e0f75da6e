/-
  DERIVED. GIVEN WITH THE SEED: THE CARDS: each row of YtdcnkgonfchkmaaGreatDoorRows.lean that lists a variable, with what it lists TIED to the program's text (the seventh form; the later family's looks); each row that meets fmt, with fmt's text TOLD by the authors' own Lean function (tested against real Go, not proved from fmt's source: count such statements apart). THE CARD IS WHAT COUNTS. Prove the row's statement (the work); the ties are given (YtdcnkgonfchkmaaGreatDoorTie.lean); close each card by the builder's one call (the guide's Derived/Test/ToyasCard.lean, 'card_holds'). Laid BY PROGRAM, IN A SANDBOX (cutbox-door.mjs). By AI agents, Wed Nov 11 2026. No macro, syntax, notation, axiom, sorry.
-/
import Derived.Test.YtdcnkgonfchkmaaGreatDoorRows
import GoSem.ClaimSeven
namespace Go.Proofs.YtdcnkgonfchkmaaGreatDoor
namespace Rows

/-- THE TIED CARD OF 'rolodexlaw12.LsmKnown'. -/
def lsmKnownCard : Claim7 := { stood := { row := lsmKnownRow, standIns := [], harness := (true, "914d70fd84079fe7bc5e2d612f9ae78dfa3907ceeccd32f21d43e14a2d59131b"), looks := true }, kinds := [], alts := [], laidByText := true, laidKinds := [.data, .data, .data, .data, .sentinel, .sentinel, .pinned], laidTests := true, laidLooks := .later }
def LsmKnownCardSaid : Prop := Claim7.holds Tryz.pinned (.plain (OpenSpec.ofChange lsmKnownSpec)) lsmKnownCard

/-- THE SECOND FORM's CARD OF 'rolodexlaw12.LsmKnown'. -/
def lsmKnownUptoCard : Claim7 := { stood := { row := lsmKnownUptoRow, standIns := [], harness := (true, "914d70fd84079fe7bc5e2d612f9ae78dfa3907ceeccd32f21d43e14a2d59131b"), looks := true }, kinds := [], alts := [], laidByText := true, laidKinds := [.data, .data, .data, .data, .sentinel, .sentinel, .pinned], laidTests := true, laidLooks := .later }
def LsmKnownUptoCardSaid : Prop := Claim7.holds Tryz.pinned (.plain (OpenSpec.upto lsmKnownSpec)) lsmKnownUptoCard
end Rows
end Go.Proofs.YtdcnkgonfchkmaaGreatDoor
