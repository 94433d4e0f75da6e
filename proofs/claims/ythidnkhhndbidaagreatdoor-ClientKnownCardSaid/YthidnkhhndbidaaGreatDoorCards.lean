/-
  DERIVED. GIVEN WITH THE SEED: THE CARDS: each row of YthidnkhhndbidaaGreatDoorRows.lean that lists a variable, with what it lists TIED to the program's text (the seventh form; the later family's looks); each row that meets fmt, with fmt's text TOLD by the authors' own Lean function (tested against real Go, not proved from fmt's source: count such statements apart). THE CARD IS WHAT COUNTS. Prove the row's statement (the work); the ties are given (YthidnkhhndbidaaGreatDoorTie.lean); close each card by the builder's one call (the guide's Derived/Test/ToyasCard.lean, 'card_holds'). Laid BY PROGRAM, IN A SANDBOX (cutbox-door.mjs). By AI agents, Wed Nov 11 2026. No macro, syntax, notation, axiom, sorry.
-/
import Derived.Test.YthidnkhhndbidaaGreatDoorRows
import GoSem.ClaimSeven
namespace Go.Proofs.YthidnkhhndbidaaGreatDoor
namespace Rows

/-- THE TIED CARD OF 'rolodexlaw22.ClientKnown'. -/
def clientKnownCard : Claim7 := { stood := { row := clientKnownRow, standIns := [], harness := (true, "6af31bbb53bf5ce057e8c9f26db9560d9dfe8087882ab6fcf68d331b4d2d5da3"), looks := true }, kinds := [], alts := [], laidByText := true, laidKinds := [.data, .data, .data, .data, .sentinel, .sentinel, .pinned], laidTests := true, laidLooks := .later }
def ClientKnownCardSaid : Prop := Claim7.holds Tryz.pinned (.plain (OpenSpec.ofChange clientKnownSpec)) clientKnownCard

/-- THE SECOND FORM's CARD OF 'rolodexlaw22.ClientKnown'. -/
def clientKnownUptoCard : Claim7 := { stood := { row := clientKnownUptoRow, standIns := [], harness := (true, "6af31bbb53bf5ce057e8c9f26db9560d9dfe8087882ab6fcf68d331b4d2d5da3"), looks := true }, kinds := [], alts := [], laidByText := true, laidKinds := [.data, .data, .data, .data, .sentinel, .sentinel, .pinned], laidTests := true, laidLooks := .later }
def ClientKnownUptoCardSaid : Prop := Claim7.holds Tryz.pinned (.plain (OpenSpec.upto clientKnownSpec)) clientKnownUptoCard
end Rows
end Go.Proofs.YthidnkhhndbidaaGreatDoor
