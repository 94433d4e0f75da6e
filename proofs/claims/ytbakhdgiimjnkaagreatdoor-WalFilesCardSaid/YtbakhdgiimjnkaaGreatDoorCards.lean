/-
  DERIVED. GIVEN WITH THE SEED: THE CARDS: each row of YtbakhdgiimjnkaaGreatDoorRows.lean that lists a variable, with what it lists TIED to the program's text (the seventh form; the later family's looks); each row that meets fmt, with fmt's text TOLD by the authors' own Lean function (tested against real Go, not proved from fmt's source: count such statements apart). THE CARD IS WHAT COUNTS. Prove the row's statement (the work); the ties are given (YtbakhdgiimjnkaaGreatDoorTie.lean); close each card by the builder's one call (the guide's Derived/Test/ToyasCard.lean, 'card_holds'). Laid BY PROGRAM, IN A SANDBOX (cutbox-door.mjs). By AI agents, Wed Nov 11 2026. No macro, syntax, notation, axiom, sorry.
-/
import Derived.Test.YtbakhdgiimjnkaaGreatDoorRows
import GoSem.ClaimSeven
namespace Go.Proofs.YtbakhdgiimjnkaaGreatDoor
namespace Rows

/-- THE TIED CARD OF 'rolodexlaw11.ManifestKnown'. -/
def manifestKnownCard : Claim7 := { stood := { row := manifestKnownRow, standIns := [], harness := (true, "ccbd7277381ff10be432ba4a1f448864a129a8a2639374ee8564997d35420380"), looks := true }, kinds := [], alts := [], laidByText := true, laidKinds := [.data, .data, .data, .data, .pinned], laidTests := true, laidLooks := .later }
def ManifestKnownCardSaid : Prop := Claim7.holds Tryz.pinned (.plain (OpenSpec.ofChange manifestKnownSpec)) manifestKnownCard

/-- THE TIED CARD OF 'rolodexlaw11.ManifestBytes'. -/
def manifestBytesCard : Claim7 := { stood := { row := manifestBytesRow, standIns := [], harness := (true, "ccbd7277381ff10be432ba4a1f448864a129a8a2639374ee8564997d35420380"), looks := true }, kinds := [], alts := [], laidByText := true, laidKinds := [.data, .data, .data, .data, .pinned], laidTests := true, laidLooks := .later }
def ManifestBytesCardSaid : Prop := Claim7.holds Tryz.pinned (.plain (OpenSpec.ofChange manifestBytesSpec)) manifestBytesCard

/-- THE TIED CARD OF 'rolodexlaw11.ManifestCleans'. -/
def manifestCleansCard : Claim7 := { stood := { row := manifestCleansRow, standIns := [], harness := (true, "ccbd7277381ff10be432ba4a1f448864a129a8a2639374ee8564997d35420380"), looks := true }, kinds := [], alts := [], laidByText := true, laidKinds := [.data, .data, .data, .data, .pinned], laidTests := true, laidLooks := .later }
def ManifestCleansCardSaid : Prop := Claim7.holds Tryz.pinned (.plain (OpenSpec.ofChange manifestCleansSpec)) manifestCleansCard

/-- THE TIED CARD OF 'rolodexlaw11.ManifestLast'. -/
def manifestLastCard : Claim7 := { stood := { row := manifestLastRow, standIns := [], harness := (true, "ccbd7277381ff10be432ba4a1f448864a129a8a2639374ee8564997d35420380"), looks := true }, kinds := [], alts := [], laidByText := true, laidKinds := [.data, .data, .data, .data, .pinned], laidTests := true, laidLooks := .later }
def ManifestLastCardSaid : Prop := Claim7.holds Tryz.pinned (.plain (OpenSpec.ofChange manifestLastSpec)) manifestLastCard

/-- THE TIED CARD OF 'rolodexlaw11.ManifestSwitches'. -/
def manifestSwitchesCard : Claim7 := { stood := { row := manifestSwitchesRow, standIns := [], harness := (true, "ccbd7277381ff10be432ba4a1f448864a129a8a2639374ee8564997d35420380"), looks := true }, kinds := [], alts := [], laidByText := true, laidKinds := [.data, .data, .data, .data, .pinned], laidTests := true, laidLooks := .later }
def ManifestSwitchesCardSaid : Prop := Claim7.holds Tryz.pinned (.plain (OpenSpec.ofChange manifestSwitchesSpec)) manifestSwitchesCard

/-- THE TIED CARD OF 'rolodexlaw7.WalKnown'. -/
def walKnownCard : Claim7 := { stood := { row := walKnownRow, standIns := [], harness := (true, "ccbd7277381ff10be432ba4a1f448864a129a8a2639374ee8564997d35420380"), looks := true }, kinds := [], alts := [], laidByText := true, laidKinds := [.data, .data, .data, .data, .sentinel, .sentinel, .pinned], laidTests := true, laidLooks := .later }
def WalKnownCardSaid : Prop := Claim7.holds Tryz.pinned (.plain (OpenSpec.ofChange walKnownSpec)) walKnownCard

/-- THE TIED CARD OF 'rolodexlaw7.WalFiles'. -/
def walFilesCard : Claim7 := { stood := { row := walFilesRow, standIns := [], harness := (true, "ccbd7277381ff10be432ba4a1f448864a129a8a2639374ee8564997d35420380"), looks := true }, kinds := [], alts := [], laidByText := true, laidKinds := [.data, .data, .data, .data, .sentinel, .sentinel, .pinned], laidTests := true, laidLooks := .later }
def WalFilesCardSaid : Prop := Claim7.holds Tryz.pinned (.plain (OpenSpec.ofChange walFilesSpec)) walFilesCard

/-- THE TIED CARD OF 'rolodexlaw7.WalCorrupt'. -/
def walCorruptCard : Claim7 := { stood := { row := walCorruptRow, standIns := [], harness := (true, "ccbd7277381ff10be432ba4a1f448864a129a8a2639374ee8564997d35420380"), looks := true }, kinds := [], alts := [], laidByText := true, laidKinds := [.data, .data, .data, .data, .sentinel, .sentinel, .pinned], laidTests := true, laidLooks := .later }
def WalCorruptCardSaid : Prop := Claim7.holds Tryz.pinned (.plain (OpenSpec.ofChange walCorruptSpec)) walCorruptCard

/-- THE TIED CARD OF 'rolodexlaw7.WalCuts'. -/
def walCutsCard : Claim7 := { stood := { row := walCutsRow, standIns := [], harness := (true, "ccbd7277381ff10be432ba4a1f448864a129a8a2639374ee8564997d35420380"), looks := true }, kinds := [], alts := [], laidByText := true, laidKinds := [.data, .data, .data, .data, .sentinel, .sentinel, .pinned], laidTests := true, laidLooks := .later }
def WalCutsCardSaid : Prop := Claim7.holds Tryz.pinned (.plain (OpenSpec.ofChange walCutsSpec)) walCutsCard

/-- THE TIED CARD OF 'rolodexlaw7.WalTwo'. -/
def walTwoCard : Claim7 := { stood := { row := walTwoRow, standIns := [], harness := (true, "ccbd7277381ff10be432ba4a1f448864a129a8a2639374ee8564997d35420380"), looks := true }, kinds := [], alts := [], laidByText := true, laidKinds := [.data, .data, .data, .data, .sentinel, .sentinel, .pinned], laidTests := true, laidLooks := .later }
def WalTwoCardSaid : Prop := Claim7.holds Tryz.pinned (.plain (OpenSpec.ofChange walTwoSpec)) walTwoCard

/-- THE TIED CARD OF 'rolodexlaw7.WalAgain'. -/
def walAgainCard : Claim7 := { stood := { row := walAgainRow, standIns := [], harness := (true, "ccbd7277381ff10be432ba4a1f448864a129a8a2639374ee8564997d35420380"), looks := true }, kinds := [], alts := [], laidByText := true, laidKinds := [.data, .data, .data, .data, .sentinel, .sentinel, .pinned], laidTests := true, laidLooks := .later }
def WalAgainCardSaid : Prop := Claim7.holds Tryz.pinned (.plain (OpenSpec.ofChange walAgainSpec)) walAgainCard

/-- THE TIED CARD OF 'rolodexlaw7.WalPlays'. -/
def walPlaysCard : Claim7 := { stood := { row := walPlaysRow, standIns := [], harness := (true, "ccbd7277381ff10be432ba4a1f448864a129a8a2639374ee8564997d35420380"), looks := true }, kinds := [], alts := [], laidByText := true, laidKinds := [.data, .data, .data, .data, .sentinel, .sentinel, .pinned], laidTests := true, laidLooks := .later }
def WalPlaysCardSaid : Prop := Claim7.holds Tryz.pinned (.plain (OpenSpec.ofChange walPlaysSpec)) walPlaysCard

/-- THE SECOND FORM's CARD OF 'rolodexlaw11.ManifestKnown'. -/
def manifestKnownUptoCard : Claim7 := { stood := { row := manifestKnownUptoRow, standIns := [], harness := (true, "ccbd7277381ff10be432ba4a1f448864a129a8a2639374ee8564997d35420380"), looks := true }, kinds := [], alts := [], laidByText := true, laidKinds := [.data, .data, .data, .data, .pinned], laidTests := true, laidLooks := .later }
def ManifestKnownUptoCardSaid : Prop := Claim7.holds Tryz.pinned (.plain (OpenSpec.upto manifestKnownSpec)) manifestKnownUptoCard

/-- THE SECOND FORM's CARD OF 'rolodexlaw11.ManifestBytes'. -/
def manifestBytesUptoCard : Claim7 := { stood := { row := manifestBytesUptoRow, standIns := [], harness := (true, "ccbd7277381ff10be432ba4a1f448864a129a8a2639374ee8564997d35420380"), looks := true }, kinds := [], alts := [], laidByText := true, laidKinds := [.data, .data, .data, .data, .pinned], laidTests := true, laidLooks := .later }
def ManifestBytesUptoCardSaid : Prop := Claim7.holds Tryz.pinned (.plain (OpenSpec.upto manifestBytesSpec)) manifestBytesUptoCard

/-- THE SECOND FORM's CARD OF 'rolodexlaw11.ManifestCleans'. -/
def manifestCleansUptoCard : Claim7 := { stood := { row := manifestCleansUptoRow, standIns := [], harness := (true, "ccbd7277381ff10be432ba4a1f448864a129a8a2639374ee8564997d35420380"), looks := true }, kinds := [], alts := [], laidByText := true, laidKinds := [.data, .data, .data, .data, .pinned], laidTests := true, laidLooks := .later }
def ManifestCleansUptoCardSaid : Prop := Claim7.holds Tryz.pinned (.plain (OpenSpec.upto manifestCleansSpec)) manifestCleansUptoCard

/-- THE SECOND FORM's CARD OF 'rolodexlaw11.ManifestLast'. -/
def manifestLastUptoCard : Claim7 := { stood := { row := manifestLastUptoRow, standIns := [], harness := (true, "ccbd7277381ff10be432ba4a1f448864a129a8a2639374ee8564997d35420380"), looks := true }, kinds := [], alts := [], laidByText := true, laidKinds := [.data, .data, .data, .data, .pinned], laidTests := true, laidLooks := .later }
def ManifestLastUptoCardSaid : Prop := Claim7.holds Tryz.pinned (.plain (OpenSpec.upto manifestLastSpec)) manifestLastUptoCard

/-- THE SECOND FORM's CARD OF 'rolodexlaw11.ManifestSwitches'. -/
def manifestSwitchesUptoCard : Claim7 := { stood := { row := manifestSwitchesUptoRow, standIns := [], harness := (true, "ccbd7277381ff10be432ba4a1f448864a129a8a2639374ee8564997d35420380"), looks := true }, kinds := [], alts := [], laidByText := true, laidKinds := [.data, .data, .data, .data, .pinned], laidTests := true, laidLooks := .later }
def ManifestSwitchesUptoCardSaid : Prop := Claim7.holds Tryz.pinned (.plain (OpenSpec.upto manifestSwitchesSpec)) manifestSwitchesUptoCard

/-- THE SECOND FORM's CARD OF 'rolodexlaw7.WalKnown'. -/
def walKnownUptoCard : Claim7 := { stood := { row := walKnownUptoRow, standIns := [], harness := (true, "ccbd7277381ff10be432ba4a1f448864a129a8a2639374ee8564997d35420380"), looks := true }, kinds := [], alts := [], laidByText := true, laidKinds := [.data, .data, .data, .data, .sentinel, .sentinel, .pinned], laidTests := true, laidLooks := .later }
def WalKnownUptoCardSaid : Prop := Claim7.holds Tryz.pinned (.plain (OpenSpec.upto walKnownSpec)) walKnownUptoCard

/-- THE SECOND FORM's CARD OF 'rolodexlaw7.WalFiles'. -/
def walFilesUptoCard : Claim7 := { stood := { row := walFilesUptoRow, standIns := [], harness := (true, "ccbd7277381ff10be432ba4a1f448864a129a8a2639374ee8564997d35420380"), looks := true }, kinds := [], alts := [], laidByText := true, laidKinds := [.data, .data, .data, .data, .sentinel, .sentinel, .pinned], laidTests := true, laidLooks := .later }
def WalFilesUptoCardSaid : Prop := Claim7.holds Tryz.pinned (.plain (OpenSpec.upto walFilesSpec)) walFilesUptoCard

/-- THE SECOND FORM's CARD OF 'rolodexlaw7.WalCorrupt'. -/
def walCorruptUptoCard : Claim7 := { stood := { row := walCorruptUptoRow, standIns := [], harness := (true, "ccbd7277381ff10be432ba4a1f448864a129a8a2639374ee8564997d35420380"), looks := true }, kinds := [], alts := [], laidByText := true, laidKinds := [.data, .data, .data, .data, .sentinel, .sentinel, .pinned], laidTests := true, laidLooks := .later }
def WalCorruptUptoCardSaid : Prop := Claim7.holds Tryz.pinned (.plain (OpenSpec.upto walCorruptSpec)) walCorruptUptoCard

/-- THE SECOND FORM's CARD OF 'rolodexlaw7.WalCuts'. -/
def walCutsUptoCard : Claim7 := { stood := { row := walCutsUptoRow, standIns := [], harness := (true, "ccbd7277381ff10be432ba4a1f448864a129a8a2639374ee8564997d35420380"), looks := true }, kinds := [], alts := [], laidByText := true, laidKinds := [.data, .data, .data, .data, .sentinel, .sentinel, .pinned], laidTests := true, laidLooks := .later }
def WalCutsUptoCardSaid : Prop := Claim7.holds Tryz.pinned (.plain (OpenSpec.upto walCutsSpec)) walCutsUptoCard

/-- THE SECOND FORM's CARD OF 'rolodexlaw7.WalTwo'. -/
def walTwoUptoCard : Claim7 := { stood := { row := walTwoUptoRow, standIns := [], harness := (true, "ccbd7277381ff10be432ba4a1f448864a129a8a2639374ee8564997d35420380"), looks := true }, kinds := [], alts := [], laidByText := true, laidKinds := [.data, .data, .data, .data, .sentinel, .sentinel, .pinned], laidTests := true, laidLooks := .later }
def WalTwoUptoCardSaid : Prop := Claim7.holds Tryz.pinned (.plain (OpenSpec.upto walTwoSpec)) walTwoUptoCard

/-- THE SECOND FORM's CARD OF 'rolodexlaw7.WalAgain'. -/
def walAgainUptoCard : Claim7 := { stood := { row := walAgainUptoRow, standIns := [], harness := (true, "ccbd7277381ff10be432ba4a1f448864a129a8a2639374ee8564997d35420380"), looks := true }, kinds := [], alts := [], laidByText := true, laidKinds := [.data, .data, .data, .data, .sentinel, .sentinel, .pinned], laidTests := true, laidLooks := .later }
def WalAgainUptoCardSaid : Prop := Claim7.holds Tryz.pinned (.plain (OpenSpec.upto walAgainSpec)) walAgainUptoCard

/-- THE SECOND FORM's CARD OF 'rolodexlaw7.WalPlays'. -/
def walPlaysUptoCard : Claim7 := { stood := { row := walPlaysUptoRow, standIns := [], harness := (true, "ccbd7277381ff10be432ba4a1f448864a129a8a2639374ee8564997d35420380"), looks := true }, kinds := [], alts := [], laidByText := true, laidKinds := [.data, .data, .data, .data, .sentinel, .sentinel, .pinned], laidTests := true, laidLooks := .later }
def WalPlaysUptoCardSaid : Prop := Claim7.holds Tryz.pinned (.plain (OpenSpec.upto walPlaysSpec)) walPlaysUptoCard
end Rows
end Go.Proofs.YtbakhdgiimjnkaaGreatDoor
