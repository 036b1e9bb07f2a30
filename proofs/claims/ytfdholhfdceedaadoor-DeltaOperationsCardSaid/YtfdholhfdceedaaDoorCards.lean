/-
  DERIVED. GIVEN WITH THE SEED: THE CARDS: each row of YtfdholhfdceedaaDoorRows.lean that lists a variable, with what it lists TIED to the program's text (the seventh form; the later family's looks); each row that meets fmt, with fmt's text TOLD by the authors' own Lean function (tested against real Go, not proved from fmt's source: count such statements apart). THE CARD IS WHAT COUNTS. Prove the row's statement (the work); the ties are given (YtfdholhfdceedaaDoorTie.lean); close each card by the builder's one call (the guide's Derived/Test/ToyasCard.lean, 'card_holds'). Laid BY PROGRAM, IN A SANDBOX (cutbox-door.mjs). By AI agents, Wed Nov 11 2026. No macro, syntax, notation, axiom, sorry.
-/
import Derived.Test.YtfdholhfdceedaaDoorRows
import GoSem.ClaimSeven
namespace Go.Proofs.YtfdholhfdceedaaDoor
namespace Rows

/-- THE TIED CARD OF 'copydesklaw19.DeltaDiffMatchesReference'. -/
def deltaDiffMatchesReferenceCard : Claim7 := { stood := { row := deltaDiffMatchesReferenceRow, standIns := [], harness := (true, "2a880f4f3d1f40746a5ad8c9e4ac3dd91a4f85b2c239f37bb38b56419c636fe4"), looks := true }, kinds := [], alts := [], laidByText := true, laidKinds := [.data, .sentinel, .sentinel], laidTests := true, laidLooks := .later }
def DeltaDiffMatchesReferenceCardSaid : Prop := Claim7.holds Tryd.pinned (.plain (OpenSpec.ofChange deltaDiffMatchesReferenceSpec)) deltaDiffMatchesReferenceCard

/-- THE TIED CARD OF 'copydesklaw19.DeltaOperations'. -/
def deltaOperationsCard : Claim7 := { stood := { row := deltaOperationsRow, standIns := [], harness := (true, "2a880f4f3d1f40746a5ad8c9e4ac3dd91a4f85b2c239f37bb38b56419c636fe4"), looks := true }, kinds := [], alts := [], laidByText := true, laidKinds := [.data, .sentinel, .sentinel], laidTests := true, laidLooks := .later }
def DeltaOperationsCardSaid : Prop := Claim7.holds Tryd.pinned (.plain (OpenSpec.ofChange deltaOperationsSpec)) deltaOperationsCard

/-- THE TIED CARD OF 'copydesklaw19.DeltaRoundTrip'. -/
def deltaRoundTripCard : Claim7 := { stood := { row := deltaRoundTripRow, standIns := [], harness := (true, "2a880f4f3d1f40746a5ad8c9e4ac3dd91a4f85b2c239f37bb38b56419c636fe4"), looks := true }, kinds := [], alts := [], laidByText := true, laidKinds := [.data, .sentinel, .sentinel], laidTests := true, laidLooks := .later }
def DeltaRoundTripCardSaid : Prop := Claim7.holds Tryd.pinned (.plain (OpenSpec.ofChange deltaRoundTripSpec)) deltaRoundTripCard

/-- THE TIED CARD OF 'copydesklaw19.DeltaChain'. -/
def deltaChainCard : Claim7 := { stood := { row := deltaChainRow, standIns := [], harness := (true, "2a880f4f3d1f40746a5ad8c9e4ac3dd91a4f85b2c239f37bb38b56419c636fe4"), looks := true }, kinds := [], alts := [], laidByText := true, laidKinds := [.data, .sentinel, .sentinel], laidTests := true, laidLooks := .later }
def DeltaChainCardSaid : Prop := Claim7.holds Tryd.pinned (.plain (OpenSpec.ofChange deltaChainSpec)) deltaChainCard

/-- THE TIED CARD OF 'copydesklaw19.DeltaOtherBase'. -/
def deltaOtherBaseCard : Claim7 := { stood := { row := deltaOtherBaseRow, standIns := [], harness := (true, "2a880f4f3d1f40746a5ad8c9e4ac3dd91a4f85b2c239f37bb38b56419c636fe4"), looks := true }, kinds := [], alts := [], laidByText := true, laidKinds := [.data, .sentinel, .sentinel], laidTests := true, laidLooks := .later }
def DeltaOtherBaseCardSaid : Prop := Claim7.holds Tryd.pinned (.plain (OpenSpec.ofChange deltaOtherBaseSpec)) deltaOtherBaseCard

/-- THE TIED CARD OF 'copydesklaw19.DeltaSize'. -/
def deltaSizeCard : Claim7 := { stood := { row := deltaSizeRow, standIns := [], harness := (true, "2a880f4f3d1f40746a5ad8c9e4ac3dd91a4f85b2c239f37bb38b56419c636fe4"), looks := true }, kinds := [], alts := [], laidByText := true, laidKinds := [.data, .sentinel, .sentinel], laidTests := true, laidLooks := .later }
def DeltaSizeCardSaid : Prop := Claim7.holds Tryd.pinned (.plain (OpenSpec.ofChange deltaSizeSpec)) deltaSizeCard

/-- THE TIED CARD OF 'copydesklaw19.DeltaParts'. -/
def deltaPartsCard : Claim7 := { stood := { row := deltaPartsRow, standIns := [], harness := (true, "2a880f4f3d1f40746a5ad8c9e4ac3dd91a4f85b2c239f37bb38b56419c636fe4"), looks := true }, kinds := [], alts := [], laidByText := true, laidKinds := [.data, .sentinel, .sentinel], laidTests := true, laidLooks := .later }
def DeltaPartsCardSaid : Prop := Claim7.holds Tryd.pinned (.plain (OpenSpec.ofChange deltaPartsSpec)) deltaPartsCard

/-- THE SECOND FORM's CARD OF 'copydesklaw19.DeltaDiffMatchesReference'. -/
def deltaDiffMatchesReferenceUptoCard : Claim7 := { stood := { row := deltaDiffMatchesReferenceUptoRow, standIns := [], harness := (true, "2a880f4f3d1f40746a5ad8c9e4ac3dd91a4f85b2c239f37bb38b56419c636fe4"), looks := true }, kinds := [], alts := [], laidByText := true, laidKinds := [.data, .sentinel, .sentinel], laidTests := true, laidLooks := .later }
def DeltaDiffMatchesReferenceUptoCardSaid : Prop := Claim7.holds Tryd.pinned (.plain (OpenSpec.upto deltaDiffMatchesReferenceSpec)) deltaDiffMatchesReferenceUptoCard

/-- THE SECOND FORM's CARD OF 'copydesklaw19.DeltaOperations'. -/
def deltaOperationsUptoCard : Claim7 := { stood := { row := deltaOperationsUptoRow, standIns := [], harness := (true, "2a880f4f3d1f40746a5ad8c9e4ac3dd91a4f85b2c239f37bb38b56419c636fe4"), looks := true }, kinds := [], alts := [], laidByText := true, laidKinds := [.data, .sentinel, .sentinel], laidTests := true, laidLooks := .later }
def DeltaOperationsUptoCardSaid : Prop := Claim7.holds Tryd.pinned (.plain (OpenSpec.upto deltaOperationsSpec)) deltaOperationsUptoCard

/-- THE SECOND FORM's CARD OF 'copydesklaw19.DeltaRoundTrip'. -/
def deltaRoundTripUptoCard : Claim7 := { stood := { row := deltaRoundTripUptoRow, standIns := [], harness := (true, "2a880f4f3d1f40746a5ad8c9e4ac3dd91a4f85b2c239f37bb38b56419c636fe4"), looks := true }, kinds := [], alts := [], laidByText := true, laidKinds := [.data, .sentinel, .sentinel], laidTests := true, laidLooks := .later }
def DeltaRoundTripUptoCardSaid : Prop := Claim7.holds Tryd.pinned (.plain (OpenSpec.upto deltaRoundTripSpec)) deltaRoundTripUptoCard

/-- THE SECOND FORM's CARD OF 'copydesklaw19.DeltaChain'. -/
def deltaChainUptoCard : Claim7 := { stood := { row := deltaChainUptoRow, standIns := [], harness := (true, "2a880f4f3d1f40746a5ad8c9e4ac3dd91a4f85b2c239f37bb38b56419c636fe4"), looks := true }, kinds := [], alts := [], laidByText := true, laidKinds := [.data, .sentinel, .sentinel], laidTests := true, laidLooks := .later }
def DeltaChainUptoCardSaid : Prop := Claim7.holds Tryd.pinned (.plain (OpenSpec.upto deltaChainSpec)) deltaChainUptoCard

/-- THE SECOND FORM's CARD OF 'copydesklaw19.DeltaOtherBase'. -/
def deltaOtherBaseUptoCard : Claim7 := { stood := { row := deltaOtherBaseUptoRow, standIns := [], harness := (true, "2a880f4f3d1f40746a5ad8c9e4ac3dd91a4f85b2c239f37bb38b56419c636fe4"), looks := true }, kinds := [], alts := [], laidByText := true, laidKinds := [.data, .sentinel, .sentinel], laidTests := true, laidLooks := .later }
def DeltaOtherBaseUptoCardSaid : Prop := Claim7.holds Tryd.pinned (.plain (OpenSpec.upto deltaOtherBaseSpec)) deltaOtherBaseUptoCard

/-- THE SECOND FORM's CARD OF 'copydesklaw19.DeltaSize'. -/
def deltaSizeUptoCard : Claim7 := { stood := { row := deltaSizeUptoRow, standIns := [], harness := (true, "2a880f4f3d1f40746a5ad8c9e4ac3dd91a4f85b2c239f37bb38b56419c636fe4"), looks := true }, kinds := [], alts := [], laidByText := true, laidKinds := [.data, .sentinel, .sentinel], laidTests := true, laidLooks := .later }
def DeltaSizeUptoCardSaid : Prop := Claim7.holds Tryd.pinned (.plain (OpenSpec.upto deltaSizeSpec)) deltaSizeUptoCard

/-- THE SECOND FORM's CARD OF 'copydesklaw19.DeltaParts'. -/
def deltaPartsUptoCard : Claim7 := { stood := { row := deltaPartsUptoRow, standIns := [], harness := (true, "2a880f4f3d1f40746a5ad8c9e4ac3dd91a4f85b2c239f37bb38b56419c636fe4"), looks := true }, kinds := [], alts := [], laidByText := true, laidKinds := [.data, .sentinel, .sentinel], laidTests := true, laidLooks := .later }
def DeltaPartsUptoCardSaid : Prop := Claim7.holds Tryd.pinned (.plain (OpenSpec.upto deltaPartsSpec)) deltaPartsUptoCard
end Rows
end Go.Proofs.YtfdholhfdceedaaDoor
