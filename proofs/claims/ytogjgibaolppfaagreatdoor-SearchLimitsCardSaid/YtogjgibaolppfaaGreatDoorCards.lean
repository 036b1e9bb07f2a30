/-
  DERIVED. GIVEN WITH THE SEED: THE CARDS: each row of YtogjgibaolppfaaGreatDoorRows.lean that lists a variable, with what it lists TIED to the program's text (the seventh form; the later family's looks); each row that meets fmt, with fmt's text TOLD by the authors' own Lean function (tested against real Go, not proved from fmt's source: count such statements apart). THE CARD IS WHAT COUNTS. Prove the row's statement (the work); the ties are given (YtogjgibaolppfaaGreatDoorTie.lean); close each card by the builder's one call (the guide's Derived/Test/ToyasCard.lean, 'card_holds'). Laid BY PROGRAM, IN A SANDBOX (cutbox-door.mjs). By AI agents, Wed Nov 11 2026. No macro, syntax, notation, axiom, sorry.
-/
import Derived.Test.YtogjgibaolppfaaGreatDoorRows
import GoSem.ClaimSeven
namespace Go.Proofs.YtogjgibaolppfaaGreatDoor
namespace Rows

/-- THE TIED CARD OF 'copydesklaw18.SearchMatchesReference'. -/
def searchMatchesReferenceCard : Claim7 := { stood := { row := searchMatchesReferenceRow, standIns := [], harness := (true, "b5e0ecbf1578279b925c83acaca51e95439a67509c5bcc8daf1dd3791d143409"), looks := false }, kinds := [], alts := [], laidByText := true, laidKinds := [.data, .pinned, .pinned], laidTests := true, laidLooks := .later }
def SearchMatchesReferenceCardSaid : Prop := Claim7.holds Tryz.pinned (.plain (OpenSpec.ofChange searchMatchesReferenceSpec)) searchMatchesReferenceCard

/-- THE TIED CARD OF 'copydesklaw18.SearchRunMatchesReference'. -/
def searchRunMatchesReferenceCard : Claim7 := { stood := { row := searchRunMatchesReferenceRow, standIns := [], harness := (true, "b5e0ecbf1578279b925c83acaca51e95439a67509c5bcc8daf1dd3791d143409"), looks := false }, kinds := [], alts := [], laidByText := true, laidKinds := [.data, .pinned, .pinned], laidTests := true, laidLooks := .later }
def SearchRunMatchesReferenceCardSaid : Prop := Claim7.holds Tryz.pinned (.plain (OpenSpec.ofChange searchRunMatchesReferenceSpec)) searchRunMatchesReferenceCard

/-- THE TIED CARD OF 'copydesklaw18.SearchRoundTrip'. -/
def searchRoundTripCard : Claim7 := { stood := { row := searchRoundTripRow, standIns := [], harness := (true, "b5e0ecbf1578279b925c83acaca51e95439a67509c5bcc8daf1dd3791d143409"), looks := false }, kinds := [], alts := [], laidByText := true, laidKinds := [.data, .pinned, .pinned], laidTests := true, laidLooks := .later }
def SearchRoundTripCardSaid : Prop := Claim7.holds Tryz.pinned (.plain (OpenSpec.ofChange searchRoundTripSpec)) searchRoundTripCard

/-- THE TIED CARD OF 'copydesklaw18.SearchPartition'. -/
def searchPartitionCard : Claim7 := { stood := { row := searchPartitionRow, standIns := [], harness := (true, "b5e0ecbf1578279b925c83acaca51e95439a67509c5bcc8daf1dd3791d143409"), looks := false }, kinds := [], alts := [], laidByText := true, laidKinds := [.data, .pinned, .pinned], laidTests := true, laidLooks := .later }
def SearchPartitionCardSaid : Prop := Claim7.holds Tryz.pinned (.plain (OpenSpec.ofChange searchPartitionSpec)) searchPartitionCard

/-- THE TIED CARD OF 'copydesklaw18.SearchOrder'. -/
def searchOrderCard : Claim7 := { stood := { row := searchOrderRow, standIns := [], harness := (true, "b5e0ecbf1578279b925c83acaca51e95439a67509c5bcc8daf1dd3791d143409"), looks := false }, kinds := [], alts := [], laidByText := true, laidKinds := [.data, .pinned, .pinned], laidTests := true, laidLooks := .later }
def SearchOrderCardSaid : Prop := Claim7.holds Tryz.pinned (.plain (OpenSpec.ofChange searchOrderSpec)) searchOrderCard

/-- THE TIED CARD OF 'copydesklaw18.SearchTop'. -/
def searchTopCard : Claim7 := { stood := { row := searchTopRow, standIns := [], harness := (true, "b5e0ecbf1578279b925c83acaca51e95439a67509c5bcc8daf1dd3791d143409"), looks := false }, kinds := [], alts := [], laidByText := true, laidKinds := [.data, .pinned, .pinned], laidTests := true, laidLooks := .later }
def SearchTopCardSaid : Prop := Claim7.holds Tryz.pinned (.plain (OpenSpec.ofChange searchTopSpec)) searchTopCard

/-- THE TIED CARD OF 'copydesklaw18.SearchIndependent'. -/
def searchIndependentCard : Claim7 := { stood := { row := searchIndependentRow, standIns := [], harness := (true, "b5e0ecbf1578279b925c83acaca51e95439a67509c5bcc8daf1dd3791d143409"), looks := false }, kinds := [], alts := [], laidByText := true, laidKinds := [.data, .pinned, .pinned], laidTests := true, laidLooks := .later }
def SearchIndependentCardSaid : Prop := Claim7.holds Tryz.pinned (.plain (OpenSpec.ofChange searchIndependentSpec)) searchIndependentCard

/-- THE TIED CARD OF 'copydesklaw18.SearchSuggests'. -/
def searchSuggestsCard : Claim7 := { stood := { row := searchSuggestsRow, standIns := [], harness := (true, "b5e0ecbf1578279b925c83acaca51e95439a67509c5bcc8daf1dd3791d143409"), looks := false }, kinds := [], alts := [], laidByText := true, laidKinds := [.data, .pinned, .pinned], laidTests := true, laidLooks := .later }
def SearchSuggestsCardSaid : Prop := Claim7.holds Tryz.pinned (.plain (OpenSpec.ofChange searchSuggestsSpec)) searchSuggestsCard

/-- THE TIED CARD OF 'copydesklaw18.SearchLimits'. -/
def searchLimitsCard : Claim7 := { stood := { row := searchLimitsRow, standIns := [], harness := (true, "b5e0ecbf1578279b925c83acaca51e95439a67509c5bcc8daf1dd3791d143409"), looks := false }, kinds := [], alts := [], laidByText := true, laidKinds := [.data, .pinned, .pinned], laidTests := true, laidLooks := .later }
def SearchLimitsCardSaid : Prop := Claim7.holds Tryz.pinned (.plain (OpenSpec.ofChange searchLimitsSpec)) searchLimitsCard

/-- THE SECOND FORM's CARD OF 'copydesklaw18.SearchMatchesReference'. -/
def searchMatchesReferenceUptoCard : Claim7 := { stood := { row := searchMatchesReferenceUptoRow, standIns := [], harness := (true, "b5e0ecbf1578279b925c83acaca51e95439a67509c5bcc8daf1dd3791d143409"), looks := false }, kinds := [], alts := [], laidByText := true, laidKinds := [.data, .pinned, .pinned], laidTests := true, laidLooks := .later }
def SearchMatchesReferenceUptoCardSaid : Prop := Claim7.holds Tryz.pinned (.plain (OpenSpec.upto searchMatchesReferenceSpec)) searchMatchesReferenceUptoCard

/-- THE SECOND FORM's CARD OF 'copydesklaw18.SearchRunMatchesReference'. -/
def searchRunMatchesReferenceUptoCard : Claim7 := { stood := { row := searchRunMatchesReferenceUptoRow, standIns := [], harness := (true, "b5e0ecbf1578279b925c83acaca51e95439a67509c5bcc8daf1dd3791d143409"), looks := false }, kinds := [], alts := [], laidByText := true, laidKinds := [.data, .pinned, .pinned], laidTests := true, laidLooks := .later }
def SearchRunMatchesReferenceUptoCardSaid : Prop := Claim7.holds Tryz.pinned (.plain (OpenSpec.upto searchRunMatchesReferenceSpec)) searchRunMatchesReferenceUptoCard

/-- THE SECOND FORM's CARD OF 'copydesklaw18.SearchRoundTrip'. -/
def searchRoundTripUptoCard : Claim7 := { stood := { row := searchRoundTripUptoRow, standIns := [], harness := (true, "b5e0ecbf1578279b925c83acaca51e95439a67509c5bcc8daf1dd3791d143409"), looks := false }, kinds := [], alts := [], laidByText := true, laidKinds := [.data, .pinned, .pinned], laidTests := true, laidLooks := .later }
def SearchRoundTripUptoCardSaid : Prop := Claim7.holds Tryz.pinned (.plain (OpenSpec.upto searchRoundTripSpec)) searchRoundTripUptoCard

/-- THE SECOND FORM's CARD OF 'copydesklaw18.SearchPartition'. -/
def searchPartitionUptoCard : Claim7 := { stood := { row := searchPartitionUptoRow, standIns := [], harness := (true, "b5e0ecbf1578279b925c83acaca51e95439a67509c5bcc8daf1dd3791d143409"), looks := false }, kinds := [], alts := [], laidByText := true, laidKinds := [.data, .pinned, .pinned], laidTests := true, laidLooks := .later }
def SearchPartitionUptoCardSaid : Prop := Claim7.holds Tryz.pinned (.plain (OpenSpec.upto searchPartitionSpec)) searchPartitionUptoCard

/-- THE SECOND FORM's CARD OF 'copydesklaw18.SearchOrder'. -/
def searchOrderUptoCard : Claim7 := { stood := { row := searchOrderUptoRow, standIns := [], harness := (true, "b5e0ecbf1578279b925c83acaca51e95439a67509c5bcc8daf1dd3791d143409"), looks := false }, kinds := [], alts := [], laidByText := true, laidKinds := [.data, .pinned, .pinned], laidTests := true, laidLooks := .later }
def SearchOrderUptoCardSaid : Prop := Claim7.holds Tryz.pinned (.plain (OpenSpec.upto searchOrderSpec)) searchOrderUptoCard

/-- THE SECOND FORM's CARD OF 'copydesklaw18.SearchTop'. -/
def searchTopUptoCard : Claim7 := { stood := { row := searchTopUptoRow, standIns := [], harness := (true, "b5e0ecbf1578279b925c83acaca51e95439a67509c5bcc8daf1dd3791d143409"), looks := false }, kinds := [], alts := [], laidByText := true, laidKinds := [.data, .pinned, .pinned], laidTests := true, laidLooks := .later }
def SearchTopUptoCardSaid : Prop := Claim7.holds Tryz.pinned (.plain (OpenSpec.upto searchTopSpec)) searchTopUptoCard

/-- THE SECOND FORM's CARD OF 'copydesklaw18.SearchIndependent'. -/
def searchIndependentUptoCard : Claim7 := { stood := { row := searchIndependentUptoRow, standIns := [], harness := (true, "b5e0ecbf1578279b925c83acaca51e95439a67509c5bcc8daf1dd3791d143409"), looks := false }, kinds := [], alts := [], laidByText := true, laidKinds := [.data, .pinned, .pinned], laidTests := true, laidLooks := .later }
def SearchIndependentUptoCardSaid : Prop := Claim7.holds Tryz.pinned (.plain (OpenSpec.upto searchIndependentSpec)) searchIndependentUptoCard

/-- THE SECOND FORM's CARD OF 'copydesklaw18.SearchSuggests'. -/
def searchSuggestsUptoCard : Claim7 := { stood := { row := searchSuggestsUptoRow, standIns := [], harness := (true, "b5e0ecbf1578279b925c83acaca51e95439a67509c5bcc8daf1dd3791d143409"), looks := false }, kinds := [], alts := [], laidByText := true, laidKinds := [.data, .pinned, .pinned], laidTests := true, laidLooks := .later }
def SearchSuggestsUptoCardSaid : Prop := Claim7.holds Tryz.pinned (.plain (OpenSpec.upto searchSuggestsSpec)) searchSuggestsUptoCard

/-- THE SECOND FORM's CARD OF 'copydesklaw18.SearchLimits'. -/
def searchLimitsUptoCard : Claim7 := { stood := { row := searchLimitsUptoRow, standIns := [], harness := (true, "b5e0ecbf1578279b925c83acaca51e95439a67509c5bcc8daf1dd3791d143409"), looks := false }, kinds := [], alts := [], laidByText := true, laidKinds := [.data, .pinned, .pinned], laidTests := true, laidLooks := .later }
def SearchLimitsUptoCardSaid : Prop := Claim7.holds Tryz.pinned (.plain (OpenSpec.upto searchLimitsSpec)) searchLimitsUptoCard
end Rows
end Go.Proofs.YtogjgibaolppfaaGreatDoor
