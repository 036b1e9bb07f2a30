/-
  DERIVED. GIVEN WITH THE SEED: THE CARDS: each row of YtefloieanpgnmaaDoorRows.lean that lists a variable, with what it lists TIED to the program's text (the seventh form; the later family's looks); each row that meets fmt, with fmt's text TOLD by the authors' own Lean function (tested against real Go, not proved from fmt's source: count such statements apart). THE CARD IS WHAT COUNTS. Prove the row's statement (the work); the ties are given (YtefloieanpgnmaaDoorTie.lean); close each card by the builder's one call (the guide's Derived/Test/ToyasCard.lean, 'card_holds'). Laid BY PROGRAM, IN A SANDBOX (cutbox-door.mjs). By AI agents, Wed Nov 11 2026. No macro, syntax, notation, axiom, sorry.
-/
import Derived.Test.YtefloieanpgnmaaDoorRows
import GoSem.ClaimSeven
namespace Go.Proofs.YtefloieanpgnmaaDoor
namespace Rows

/-- THE TIED CARD OF 'copydesklaw21.SenderNumbers'. -/
def senderNumbersCard : Claim7 := { stood := { row := senderNumbersRow, standIns := [], harness := (true, "cabe2e28981427f9641b3a83e19f9b6377d9481d7935cd948d09beb26ce9a985"), looks := true }, kinds := [], alts := [], laidByText := true, laidKinds := [.data, .sentinel, .sentinel], laidTests := true, laidLooks := .later }
def SenderNumbersCardSaid : Prop := Claim7.holds Tryd.pinned (.plain (OpenSpec.ofChange senderNumbersSpec)) senderNumbersCard

/-- THE TIED CARD OF 'copydesklaw21.SenderTexts'. -/
def senderTextsCard : Claim7 := { stood := { row := senderTextsRow, standIns := [], harness := (true, "cabe2e28981427f9641b3a83e19f9b6377d9481d7935cd948d09beb26ce9a985"), looks := true }, kinds := [], alts := [], laidByText := true, laidKinds := [.data, .sentinel, .sentinel], laidTests := true, laidLooks := .later }
def SenderTextsCardSaid : Prop := Claim7.holds Tryd.pinned (.plain (OpenSpec.ofChange senderTextsSpec)) senderTextsCard

/-- THE TIED CARD OF 'copydesklaw21.SenderIgnores'. -/
def senderIgnoresCard : Claim7 := { stood := { row := senderIgnoresRow, standIns := [], harness := (true, "cabe2e28981427f9641b3a83e19f9b6377d9481d7935cd948d09beb26ce9a985"), looks := true }, kinds := [], alts := [], laidByText := true, laidKinds := [.data, .sentinel, .sentinel], laidTests := true, laidLooks := .later }
def SenderIgnoresCardSaid : Prop := Claim7.holds Tryd.pinned (.plain (OpenSpec.ofChange senderIgnoresSpec)) senderIgnoresCard

/-- THE SECOND FORM's CARD OF 'copydesklaw21.SenderNumbers'. -/
def senderNumbersUptoCard : Claim7 := { stood := { row := senderNumbersUptoRow, standIns := [], harness := (true, "cabe2e28981427f9641b3a83e19f9b6377d9481d7935cd948d09beb26ce9a985"), looks := true }, kinds := [], alts := [], laidByText := true, laidKinds := [.data, .sentinel, .sentinel], laidTests := true, laidLooks := .later }
def SenderNumbersUptoCardSaid : Prop := Claim7.holds Tryd.pinned (.plain (OpenSpec.upto senderNumbersSpec)) senderNumbersUptoCard

/-- THE SECOND FORM's CARD OF 'copydesklaw21.SenderTexts'. -/
def senderTextsUptoCard : Claim7 := { stood := { row := senderTextsUptoRow, standIns := [], harness := (true, "cabe2e28981427f9641b3a83e19f9b6377d9481d7935cd948d09beb26ce9a985"), looks := true }, kinds := [], alts := [], laidByText := true, laidKinds := [.data, .sentinel, .sentinel], laidTests := true, laidLooks := .later }
def SenderTextsUptoCardSaid : Prop := Claim7.holds Tryd.pinned (.plain (OpenSpec.upto senderTextsSpec)) senderTextsUptoCard

/-- THE SECOND FORM's CARD OF 'copydesklaw21.SenderIgnores'. -/
def senderIgnoresUptoCard : Claim7 := { stood := { row := senderIgnoresUptoRow, standIns := [], harness := (true, "cabe2e28981427f9641b3a83e19f9b6377d9481d7935cd948d09beb26ce9a985"), looks := true }, kinds := [], alts := [], laidByText := true, laidKinds := [.data, .sentinel, .sentinel], laidTests := true, laidLooks := .later }
def SenderIgnoresUptoCardSaid : Prop := Claim7.holds Tryd.pinned (.plain (OpenSpec.upto senderIgnoresSpec)) senderIgnoresUptoCard
end Rows
end Go.Proofs.YtefloieanpgnmaaDoor
