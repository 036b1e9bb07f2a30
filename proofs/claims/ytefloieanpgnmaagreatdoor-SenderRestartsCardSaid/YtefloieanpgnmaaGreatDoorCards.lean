/-
  DERIVED. GIVEN WITH THE SEED: THE CARDS: each row of YtefloieanpgnmaaGreatDoorRows.lean that lists a variable, with what it lists TIED to the program's text (the seventh form; the later family's looks); each row that meets fmt, with fmt's text TOLD by the authors' own Lean function (tested against real Go, not proved from fmt's source: count such statements apart). THE CARD IS WHAT COUNTS. Prove the row's statement (the work); the ties are given (YtefloieanpgnmaaGreatDoorTie.lean); close each card by the builder's one call (the guide's Derived/Test/ToyasCard.lean, 'card_holds'). Laid BY PROGRAM, IN A SANDBOX (cutbox-door.mjs). By AI agents, Wed Nov 11 2026. No macro, syntax, notation, axiom, sorry.
-/
import Derived.Test.YtefloieanpgnmaaGreatDoorRows
import GoSem.ClaimSeven
namespace Go.Proofs.YtefloieanpgnmaaGreatDoor
namespace Rows

/-- THE TIED CARD OF 'copydesklaw21.SenderConverges'. -/
def senderConvergesCard : Claim7 := { stood := { row := senderConvergesRow, standIns := [], harness := (true, "cf461659435e56dfeb5c7b72e383607446ee8671554534b7a64566d1c96c15be"), looks := true }, kinds := [], alts := [], laidByText := true, laidKinds := [.data, .sentinel, .sentinel], laidTests := true, laidLooks := .later }
def SenderConvergesCardSaid : Prop := Claim7.holds Tryz.pinned (.plain (OpenSpec.ofChange senderConvergesSpec)) senderConvergesCard

/-- THE TIED CARD OF 'copydesklaw21.SenderRestarts'. -/
def senderRestartsCard : Claim7 := { stood := { row := senderRestartsRow, standIns := [], harness := (true, "cf461659435e56dfeb5c7b72e383607446ee8671554534b7a64566d1c96c15be"), looks := true }, kinds := [], alts := [], laidByText := true, laidKinds := [.data, .sentinel, .sentinel], laidTests := true, laidLooks := .later }
def SenderRestartsCardSaid : Prop := Claim7.holds Tryz.pinned (.plain (OpenSpec.ofChange senderRestartsSpec)) senderRestartsCard

/-- THE SECOND FORM's CARD OF 'copydesklaw21.SenderConverges'. -/
def senderConvergesUptoCard : Claim7 := { stood := { row := senderConvergesUptoRow, standIns := [], harness := (true, "cf461659435e56dfeb5c7b72e383607446ee8671554534b7a64566d1c96c15be"), looks := true }, kinds := [], alts := [], laidByText := true, laidKinds := [.data, .sentinel, .sentinel], laidTests := true, laidLooks := .later }
def SenderConvergesUptoCardSaid : Prop := Claim7.holds Tryz.pinned (.plain (OpenSpec.upto senderConvergesSpec)) senderConvergesUptoCard

/-- THE SECOND FORM's CARD OF 'copydesklaw21.SenderRestarts'. -/
def senderRestartsUptoCard : Claim7 := { stood := { row := senderRestartsUptoRow, standIns := [], harness := (true, "cf461659435e56dfeb5c7b72e383607446ee8671554534b7a64566d1c96c15be"), looks := true }, kinds := [], alts := [], laidByText := true, laidKinds := [.data, .sentinel, .sentinel], laidTests := true, laidLooks := .later }
def SenderRestartsUptoCardSaid : Prop := Claim7.holds Tryz.pinned (.plain (OpenSpec.upto senderRestartsSpec)) senderRestartsUptoCard
end Rows
end Go.Proofs.YtefloieanpgnmaaGreatDoor
