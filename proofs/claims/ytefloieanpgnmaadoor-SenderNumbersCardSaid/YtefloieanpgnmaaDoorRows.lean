/-
  NARROWER THAN 'FOR EVERY INPUT', by the rows' own cells (each row's printed sentence says how): SenderNumbers: laid · SenderTexts: laid · SenderIgnores: laid.
  DERIVED. THE GIVEN ROWS OF THIS SEAT. 3 by the template 'for every input the law returns true; each argument reads behind the call as it read before'; 0 by the template 'total and deterministic' (their statements: YtefloieanpgnmaaDoorTotals.lean).
  GIVEN WITH THE SEED: the statements are not yours to turn. If you find one false, say at which input.
  Laid BY PROGRAM, IN A SANDBOX (cutbox-rows.mjs): the forced cells as the released guide's own fill.sh prints them over the translation 4f51ad9a9df3fd0f… (all of the seat's roots in one cut). By AI agents, Wed Nov 11 2026. No macro, syntax, notation, axiom, sorry.
-/
import Derived.Test.YtefloieanpgnmaaDoorChecked
import GoSem.Claim
import GoSem.ClaimJoined
import GoSem.ClaimMapViews
import Derived.JoinedTies
import Derived.KernelRfl
namespace Go.Proofs.YtefloieanpgnmaaDoor
/- THE CELL 'sum', in the pinned program and in every row, IS THE sha256 OF THE DUMP (.gsa) THAT YtefloieanpgnmaaDoorProg.lean LOADS. Nothing in Lean hashes anything: it is a label: what it is worth is what the hold of that sum in a sandbox is worth. -/
noncomputable def Tryd.pinned : Pinned := { name := "ytefloieanpgnmaadoor", sum := "4f51ad9a9df3fd0fe16f057a655e9658878ef791e708afa4a8d602422312a70a", checked := Tryd.checked }
namespace Rows
def none {H : Type} : Left H := { results := [], args := [] }

/- WHAT THE LISTED PACKAGE-LEVEL VARIABLES READ AS WHEN THE CALL BEGINS. Each datum BY PROGRAM (the guide's laid-datum.mjs) off the statement by which the dump's own 'gosem.cut.vars' lays the variable. In a bare row this is a premise. The card (YtefloieanpgnmaaDoorCards.lean) ties it to the program's text. -/
def laid_copydesk_wire_shifts {H : Type} : DataW H := .agg [.lit (.int .u32 0), .lit (.int .u32 274646895), .lit (.int .u32 549293790), .lit (.int .u32 820201905), .lit (.int .u32 1098587580), .lit (.int .u32 1361435347), .lit (.int .u32 1640403810), .lit (.int .u32 1905808397), .lit (.int .u32 2197175160), .lit (.int .u32 2460548119), .lit (.int .u32 2722870694), .lit (.int .u32 2987750089), .lit (.int .u32 3280807620), .lit (.int .u32 3553878443), .lit (.int .u32 3811616794), .lit (.int .u32 4084100981)]
def laid_copydesk_delta_errWire {H : Type} : DataW H := .iface "*errors.errorString" (.ptr (.agg [.lit (.string [100, 101, 108, 116, 97, 58, 32, 110, 111, 116, 32, 97, 110, 32, 101, 110, 99, 111, 100, 105, 110, 103])]))
def laid_copydesk_delta_errDelta {H : Type} : DataW H := .iface "*errors.errorString" (.ptr (.agg [.lit (.string [100, 101, 108, 116, 97, 58, 32, 110, 111, 116, 32, 97, 32, 100, 101, 108, 116, 97, 32, 111, 102, 32, 116, 104, 105, 115, 32, 116, 101, 120, 116])]))

/-- 'copydesklaw21.SenderNumbers': WHATEVER THE INPUT: true; the input reads as it did. -/
def senderNumbersSpec : ChangeSpec := { name := "senderNumbers", fn := fun _ => fun
  | [d] => { results := [.lit (.bool true)], args := [d] }
  | _ => none }
def senderNumbersRow : OpenClaim := { program := "ytefloieanpgnmaadoor", sum := "4f51ad9a9df3fd0fe16f057a655e9658878ef791e708afa4a8d602422312a70a", func := "copydesk/copydesklaw21.SenderNumbers", spec := "senderNumbers", inPlace := ["internal/abi.NoEscape", "internal/reflectlite.TypeOf"], unfollowed := true, recurses := true, named := ["copydesk/wire.shifts", "copydesk/delta.errWire", "copydesk/delta.errDelta"], apart := false, laid := [("copydesk/wire.shifts", laid_copydesk_wire_shifts), ("copydesk/delta.errWire", laid_copydesk_delta_errWire), ("copydesk/delta.errDelta", laid_copydesk_delta_errDelta)] }
def SenderNumbersSaid : Prop := senderNumbersRow.holds Tryd.pinned (OpenSpec.ofChange senderNumbersSpec)

/-- ITS FALSE NEIGHBOUR: 'it returns false'. Refute it at one input. -/
def senderNumbersWrong : ChangeSpec := { name := "senderNumbers", fn := fun _ => fun
  | [d] => { results := [.lit (.bool false)], args := [d] }
  | _ => none }
def SenderNumbersWrongFalsely : Prop := senderNumbersRow.holds Tryd.pinned (OpenSpec.ofChange senderNumbersWrong)

/-- 'copydesklaw21.SenderTexts': WHATEVER THE INPUT: true; the input reads as it did. -/
def senderTextsSpec : ChangeSpec := { name := "senderTexts", fn := fun _ => fun
  | [d] => { results := [.lit (.bool true)], args := [d] }
  | _ => none }
def senderTextsRow : OpenClaim := { program := "ytefloieanpgnmaadoor", sum := "4f51ad9a9df3fd0fe16f057a655e9658878ef791e708afa4a8d602422312a70a", func := "copydesk/copydesklaw21.SenderTexts", spec := "senderTexts", inPlace := ["internal/abi.NoEscape", "internal/reflectlite.TypeOf"], unfollowed := true, recurses := true, named := ["copydesk/wire.shifts", "copydesk/delta.errWire", "copydesk/delta.errDelta"], apart := false, laid := [("copydesk/wire.shifts", laid_copydesk_wire_shifts), ("copydesk/delta.errWire", laid_copydesk_delta_errWire), ("copydesk/delta.errDelta", laid_copydesk_delta_errDelta)] }
def SenderTextsSaid : Prop := senderTextsRow.holds Tryd.pinned (OpenSpec.ofChange senderTextsSpec)

/-- ITS FALSE NEIGHBOUR: 'it returns false'. Refute it at one input. -/
def senderTextsWrong : ChangeSpec := { name := "senderTexts", fn := fun _ => fun
  | [d] => { results := [.lit (.bool false)], args := [d] }
  | _ => none }
def SenderTextsWrongFalsely : Prop := senderTextsRow.holds Tryd.pinned (OpenSpec.ofChange senderTextsWrong)

/-- 'copydesklaw21.SenderIgnores': WHATEVER THE INPUT: true; the input reads as it did. -/
def senderIgnoresSpec : ChangeSpec := { name := "senderIgnores", fn := fun _ => fun
  | [d1, d2, d3] => { results := [.lit (.bool true)], args := [d1, d2, d3] }
  | _ => none }
def senderIgnoresRow : OpenClaim := { program := "ytefloieanpgnmaadoor", sum := "4f51ad9a9df3fd0fe16f057a655e9658878ef791e708afa4a8d602422312a70a", func := "copydesk/copydesklaw21.SenderIgnores", spec := "senderIgnores", inPlace := ["internal/abi.NoEscape", "internal/reflectlite.TypeOf"], unfollowed := true, recurses := true, named := ["copydesk/wire.shifts", "copydesk/delta.errWire", "copydesk/delta.errDelta"], apart := false, laid := [("copydesk/wire.shifts", laid_copydesk_wire_shifts), ("copydesk/delta.errWire", laid_copydesk_delta_errWire), ("copydesk/delta.errDelta", laid_copydesk_delta_errDelta)] }
def SenderIgnoresSaid : Prop := senderIgnoresRow.holds Tryd.pinned (OpenSpec.ofChange senderIgnoresSpec)

/-- ITS FALSE NEIGHBOUR: 'it returns false'. Refute it at one input. -/
def senderIgnoresWrong : ChangeSpec := { name := "senderIgnores", fn := fun _ => fun
  | [d1, d2, d3] => { results := [.lit (.bool false)], args := [d1, d2, d3] }
  | _ => none }
def SenderIgnoresWrongFalsely : Prop := senderIgnoresRow.holds Tryd.pinned (OpenSpec.ofChange senderIgnoresWrong)

/- THE SECOND FORM. 'bulk': how many values and letters a reading holds, each counted each time it is reached (what is shared counts as often as it is met; a slice's spare places count too). A statement '..UptoSaid' is the law's where the arguments, and the package variables that the reading takes, are together of bulk at most 1048576: NARROWER than '..Said'. Prove '..Said' where nothing that the law and all that it calls make is longer than what came in: it says more and counts as full. Else prove '..UptoSaid'. A law counts once. -/
mutual
def uptoBulk {H : Type} : DataW H → Nat
  | .lit (.string bytes) => bytes.length + 1
  | .lit _ => 1
  | .nil => 1
  | .ptr d => uptoBulk d + 1
  | .slice elems spare => uptoBulkAll elems + uptoBulkAll spare + 1
  | .agg parts => uptoBulkAll parts + 1
  | .iface _ d => uptoBulk d + 1
  | .map entries => uptoBulkEntries entries + 1
  | .held _ => 1
def uptoBulkAll {H : Type} : List (DataW H) → Nat
  | [] => 0
  | d :: r => uptoBulk d + uptoBulkAll r
def uptoBulkEntries {H : Type} : List (Lit × DataW H) → Nat
  | [] => 0
  | x :: r => uptoBulkEntry x + uptoBulkEntries r
def uptoBulkEntry {H : Type} : Lit × DataW H → Nat
  | (.string bytes, d) => bytes.length + uptoBulk d + 1
  | (_, d) => uptoBulk d + 1
 end
def uptoSmall : (H : Type) → List (DataW H) → Bool := fun _ ds => decide (uptoBulkAll ds ≤ 1048576)
def OpenSpec.upto (s : _root_.Go.ChangeSpec) : _root_.Go.OpenSpec := { _root_.Go.OpenSpec.ofChange s with cond := some uptoSmall }

/-- 'copydesklaw21.SenderNumbers', WHERE WHAT IT READS IS OF BULK AT MOST 1048576: true; the input reads as it did. -/
def senderNumbersUptoRow : OpenClaim := { program := "ytefloieanpgnmaadoor", sum := "4f51ad9a9df3fd0fe16f057a655e9658878ef791e708afa4a8d602422312a70a", func := "copydesk/copydesklaw21.SenderNumbers", spec := "senderNumbers", inPlace := ["internal/abi.NoEscape", "internal/reflectlite.TypeOf"], unfollowed := true, recurses := true, named := ["copydesk/wire.shifts", "copydesk/delta.errWire", "copydesk/delta.errDelta"], apart := false, laid := [("copydesk/wire.shifts", laid_copydesk_wire_shifts), ("copydesk/delta.errWire", laid_copydesk_delta_errWire), ("copydesk/delta.errDelta", laid_copydesk_delta_errDelta)], narrowed := true }
def SenderNumbersUptoSaid : Prop := senderNumbersUptoRow.holds Tryd.pinned (OpenSpec.upto senderNumbersSpec)

/-- 'copydesklaw21.SenderTexts', WHERE WHAT IT READS IS OF BULK AT MOST 1048576: true; the input reads as it did. -/
def senderTextsUptoRow : OpenClaim := { program := "ytefloieanpgnmaadoor", sum := "4f51ad9a9df3fd0fe16f057a655e9658878ef791e708afa4a8d602422312a70a", func := "copydesk/copydesklaw21.SenderTexts", spec := "senderTexts", inPlace := ["internal/abi.NoEscape", "internal/reflectlite.TypeOf"], unfollowed := true, recurses := true, named := ["copydesk/wire.shifts", "copydesk/delta.errWire", "copydesk/delta.errDelta"], apart := false, laid := [("copydesk/wire.shifts", laid_copydesk_wire_shifts), ("copydesk/delta.errWire", laid_copydesk_delta_errWire), ("copydesk/delta.errDelta", laid_copydesk_delta_errDelta)], narrowed := true }
def SenderTextsUptoSaid : Prop := senderTextsUptoRow.holds Tryd.pinned (OpenSpec.upto senderTextsSpec)

/-- 'copydesklaw21.SenderIgnores', WHERE WHAT IT READS IS OF BULK AT MOST 1048576: true; the input reads as it did. -/
def senderIgnoresUptoRow : OpenClaim := { program := "ytefloieanpgnmaadoor", sum := "4f51ad9a9df3fd0fe16f057a655e9658878ef791e708afa4a8d602422312a70a", func := "copydesk/copydesklaw21.SenderIgnores", spec := "senderIgnores", inPlace := ["internal/abi.NoEscape", "internal/reflectlite.TypeOf"], unfollowed := true, recurses := true, named := ["copydesk/wire.shifts", "copydesk/delta.errWire", "copydesk/delta.errDelta"], apart := false, laid := [("copydesk/wire.shifts", laid_copydesk_wire_shifts), ("copydesk/delta.errWire", laid_copydesk_delta_errWire), ("copydesk/delta.errDelta", laid_copydesk_delta_errDelta)], narrowed := true }
def SenderIgnoresUptoSaid : Prop := senderIgnoresUptoRow.holds Tryd.pinned (OpenSpec.upto senderIgnoresSpec)

end Rows
end Go.Proofs.YtefloieanpgnmaaDoor
