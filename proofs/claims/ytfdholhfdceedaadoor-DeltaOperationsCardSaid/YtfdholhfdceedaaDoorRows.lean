/-
  NARROWER THAN 'FOR EVERY INPUT', by the rows' own cells (each row's printed sentence says how): DeltaDiffMatchesReference: laid · DeltaOperations: laid · DeltaRoundTrip: laid · DeltaChain: laid · DeltaOtherBase: laid · DeltaSize: laid · DeltaParts: laid.
  DERIVED. THE GIVEN ROWS OF THIS SEAT. 7 by the template 'for every input the law returns true; each argument reads behind the call as it read before'; 0 by the template 'total and deterministic' (their statements: YtfdholhfdceedaaDoorTotals.lean).
  GIVEN WITH THE SEED: the statements are not yours to turn. If you find one false, say at which input.
  Laid BY PROGRAM, IN A SANDBOX (cutbox-rows.mjs): the forced cells as the released guide's own fill.sh prints them over the translation 5d24ab9d9c037fb7… (all of the seat's roots in one cut). By AI agents, Wed Nov 11 2026. No macro, syntax, notation, axiom, sorry.
-/
import Derived.Test.YtfdholhfdceedaaDoorChecked
import GoSem.Claim
import GoSem.ClaimJoined
import GoSem.ClaimMapViews
import Derived.JoinedTies
import Derived.KernelRfl
namespace Go.Proofs.YtfdholhfdceedaaDoor
/- THE CELL 'sum', in the pinned program and in every row, IS THE sha256 OF THE DUMP (.gsa) THAT YtfdholhfdceedaaDoorProg.lean LOADS. Nothing in Lean hashes anything: it is a label: what it is worth is what the hold of that sum in a sandbox is worth. -/
noncomputable def Tryd.pinned : Pinned := { name := "ytfdholhfdceedaadoor", sum := "5d24ab9d9c037fb70a9c6e3adfd158150452979b42ea07211c1326b59f2038f7", checked := Tryd.checked }
namespace Rows
def none {H : Type} : Left H := { results := [], args := [] }

/- WHAT THE LISTED PACKAGE-LEVEL VARIABLES READ AS WHEN THE CALL BEGINS. Each datum BY PROGRAM (the guide's laid-datum.mjs) off the statement by which the dump's own 'gosem.cut.vars' lays the variable. In a bare row this is a premise. The card (YtfdholhfdceedaaDoorCards.lean) ties it to the program's text. -/
def laid_copydesk_wire_shifts {H : Type} : DataW H := .agg [.lit (.int .u32 0), .lit (.int .u32 274646895), .lit (.int .u32 549293790), .lit (.int .u32 820201905), .lit (.int .u32 1098587580), .lit (.int .u32 1361435347), .lit (.int .u32 1640403810), .lit (.int .u32 1905808397), .lit (.int .u32 2197175160), .lit (.int .u32 2460548119), .lit (.int .u32 2722870694), .lit (.int .u32 2987750089), .lit (.int .u32 3280807620), .lit (.int .u32 3553878443), .lit (.int .u32 3811616794), .lit (.int .u32 4084100981)]
def laid_copydesk_delta_errWire {H : Type} : DataW H := .iface "*errors.errorString" (.ptr (.agg [.lit (.string [100, 101, 108, 116, 97, 58, 32, 110, 111, 116, 32, 97, 110, 32, 101, 110, 99, 111, 100, 105, 110, 103])]))
def laid_copydesk_delta_errDelta {H : Type} : DataW H := .iface "*errors.errorString" (.ptr (.agg [.lit (.string [100, 101, 108, 116, 97, 58, 32, 110, 111, 116, 32, 97, 32, 100, 101, 108, 116, 97, 32, 111, 102, 32, 116, 104, 105, 115, 32, 116, 101, 120, 116])]))

/-- 'copydesklaw19.DeltaDiffMatchesReference': WHATEVER THE INPUT: true; the input reads as it did. -/
def deltaDiffMatchesReferenceSpec : ChangeSpec := { name := "deltaDiffMatchesReference", fn := fun _ => fun
  | [d1, d2] => { results := [.lit (.bool true)], args := [d1, d2] }
  | _ => none }
def deltaDiffMatchesReferenceRow : OpenClaim := { program := "ytfdholhfdceedaadoor", sum := "5d24ab9d9c037fb70a9c6e3adfd158150452979b42ea07211c1326b59f2038f7", func := "copydesk/copydesklaw19.DeltaDiffMatchesReference", spec := "deltaDiffMatchesReference", inPlace := ["internal/abi.NoEscape", "internal/reflectlite.TypeOf"], unfollowed := true, recurses := true, named := ["copydesk/wire.shifts", "copydesk/delta.errWire", "copydesk/delta.errDelta"], apart := false, laid := [("copydesk/wire.shifts", laid_copydesk_wire_shifts), ("copydesk/delta.errWire", laid_copydesk_delta_errWire), ("copydesk/delta.errDelta", laid_copydesk_delta_errDelta)] }
def DeltaDiffMatchesReferenceSaid : Prop := deltaDiffMatchesReferenceRow.holds Tryd.pinned (OpenSpec.ofChange deltaDiffMatchesReferenceSpec)

/-- ITS FALSE NEIGHBOUR: 'it returns false'. Refute it at one input. -/
def deltaDiffMatchesReferenceWrong : ChangeSpec := { name := "deltaDiffMatchesReference", fn := fun _ => fun
  | [d1, d2] => { results := [.lit (.bool false)], args := [d1, d2] }
  | _ => none }
def DeltaDiffMatchesReferenceWrongFalsely : Prop := deltaDiffMatchesReferenceRow.holds Tryd.pinned (OpenSpec.ofChange deltaDiffMatchesReferenceWrong)

/-- 'copydesklaw19.DeltaOperations': WHATEVER THE INPUT: true; the input reads as it did. -/
def deltaOperationsSpec : ChangeSpec := { name := "deltaOperations", fn := fun _ => fun
  | [d1, d2, d3] => { results := [.lit (.bool true)], args := [d1, d2, d3] }
  | _ => none }
def deltaOperationsRow : OpenClaim := { program := "ytfdholhfdceedaadoor", sum := "5d24ab9d9c037fb70a9c6e3adfd158150452979b42ea07211c1326b59f2038f7", func := "copydesk/copydesklaw19.DeltaOperations", spec := "deltaOperations", inPlace := ["internal/abi.NoEscape", "internal/reflectlite.TypeOf"], unfollowed := true, recurses := true, named := ["copydesk/wire.shifts", "copydesk/delta.errWire", "copydesk/delta.errDelta"], apart := false, laid := [("copydesk/wire.shifts", laid_copydesk_wire_shifts), ("copydesk/delta.errWire", laid_copydesk_delta_errWire), ("copydesk/delta.errDelta", laid_copydesk_delta_errDelta)] }
def DeltaOperationsSaid : Prop := deltaOperationsRow.holds Tryd.pinned (OpenSpec.ofChange deltaOperationsSpec)

/-- ITS FALSE NEIGHBOUR: 'it returns false'. Refute it at one input. -/
def deltaOperationsWrong : ChangeSpec := { name := "deltaOperations", fn := fun _ => fun
  | [d1, d2, d3] => { results := [.lit (.bool false)], args := [d1, d2, d3] }
  | _ => none }
def DeltaOperationsWrongFalsely : Prop := deltaOperationsRow.holds Tryd.pinned (OpenSpec.ofChange deltaOperationsWrong)

/-- 'copydesklaw19.DeltaRoundTrip': WHATEVER THE INPUT: true; the input reads as it did. -/
def deltaRoundTripSpec : ChangeSpec := { name := "deltaRoundTrip", fn := fun _ => fun
  | [d1, d2] => { results := [.lit (.bool true)], args := [d1, d2] }
  | _ => none }
def deltaRoundTripRow : OpenClaim := { program := "ytfdholhfdceedaadoor", sum := "5d24ab9d9c037fb70a9c6e3adfd158150452979b42ea07211c1326b59f2038f7", func := "copydesk/copydesklaw19.DeltaRoundTrip", spec := "deltaRoundTrip", inPlace := ["internal/abi.NoEscape", "internal/reflectlite.TypeOf"], unfollowed := true, recurses := true, named := ["copydesk/wire.shifts", "copydesk/delta.errWire", "copydesk/delta.errDelta"], apart := false, laid := [("copydesk/wire.shifts", laid_copydesk_wire_shifts), ("copydesk/delta.errWire", laid_copydesk_delta_errWire), ("copydesk/delta.errDelta", laid_copydesk_delta_errDelta)] }
def DeltaRoundTripSaid : Prop := deltaRoundTripRow.holds Tryd.pinned (OpenSpec.ofChange deltaRoundTripSpec)

/-- ITS FALSE NEIGHBOUR: 'it returns false'. Refute it at one input. -/
def deltaRoundTripWrong : ChangeSpec := { name := "deltaRoundTrip", fn := fun _ => fun
  | [d1, d2] => { results := [.lit (.bool false)], args := [d1, d2] }
  | _ => none }
def DeltaRoundTripWrongFalsely : Prop := deltaRoundTripRow.holds Tryd.pinned (OpenSpec.ofChange deltaRoundTripWrong)

/-- 'copydesklaw19.DeltaChain': WHATEVER THE INPUT: true; the input reads as it did. -/
def deltaChainSpec : ChangeSpec := { name := "deltaChain", fn := fun _ => fun
  | [d] => { results := [.lit (.bool true)], args := [d] }
  | _ => none }
def deltaChainRow : OpenClaim := { program := "ytfdholhfdceedaadoor", sum := "5d24ab9d9c037fb70a9c6e3adfd158150452979b42ea07211c1326b59f2038f7", func := "copydesk/copydesklaw19.DeltaChain", spec := "deltaChain", inPlace := ["internal/abi.NoEscape", "internal/reflectlite.TypeOf"], unfollowed := true, recurses := true, named := ["copydesk/wire.shifts", "copydesk/delta.errWire", "copydesk/delta.errDelta"], apart := false, laid := [("copydesk/wire.shifts", laid_copydesk_wire_shifts), ("copydesk/delta.errWire", laid_copydesk_delta_errWire), ("copydesk/delta.errDelta", laid_copydesk_delta_errDelta)] }
def DeltaChainSaid : Prop := deltaChainRow.holds Tryd.pinned (OpenSpec.ofChange deltaChainSpec)

/-- ITS FALSE NEIGHBOUR: 'it returns false'. Refute it at one input. -/
def deltaChainWrong : ChangeSpec := { name := "deltaChain", fn := fun _ => fun
  | [d] => { results := [.lit (.bool false)], args := [d] }
  | _ => none }
def DeltaChainWrongFalsely : Prop := deltaChainRow.holds Tryd.pinned (OpenSpec.ofChange deltaChainWrong)

/-- 'copydesklaw19.DeltaOtherBase': WHATEVER THE INPUT: true; the input reads as it did. -/
def deltaOtherBaseSpec : ChangeSpec := { name := "deltaOtherBase", fn := fun _ => fun
  | [d1, d2, d3] => { results := [.lit (.bool true)], args := [d1, d2, d3] }
  | _ => none }
def deltaOtherBaseRow : OpenClaim := { program := "ytfdholhfdceedaadoor", sum := "5d24ab9d9c037fb70a9c6e3adfd158150452979b42ea07211c1326b59f2038f7", func := "copydesk/copydesklaw19.DeltaOtherBase", spec := "deltaOtherBase", inPlace := ["internal/abi.NoEscape", "internal/reflectlite.TypeOf"], unfollowed := true, recurses := true, named := ["copydesk/wire.shifts", "copydesk/delta.errWire", "copydesk/delta.errDelta"], apart := false, laid := [("copydesk/wire.shifts", laid_copydesk_wire_shifts), ("copydesk/delta.errWire", laid_copydesk_delta_errWire), ("copydesk/delta.errDelta", laid_copydesk_delta_errDelta)] }
def DeltaOtherBaseSaid : Prop := deltaOtherBaseRow.holds Tryd.pinned (OpenSpec.ofChange deltaOtherBaseSpec)

/-- ITS FALSE NEIGHBOUR: 'it returns false'. Refute it at one input. -/
def deltaOtherBaseWrong : ChangeSpec := { name := "deltaOtherBase", fn := fun _ => fun
  | [d1, d2, d3] => { results := [.lit (.bool false)], args := [d1, d2, d3] }
  | _ => none }
def DeltaOtherBaseWrongFalsely : Prop := deltaOtherBaseRow.holds Tryd.pinned (OpenSpec.ofChange deltaOtherBaseWrong)

/-- 'copydesklaw19.DeltaSize': WHATEVER THE INPUT: true; the input reads as it did. -/
def deltaSizeSpec : ChangeSpec := { name := "deltaSize", fn := fun _ => fun
  | [d1, d2] => { results := [.lit (.bool true)], args := [d1, d2] }
  | _ => none }
def deltaSizeRow : OpenClaim := { program := "ytfdholhfdceedaadoor", sum := "5d24ab9d9c037fb70a9c6e3adfd158150452979b42ea07211c1326b59f2038f7", func := "copydesk/copydesklaw19.DeltaSize", spec := "deltaSize", inPlace := ["internal/abi.NoEscape", "internal/reflectlite.TypeOf"], unfollowed := true, recurses := true, named := ["copydesk/wire.shifts", "copydesk/delta.errWire", "copydesk/delta.errDelta"], apart := false, laid := [("copydesk/wire.shifts", laid_copydesk_wire_shifts), ("copydesk/delta.errWire", laid_copydesk_delta_errWire), ("copydesk/delta.errDelta", laid_copydesk_delta_errDelta)] }
def DeltaSizeSaid : Prop := deltaSizeRow.holds Tryd.pinned (OpenSpec.ofChange deltaSizeSpec)

/-- ITS FALSE NEIGHBOUR: 'it returns false'. Refute it at one input. -/
def deltaSizeWrong : ChangeSpec := { name := "deltaSize", fn := fun _ => fun
  | [d1, d2] => { results := [.lit (.bool false)], args := [d1, d2] }
  | _ => none }
def DeltaSizeWrongFalsely : Prop := deltaSizeRow.holds Tryd.pinned (OpenSpec.ofChange deltaSizeWrong)

/-- 'copydesklaw19.DeltaParts': WHATEVER THE INPUT: true; the input reads as it did. -/
def deltaPartsSpec : ChangeSpec := { name := "deltaParts", fn := fun _ => fun
  | [d1, d2] => { results := [.lit (.bool true)], args := [d1, d2] }
  | _ => none }
def deltaPartsRow : OpenClaim := { program := "ytfdholhfdceedaadoor", sum := "5d24ab9d9c037fb70a9c6e3adfd158150452979b42ea07211c1326b59f2038f7", func := "copydesk/copydesklaw19.DeltaParts", spec := "deltaParts", inPlace := ["internal/abi.NoEscape", "internal/reflectlite.TypeOf"], unfollowed := true, recurses := true, named := ["copydesk/wire.shifts", "copydesk/delta.errWire", "copydesk/delta.errDelta"], apart := false, laid := [("copydesk/wire.shifts", laid_copydesk_wire_shifts), ("copydesk/delta.errWire", laid_copydesk_delta_errWire), ("copydesk/delta.errDelta", laid_copydesk_delta_errDelta)] }
def DeltaPartsSaid : Prop := deltaPartsRow.holds Tryd.pinned (OpenSpec.ofChange deltaPartsSpec)

/-- ITS FALSE NEIGHBOUR: 'it returns false'. Refute it at one input. -/
def deltaPartsWrong : ChangeSpec := { name := "deltaParts", fn := fun _ => fun
  | [d1, d2] => { results := [.lit (.bool false)], args := [d1, d2] }
  | _ => none }
def DeltaPartsWrongFalsely : Prop := deltaPartsRow.holds Tryd.pinned (OpenSpec.ofChange deltaPartsWrong)

/- THE SECOND FORM. 'bulk': how many values and letters a reading holds, each counted each time it is reached (what is shared counts as often as it is met; a slice's spare places count too). A statement '..UptoSaid' is the law's where the arguments, and the package variables that the reading takes, are together of bulk at most 1048576: NARROWER than '..Said'. Prove '..Said' where nothing that the law and all that it calls make is longer than what came in: it says more and counts as full. Else prove '..UptoSaid'. A law counts once. -/
mutual
def uptoBulk {H : Type} : DataW H → Nat
  | .lit (.string bytes) => bytes.length + 1
  | .lit _ => 1
  | .nil => 1
  | .ptr d => uptoBulk d + 1
  | .slice elems spare => uptoBulkAll elems + uptoBulkAll spare + 1
  | .agg parts => uptoBulkAll parts + 1
  | .iface _ d => uptoBulk d + 1
  | .map entries => uptoBulkEntries entries + 1
  | .held _ => 1
def uptoBulkAll {H : Type} : List (DataW H) → Nat
  | [] => 0
  | d :: r => uptoBulk d + uptoBulkAll r
def uptoBulkEntries {H : Type} : List (Lit × DataW H) → Nat
  | [] => 0
  | x :: r => uptoBulkEntry x + uptoBulkEntries r
def uptoBulkEntry {H : Type} : Lit × DataW H → Nat
  | (.string bytes, d) => bytes.length + uptoBulk d + 1
  | (_, d) => uptoBulk d + 1
 end
def uptoSmall : (H : Type) → List (DataW H) → Bool := fun _ ds => decide (uptoBulkAll ds ≤ 1048576)
def OpenSpec.upto (s : _root_.Go.ChangeSpec) : _root_.Go.OpenSpec := { _root_.Go.OpenSpec.ofChange s with cond := some uptoSmall }

/-- 'copydesklaw19.DeltaDiffMatchesReference', WHERE WHAT IT READS IS OF BULK AT MOST 1048576: true; the input reads as it did. -/
def deltaDiffMatchesReferenceUptoRow : OpenClaim := { program := "ytfdholhfdceedaadoor", sum := "5d24ab9d9c037fb70a9c6e3adfd158150452979b42ea07211c1326b59f2038f7", func := "copydesk/copydesklaw19.DeltaDiffMatchesReference", spec := "deltaDiffMatchesReference", inPlace := ["internal/abi.NoEscape", "internal/reflectlite.TypeOf"], unfollowed := true, recurses := true, named := ["copydesk/wire.shifts", "copydesk/delta.errWire", "copydesk/delta.errDelta"], apart := false, laid := [("copydesk/wire.shifts", laid_copydesk_wire_shifts), ("copydesk/delta.errWire", laid_copydesk_delta_errWire), ("copydesk/delta.errDelta", laid_copydesk_delta_errDelta)], narrowed := true }
def DeltaDiffMatchesReferenceUptoSaid : Prop := deltaDiffMatchesReferenceUptoRow.holds Tryd.pinned (OpenSpec.upto deltaDiffMatchesReferenceSpec)

/-- 'copydesklaw19.DeltaOperations', WHERE WHAT IT READS IS OF BULK AT MOST 1048576: true; the input reads as it did. -/
def deltaOperationsUptoRow : OpenClaim := { program := "ytfdholhfdceedaadoor", sum := "5d24ab9d9c037fb70a9c6e3adfd158150452979b42ea07211c1326b59f2038f7", func := "copydesk/copydesklaw19.DeltaOperations", spec := "deltaOperations", inPlace := ["internal/abi.NoEscape", "internal/reflectlite.TypeOf"], unfollowed := true, recurses := true, named := ["copydesk/wire.shifts", "copydesk/delta.errWire", "copydesk/delta.errDelta"], apart := false, laid := [("copydesk/wire.shifts", laid_copydesk_wire_shifts), ("copydesk/delta.errWire", laid_copydesk_delta_errWire), ("copydesk/delta.errDelta", laid_copydesk_delta_errDelta)], narrowed := true }
def DeltaOperationsUptoSaid : Prop := deltaOperationsUptoRow.holds Tryd.pinned (OpenSpec.upto deltaOperationsSpec)

/-- 'copydesklaw19.DeltaRoundTrip', WHERE WHAT IT READS IS OF BULK AT MOST 1048576: true; the input reads as it did. -/
def deltaRoundTripUptoRow : OpenClaim := { program := "ytfdholhfdceedaadoor", sum := "5d24ab9d9c037fb70a9c6e3adfd158150452979b42ea07211c1326b59f2038f7", func := "copydesk/copydesklaw19.DeltaRoundTrip", spec := "deltaRoundTrip", inPlace := ["internal/abi.NoEscape", "internal/reflectlite.TypeOf"], unfollowed := true, recurses := true, named := ["copydesk/wire.shifts", "copydesk/delta.errWire", "copydesk/delta.errDelta"], apart := false, laid := [("copydesk/wire.shifts", laid_copydesk_wire_shifts), ("copydesk/delta.errWire", laid_copydesk_delta_errWire), ("copydesk/delta.errDelta", laid_copydesk_delta_errDelta)], narrowed := true }
def DeltaRoundTripUptoSaid : Prop := deltaRoundTripUptoRow.holds Tryd.pinned (OpenSpec.upto deltaRoundTripSpec)

/-- 'copydesklaw19.DeltaChain', WHERE WHAT IT READS IS OF BULK AT MOST 1048576: true; the input reads as it did. -/
def deltaChainUptoRow : OpenClaim := { program := "ytfdholhfdceedaadoor", sum := "5d24ab9d9c037fb70a9c6e3adfd158150452979b42ea07211c1326b59f2038f7", func := "copydesk/copydesklaw19.DeltaChain", spec := "deltaChain", inPlace := ["internal/abi.NoEscape", "internal/reflectlite.TypeOf"], unfollowed := true, recurses := true, named := ["copydesk/wire.shifts", "copydesk/delta.errWire", "copydesk/delta.errDelta"], apart := false, laid := [("copydesk/wire.shifts", laid_copydesk_wire_shifts), ("copydesk/delta.errWire", laid_copydesk_delta_errWire), ("copydesk/delta.errDelta", laid_copydesk_delta_errDelta)], narrowed := true }
def DeltaChainUptoSaid : Prop := deltaChainUptoRow.holds Tryd.pinned (OpenSpec.upto deltaChainSpec)

/-- 'copydesklaw19.DeltaOtherBase', WHERE WHAT IT READS IS OF BULK AT MOST 1048576: true; the input reads as it did. -/
def deltaOtherBaseUptoRow : OpenClaim := { program := "ytfdholhfdceedaadoor", sum := "5d24ab9d9c037fb70a9c6e3adfd158150452979b42ea07211c1326b59f2038f7", func := "copydesk/copydesklaw19.DeltaOtherBase", spec := "deltaOtherBase", inPlace := ["internal/abi.NoEscape", "internal/reflectlite.TypeOf"], unfollowed := true, recurses := true, named := ["copydesk/wire.shifts", "copydesk/delta.errWire", "copydesk/delta.errDelta"], apart := false, laid := [("copydesk/wire.shifts", laid_copydesk_wire_shifts), ("copydesk/delta.errWire", laid_copydesk_delta_errWire), ("copydesk/delta.errDelta", laid_copydesk_delta_errDelta)], narrowed := true }
def DeltaOtherBaseUptoSaid : Prop := deltaOtherBaseUptoRow.holds Tryd.pinned (OpenSpec.upto deltaOtherBaseSpec)

/-- 'copydesklaw19.DeltaSize', WHERE WHAT IT READS IS OF BULK AT MOST 1048576: true; the input reads as it did. -/
def deltaSizeUptoRow : OpenClaim := { program := "ytfdholhfdceedaadoor", sum := "5d24ab9d9c037fb70a9c6e3adfd158150452979b42ea07211c1326b59f2038f7", func := "copydesk/copydesklaw19.DeltaSize", spec := "deltaSize", inPlace := ["internal/abi.NoEscape", "internal/reflectlite.TypeOf"], unfollowed := true, recurses := true, named := ["copydesk/wire.shifts", "copydesk/delta.errWire", "copydesk/delta.errDelta"], apart := false, laid := [("copydesk/wire.shifts", laid_copydesk_wire_shifts), ("copydesk/delta.errWire", laid_copydesk_delta_errWire), ("copydesk/delta.errDelta", laid_copydesk_delta_errDelta)], narrowed := true }
def DeltaSizeUptoSaid : Prop := deltaSizeUptoRow.holds Tryd.pinned (OpenSpec.upto deltaSizeSpec)

/-- 'copydesklaw19.DeltaParts', WHERE WHAT IT READS IS OF BULK AT MOST 1048576: true; the input reads as it did. -/
def deltaPartsUptoRow : OpenClaim := { program := "ytfdholhfdceedaadoor", sum := "5d24ab9d9c037fb70a9c6e3adfd158150452979b42ea07211c1326b59f2038f7", func := "copydesk/copydesklaw19.DeltaParts", spec := "deltaParts", inPlace := ["internal/abi.NoEscape", "internal/reflectlite.TypeOf"], unfollowed := true, recurses := true, named := ["copydesk/wire.shifts", "copydesk/delta.errWire", "copydesk/delta.errDelta"], apart := false, laid := [("copydesk/wire.shifts", laid_copydesk_wire_shifts), ("copydesk/delta.errWire", laid_copydesk_delta_errWire), ("copydesk/delta.errDelta", laid_copydesk_delta_errDelta)], narrowed := true }
def DeltaPartsUptoSaid : Prop := deltaPartsUptoRow.holds Tryd.pinned (OpenSpec.upto deltaPartsSpec)

end Rows
end Go.Proofs.YtfdholhfdceedaaDoor
