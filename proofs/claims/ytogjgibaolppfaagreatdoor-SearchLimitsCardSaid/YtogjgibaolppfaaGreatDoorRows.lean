/-
  NARROWER THAN 'FOR EVERY INPUT', by the rows' own cells (each row's printed sentence says how): SearchMatchesReference: laid · SearchRunMatchesReference: laid · SearchRoundTrip: laid · SearchPartition: laid · SearchOrder: laid · SearchTop: laid · SearchIndependent: laid · SearchSuggests: laid · SearchLimits: laid.
  DERIVED. THE GIVEN ROWS OF THIS SEAT. 9 by the template 'for every input the law returns true; each argument reads behind the call as it read before'; 0 by the template 'total and deterministic' (their statements: YtogjgibaolppfaaGreatDoorTotals.lean).
  GIVEN WITH THE SEED: the statements are not yours to turn. If you find one false, say at which input.
  Laid BY PROGRAM, IN A SANDBOX (cutbox-rows.mjs): the forced cells as the released guide's own fill.sh prints them over the translation 60cf0929dee7da49… (all of the seat's roots in one cut). By AI agents, Wed Nov 11 2026. No macro, syntax, notation, axiom, sorry.
-/
import Derived.Test.YtogjgibaolppfaaGreatDoorChecked
import GoSem.PinnedTables
import GoSem.Claim
import GoSem.ClaimJoined
import GoSem.ClaimMapViews
import Derived.JoinedTies
import Derived.KernelRfl
namespace Go.Proofs.YtogjgibaolppfaaGreatDoor
/- THE CELL 'sum', in the pinned program and in every row, IS THE sha256 OF THE DUMP (.gsa) THAT YtogjgibaolppfaaGreatDoorProg.lean LOADS. Nothing in Lean hashes anything: it is a label: what it is worth is what the hold of that sum in a sandbox is worth. -/
noncomputable def Tryz.pinned : Pinned := { name := "ytogjgibaolppfaagreatdoor", sum := "60cf0929dee7da492635579fa71b74c2adda6eb03302673aeb9b543982c30858", checked := Tryz.checked }
namespace Rows
def none {H : Type} : Left H := { results := [], args := [] }

/- WHAT THE LISTED PACKAGE-LEVEL VARIABLES READ AS WHEN THE CALL BEGINS. Each datum BY PROGRAM (the guide's laid-datum.mjs) off the statement by which the dump's own 'gosem.cut.vars' lays the variable. In a bare row this is a premise. The card (YtogjgibaolppfaaGreatDoorCards.lean) ties it to the program's text. -/
def laid_unicode_utf8_acceptRanges {H : Type} : DataW H := .agg [.agg [.lit (.int .u8 128), .lit (.int .u8 191)], .agg [.lit (.int .u8 160), .lit (.int .u8 191)], .agg [.lit (.int .u8 128), .lit (.int .u8 159)], .agg [.lit (.int .u8 144), .lit (.int .u8 191)], .agg [.lit (.int .u8 128), .lit (.int .u8 143)], .agg [.lit (.int .u8 0), .lit (.int .u8 0)], .agg [.lit (.int .u8 0), .lit (.int .u8 0)], .agg [.lit (.int .u8 0), .lit (.int .u8 0)], .agg [.lit (.int .u8 0), .lit (.int .u8 0)], .agg [.lit (.int .u8 0), .lit (.int .u8 0)], .agg [.lit (.int .u8 0), .lit (.int .u8 0)], .agg [.lit (.int .u8 0), .lit (.int .u8 0)], .agg [.lit (.int .u8 0), .lit (.int .u8 0)], .agg [.lit (.int .u8 0), .lit (.int .u8 0)], .agg [.lit (.int .u8 0), .lit (.int .u8 0)], .agg [.lit (.int .u8 0), .lit (.int .u8 0)]]
/-- One of Go's own tables, pinned by name: the form's constant. -/
def laid_unicode_CaseRanges : DataW Unit := Go.Pinned.caseRanges
/-- One of Go's own tables, pinned by name: the form's constant. -/
def laid_unicode_utf8_first : DataW Unit := Go.Pinned.utf8First

/-- 'copydesklaw18.SearchMatchesReference': WHATEVER THE INPUT: true; the input reads as it did. -/
def searchMatchesReferenceSpec : ChangeSpec := { name := "searchMatchesReference", fn := fun _ => fun
  | [d1, d2, d3] => { results := [.lit (.bool true)], args := [d1, d2, d3] }
  | _ => none }
def searchMatchesReferenceRow : OpenClaim := { program := "ytogjgibaolppfaagreatdoor", sum := "60cf0929dee7da492635579fa71b74c2adda6eb03302673aeb9b543982c30858", func := "copydesk/copydesklaw18.SearchMatchesReference", spec := "searchMatchesReference", inPlace := ["internal/bytealg.IndexByteString", "internal/bytealg.IndexString", "internal/abi.NoEscape", "internal/bytealg.MakeNoZero"], unfollowed := true, recurses := true, named := ["unicode/utf8.first", "unicode/utf8.acceptRanges", "internal/bytealg.MaxLen", "unicode.CaseRanges"], apart := false, laid := [("unicode/utf8.acceptRanges", laid_unicode_utf8_acceptRanges), ("unicode.CaseRanges", laid_unicode_CaseRanges), ("unicode/utf8.first", laid_unicode_utf8_first)] }
def SearchMatchesReferenceSaid : Prop := searchMatchesReferenceRow.holds Tryz.pinned (OpenSpec.ofChange searchMatchesReferenceSpec)

/-- ITS FALSE NEIGHBOUR: 'it returns false'. Refute it at one input. -/
def searchMatchesReferenceWrong : ChangeSpec := { name := "searchMatchesReference", fn := fun _ => fun
  | [d1, d2, d3] => { results := [.lit (.bool false)], args := [d1, d2, d3] }
  | _ => none }
def SearchMatchesReferenceWrongFalsely : Prop := searchMatchesReferenceRow.holds Tryz.pinned (OpenSpec.ofChange searchMatchesReferenceWrong)

/-- 'copydesklaw18.SearchRunMatchesReference': WHATEVER THE INPUT: true; the input reads as it did. -/
def searchRunMatchesReferenceSpec : ChangeSpec := { name := "searchRunMatchesReference", fn := fun _ => fun
  | [d1, d2, d3] => { results := [.lit (.bool true)], args := [d1, d2, d3] }
  | _ => none }
def searchRunMatchesReferenceRow : OpenClaim := { program := "ytogjgibaolppfaagreatdoor", sum := "60cf0929dee7da492635579fa71b74c2adda6eb03302673aeb9b543982c30858", func := "copydesk/copydesklaw18.SearchRunMatchesReference", spec := "searchRunMatchesReference", inPlace := ["internal/bytealg.IndexByteString", "internal/bytealg.IndexString", "internal/abi.NoEscape", "internal/bytealg.MakeNoZero"], unfollowed := true, recurses := true, named := ["unicode/utf8.first", "unicode/utf8.acceptRanges", "internal/bytealg.MaxLen", "unicode.CaseRanges"], apart := false, laid := [("unicode/utf8.acceptRanges", laid_unicode_utf8_acceptRanges), ("unicode.CaseRanges", laid_unicode_CaseRanges), ("unicode/utf8.first", laid_unicode_utf8_first)] }
def SearchRunMatchesReferenceSaid : Prop := searchRunMatchesReferenceRow.holds Tryz.pinned (OpenSpec.ofChange searchRunMatchesReferenceSpec)

/-- ITS FALSE NEIGHBOUR: 'it returns false'. Refute it at one input. -/
def searchRunMatchesReferenceWrong : ChangeSpec := { name := "searchRunMatchesReference", fn := fun _ => fun
  | [d1, d2, d3] => { results := [.lit (.bool false)], args := [d1, d2, d3] }
  | _ => none }
def SearchRunMatchesReferenceWrongFalsely : Prop := searchRunMatchesReferenceRow.holds Tryz.pinned (OpenSpec.ofChange searchRunMatchesReferenceWrong)

/-- 'copydesklaw18.SearchRoundTrip': WHATEVER THE INPUT: true; the input reads as it did. -/
def searchRoundTripSpec : ChangeSpec := { name := "searchRoundTrip", fn := fun _ => fun
  | [d1, d2] => { results := [.lit (.bool true)], args := [d1, d2] }
  | _ => none }
def searchRoundTripRow : OpenClaim := { program := "ytogjgibaolppfaagreatdoor", sum := "60cf0929dee7da492635579fa71b74c2adda6eb03302673aeb9b543982c30858", func := "copydesk/copydesklaw18.SearchRoundTrip", spec := "searchRoundTrip", inPlace := ["internal/bytealg.IndexByteString", "internal/bytealg.IndexString", "internal/abi.NoEscape", "internal/bytealg.MakeNoZero"], unfollowed := true, recurses := true, named := ["unicode/utf8.first", "unicode/utf8.acceptRanges", "internal/bytealg.MaxLen", "unicode.CaseRanges"], apart := false, laid := [("unicode/utf8.acceptRanges", laid_unicode_utf8_acceptRanges), ("unicode.CaseRanges", laid_unicode_CaseRanges), ("unicode/utf8.first", laid_unicode_utf8_first)] }
def SearchRoundTripSaid : Prop := searchRoundTripRow.holds Tryz.pinned (OpenSpec.ofChange searchRoundTripSpec)

/-- ITS FALSE NEIGHBOUR: 'it returns false'. Refute it at one input. -/
def searchRoundTripWrong : ChangeSpec := { name := "searchRoundTrip", fn := fun _ => fun
  | [d1, d2] => { results := [.lit (.bool false)], args := [d1, d2] }
  | _ => none }
def SearchRoundTripWrongFalsely : Prop := searchRoundTripRow.holds Tryz.pinned (OpenSpec.ofChange searchRoundTripWrong)

/-- 'copydesklaw18.SearchPartition': WHATEVER THE INPUT: true; the input reads as it did. -/
def searchPartitionSpec : ChangeSpec := { name := "searchPartition", fn := fun _ => fun
  | [d1, d2, d3] => { results := [.lit (.bool true)], args := [d1, d2, d3] }
  | _ => none }
def searchPartitionRow : OpenClaim := { program := "ytogjgibaolppfaagreatdoor", sum := "60cf0929dee7da492635579fa71b74c2adda6eb03302673aeb9b543982c30858", func := "copydesk/copydesklaw18.SearchPartition", spec := "searchPartition", inPlace := ["internal/bytealg.IndexByteString", "internal/bytealg.IndexString", "internal/abi.NoEscape", "internal/bytealg.MakeNoZero"], unfollowed := true, recurses := true, named := ["unicode/utf8.first", "unicode/utf8.acceptRanges", "internal/bytealg.MaxLen", "unicode.CaseRanges"], apart := false, laid := [("unicode/utf8.acceptRanges", laid_unicode_utf8_acceptRanges), ("unicode.CaseRanges", laid_unicode_CaseRanges), ("unicode/utf8.first", laid_unicode_utf8_first)] }
def SearchPartitionSaid : Prop := searchPartitionRow.holds Tryz.pinned (OpenSpec.ofChange searchPartitionSpec)

/-- ITS FALSE NEIGHBOUR: 'it returns false'. Refute it at one input. -/
def searchPartitionWrong : ChangeSpec := { name := "searchPartition", fn := fun _ => fun
  | [d1, d2, d3] => { results := [.lit (.bool false)], args := [d1, d2, d3] }
  | _ => none }
def SearchPartitionWrongFalsely : Prop := searchPartitionRow.holds Tryz.pinned (OpenSpec.ofChange searchPartitionWrong)

/-- 'copydesklaw18.SearchOrder': WHATEVER THE INPUT: true; the input reads as it did. -/
def searchOrderSpec : ChangeSpec := { name := "searchOrder", fn := fun _ => fun
  | [d1, d2, d3] => { results := [.lit (.bool true)], args := [d1, d2, d3] }
  | _ => none }
def searchOrderRow : OpenClaim := { program := "ytogjgibaolppfaagreatdoor", sum := "60cf0929dee7da492635579fa71b74c2adda6eb03302673aeb9b543982c30858", func := "copydesk/copydesklaw18.SearchOrder", spec := "searchOrder", inPlace := ["internal/bytealg.IndexByteString", "internal/bytealg.IndexString", "internal/abi.NoEscape", "internal/bytealg.MakeNoZero"], unfollowed := true, recurses := true, named := ["unicode/utf8.first", "unicode/utf8.acceptRanges", "internal/bytealg.MaxLen", "unicode.CaseRanges"], apart := false, laid := [("unicode/utf8.acceptRanges", laid_unicode_utf8_acceptRanges), ("unicode.CaseRanges", laid_unicode_CaseRanges), ("unicode/utf8.first", laid_unicode_utf8_first)] }
def SearchOrderSaid : Prop := searchOrderRow.holds Tryz.pinned (OpenSpec.ofChange searchOrderSpec)

/-- ITS FALSE NEIGHBOUR: 'it returns false'. Refute it at one input. -/
def searchOrderWrong : ChangeSpec := { name := "searchOrder", fn := fun _ => fun
  | [d1, d2, d3] => { results := [.lit (.bool false)], args := [d1, d2, d3] }
  | _ => none }
def SearchOrderWrongFalsely : Prop := searchOrderRow.holds Tryz.pinned (OpenSpec.ofChange searchOrderWrong)

/-- 'copydesklaw18.SearchTop': WHATEVER THE INPUT: true; the input reads as it did. -/
def searchTopSpec : ChangeSpec := { name := "searchTop", fn := fun _ => fun
  | [d1, d2, d3] => { results := [.lit (.bool true)], args := [d1, d2, d3] }
  | _ => none }
def searchTopRow : OpenClaim := { program := "ytogjgibaolppfaagreatdoor", sum := "60cf0929dee7da492635579fa71b74c2adda6eb03302673aeb9b543982c30858", func := "copydesk/copydesklaw18.SearchTop", spec := "searchTop", inPlace := ["internal/bytealg.IndexByteString", "internal/bytealg.IndexString", "internal/abi.NoEscape", "internal/bytealg.MakeNoZero"], unfollowed := true, recurses := true, named := ["unicode/utf8.first", "unicode/utf8.acceptRanges", "internal/bytealg.MaxLen", "unicode.CaseRanges"], apart := false, laid := [("unicode/utf8.acceptRanges", laid_unicode_utf8_acceptRanges), ("unicode.CaseRanges", laid_unicode_CaseRanges), ("unicode/utf8.first", laid_unicode_utf8_first)] }
def SearchTopSaid : Prop := searchTopRow.holds Tryz.pinned (OpenSpec.ofChange searchTopSpec)

/-- ITS FALSE NEIGHBOUR: 'it returns false'. Refute it at one input. -/
def searchTopWrong : ChangeSpec := { name := "searchTop", fn := fun _ => fun
  | [d1, d2, d3] => { results := [.lit (.bool false)], args := [d1, d2, d3] }
  | _ => none }
def SearchTopWrongFalsely : Prop := searchTopRow.holds Tryz.pinned (OpenSpec.ofChange searchTopWrong)

/-- 'copydesklaw18.SearchIndependent': WHATEVER THE INPUT: true; the input reads as it did. -/
def searchIndependentSpec : ChangeSpec := { name := "searchIndependent", fn := fun _ => fun
  | [d1, d2, d3] => { results := [.lit (.bool true)], args := [d1, d2, d3] }
  | _ => none }
def searchIndependentRow : OpenClaim := { program := "ytogjgibaolppfaagreatdoor", sum := "60cf0929dee7da492635579fa71b74c2adda6eb03302673aeb9b543982c30858", func := "copydesk/copydesklaw18.SearchIndependent", spec := "searchIndependent", inPlace := ["internal/bytealg.IndexByteString", "internal/bytealg.IndexString", "internal/abi.NoEscape", "internal/bytealg.MakeNoZero"], unfollowed := true, recurses := true, named := ["unicode/utf8.first", "unicode/utf8.acceptRanges", "internal/bytealg.MaxLen", "unicode.CaseRanges"], apart := false, laid := [("unicode/utf8.acceptRanges", laid_unicode_utf8_acceptRanges), ("unicode.CaseRanges", laid_unicode_CaseRanges), ("unicode/utf8.first", laid_unicode_utf8_first)] }
def SearchIndependentSaid : Prop := searchIndependentRow.holds Tryz.pinned (OpenSpec.ofChange searchIndependentSpec)

/-- ITS FALSE NEIGHBOUR: 'it returns false'. Refute it at one input. -/
def searchIndependentWrong : ChangeSpec := { name := "searchIndependent", fn := fun _ => fun
  | [d1, d2, d3] => { results := [.lit (.bool false)], args := [d1, d2, d3] }
  | _ => none }
def SearchIndependentWrongFalsely : Prop := searchIndependentRow.holds Tryz.pinned (OpenSpec.ofChange searchIndependentWrong)

/-- 'copydesklaw18.SearchSuggests': WHATEVER THE INPUT: true; the input reads as it did. -/
def searchSuggestsSpec : ChangeSpec := { name := "searchSuggests", fn := fun _ => fun
  | [d1, d2, d3] => { results := [.lit (.bool true)], args := [d1, d2, d3] }
  | _ => none }
def searchSuggestsRow : OpenClaim := { program := "ytogjgibaolppfaagreatdoor", sum := "60cf0929dee7da492635579fa71b74c2adda6eb03302673aeb9b543982c30858", func := "copydesk/copydesklaw18.SearchSuggests", spec := "searchSuggests", inPlace := ["internal/bytealg.IndexByteString", "internal/bytealg.IndexString", "internal/abi.NoEscape", "internal/bytealg.MakeNoZero"], unfollowed := true, recurses := true, named := ["unicode/utf8.first", "unicode/utf8.acceptRanges", "internal/bytealg.MaxLen", "unicode.CaseRanges"], apart := false, laid := [("unicode/utf8.acceptRanges", laid_unicode_utf8_acceptRanges), ("unicode.CaseRanges", laid_unicode_CaseRanges), ("unicode/utf8.first", laid_unicode_utf8_first)] }
def SearchSuggestsSaid : Prop := searchSuggestsRow.holds Tryz.pinned (OpenSpec.ofChange searchSuggestsSpec)

/-- ITS FALSE NEIGHBOUR: 'it returns false'. Refute it at one input. -/
def searchSuggestsWrong : ChangeSpec := { name := "searchSuggests", fn := fun _ => fun
  | [d1, d2, d3] => { results := [.lit (.bool false)], args := [d1, d2, d3] }
  | _ => none }
def SearchSuggestsWrongFalsely : Prop := searchSuggestsRow.holds Tryz.pinned (OpenSpec.ofChange searchSuggestsWrong)

/-- 'copydesklaw18.SearchLimits': WHATEVER THE INPUT: true; the input reads as it did. -/
def searchLimitsSpec : ChangeSpec := { name := "searchLimits", fn := fun _ => fun
  | [d] => { results := [.lit (.bool true)], args := [d] }
  | _ => none }
def searchLimitsRow : OpenClaim := { program := "ytogjgibaolppfaagreatdoor", sum := "60cf0929dee7da492635579fa71b74c2adda6eb03302673aeb9b543982c30858", func := "copydesk/copydesklaw18.SearchLimits", spec := "searchLimits", inPlace := ["internal/bytealg.IndexByteString", "internal/bytealg.IndexString", "internal/abi.NoEscape", "internal/bytealg.MakeNoZero"], unfollowed := true, recurses := true, named := ["unicode/utf8.first", "unicode/utf8.acceptRanges", "internal/bytealg.MaxLen", "unicode.CaseRanges"], apart := false, laid := [("unicode/utf8.acceptRanges", laid_unicode_utf8_acceptRanges), ("unicode.CaseRanges", laid_unicode_CaseRanges), ("unicode/utf8.first", laid_unicode_utf8_first)] }
def SearchLimitsSaid : Prop := searchLimitsRow.holds Tryz.pinned (OpenSpec.ofChange searchLimitsSpec)

/-- ITS FALSE NEIGHBOUR: 'it returns false'. Refute it at one input. -/
def searchLimitsWrong : ChangeSpec := { name := "searchLimits", fn := fun _ => fun
  | [d] => { results := [.lit (.bool false)], args := [d] }
  | _ => none }
def SearchLimitsWrongFalsely : Prop := searchLimitsRow.holds Tryz.pinned (OpenSpec.ofChange searchLimitsWrong)

/- THE SECOND FORM. 'bulk': how many values and letters a reading holds, each counted each time it is reached (what is shared counts as often as it is met; a slice's spare places count too). A statement '..UptoSaid' is the law's where the arguments, and the package variables that the reading takes, are together of bulk at most 1048576: NARROWER than '..Said'. Prove '..Said' where nothing that the law and all that it calls make is longer than what came in: it says more and counts as full. Else prove '..UptoSaid'. A law counts once. -/
mutual
def uptoBulk {H : Type} : DataW H → Nat
  | .lit (.string bytes) => bytes.length + 1
  | .lit _ => 1
  | .nil => 1
  | .ptr d => uptoBulk d + 1
  | .slice elems spare => uptoBulkAll elems + uptoBulkAll spare + 1
  | .agg parts => uptoBulkAll parts + 1
  | .iface _ d => uptoBulk d + 1
  | .map entries => uptoBulkEntries entries + 1
  | .held _ => 1
def uptoBulkAll {H : Type} : List (DataW H) → Nat
  | [] => 0
  | d :: r => uptoBulk d + uptoBulkAll r
def uptoBulkEntries {H : Type} : List (Lit × DataW H) → Nat
  | [] => 0
  | x :: r => uptoBulkEntry x + uptoBulkEntries r
def uptoBulkEntry {H : Type} : Lit × DataW H → Nat
  | (.string bytes, d) => bytes.length + uptoBulk d + 1
  | (_, d) => uptoBulk d + 1
 end
def uptoSmall : (H : Type) → List (DataW H) → Bool := fun _ ds => decide (uptoBulkAll ds ≤ 1048576)
def OpenSpec.upto (s : _root_.Go.ChangeSpec) : _root_.Go.OpenSpec := { _root_.Go.OpenSpec.ofChange s with cond := some uptoSmall }

/-- 'copydesklaw18.SearchMatchesReference', WHERE WHAT IT READS IS OF BULK AT MOST 1048576: true; the input reads as it did. -/
def searchMatchesReferenceUptoRow : OpenClaim := { program := "ytogjgibaolppfaagreatdoor", sum := "60cf0929dee7da492635579fa71b74c2adda6eb03302673aeb9b543982c30858", func := "copydesk/copydesklaw18.SearchMatchesReference", spec := "searchMatchesReference", inPlace := ["internal/bytealg.IndexByteString", "internal/bytealg.IndexString", "internal/abi.NoEscape", "internal/bytealg.MakeNoZero"], unfollowed := true, recurses := true, named := ["unicode/utf8.first", "unicode/utf8.acceptRanges", "internal/bytealg.MaxLen", "unicode.CaseRanges"], apart := false, laid := [("unicode/utf8.acceptRanges", laid_unicode_utf8_acceptRanges), ("unicode.CaseRanges", laid_unicode_CaseRanges), ("unicode/utf8.first", laid_unicode_utf8_first)], narrowed := true }
def SearchMatchesReferenceUptoSaid : Prop := searchMatchesReferenceUptoRow.holds Tryz.pinned (OpenSpec.upto searchMatchesReferenceSpec)

/-- 'copydesklaw18.SearchRunMatchesReference', WHERE WHAT IT READS IS OF BULK AT MOST 1048576: true; the input reads as it did. -/
def searchRunMatchesReferenceUptoRow : OpenClaim := { program := "ytogjgibaolppfaagreatdoor", sum := "60cf0929dee7da492635579fa71b74c2adda6eb03302673aeb9b543982c30858", func := "copydesk/copydesklaw18.SearchRunMatchesReference", spec := "searchRunMatchesReference", inPlace := ["internal/bytealg.IndexByteString", "internal/bytealg.IndexString", "internal/abi.NoEscape", "internal/bytealg.MakeNoZero"], unfollowed := true, recurses := true, named := ["unicode/utf8.first", "unicode/utf8.acceptRanges", "internal/bytealg.MaxLen", "unicode.CaseRanges"], apart := false, laid := [("unicode/utf8.acceptRanges", laid_unicode_utf8_acceptRanges), ("unicode.CaseRanges", laid_unicode_CaseRanges), ("unicode/utf8.first", laid_unicode_utf8_first)], narrowed := true }
def SearchRunMatchesReferenceUptoSaid : Prop := searchRunMatchesReferenceUptoRow.holds Tryz.pinned (OpenSpec.upto searchRunMatchesReferenceSpec)

/-- 'copydesklaw18.SearchRoundTrip', WHERE WHAT IT READS IS OF BULK AT MOST 1048576: true; the input reads as it did. -/
def searchRoundTripUptoRow : OpenClaim := { program := "ytogjgibaolppfaagreatdoor", sum := "60cf0929dee7da492635579fa71b74c2adda6eb03302673aeb9b543982c30858", func := "copydesk/copydesklaw18.SearchRoundTrip", spec := "searchRoundTrip", inPlace := ["internal/bytealg.IndexByteString", "internal/bytealg.IndexString", "internal/abi.NoEscape", "internal/bytealg.MakeNoZero"], unfollowed := true, recurses := true, named := ["unicode/utf8.first", "unicode/utf8.acceptRanges", "internal/bytealg.MaxLen", "unicode.CaseRanges"], apart := false, laid := [("unicode/utf8.acceptRanges", laid_unicode_utf8_acceptRanges), ("unicode.CaseRanges", laid_unicode_CaseRanges), ("unicode/utf8.first", laid_unicode_utf8_first)], narrowed := true }
def SearchRoundTripUptoSaid : Prop := searchRoundTripUptoRow.holds Tryz.pinned (OpenSpec.upto searchRoundTripSpec)

/-- 'copydesklaw18.SearchPartition', WHERE WHAT IT READS IS OF BULK AT MOST 1048576: true; the input reads as it did. -/
def searchPartitionUptoRow : OpenClaim := { program := "ytogjgibaolppfaagreatdoor", sum := "60cf0929dee7da492635579fa71b74c2adda6eb03302673aeb9b543982c30858", func := "copydesk/copydesklaw18.SearchPartition", spec := "searchPartition", inPlace := ["internal/bytealg.IndexByteString", "internal/bytealg.IndexString", "internal/abi.NoEscape", "internal/bytealg.MakeNoZero"], unfollowed := true, recurses := true, named := ["unicode/utf8.first", "unicode/utf8.acceptRanges", "internal/bytealg.MaxLen", "unicode.CaseRanges"], apart := false, laid := [("unicode/utf8.acceptRanges", laid_unicode_utf8_acceptRanges), ("unicode.CaseRanges", laid_unicode_CaseRanges), ("unicode/utf8.first", laid_unicode_utf8_first)], narrowed := true }
def SearchPartitionUptoSaid : Prop := searchPartitionUptoRow.holds Tryz.pinned (OpenSpec.upto searchPartitionSpec)

/-- 'copydesklaw18.SearchOrder', WHERE WHAT IT READS IS OF BULK AT MOST 1048576: true; the input reads as it did. -/
def searchOrderUptoRow : OpenClaim := { program := "ytogjgibaolppfaagreatdoor", sum := "60cf0929dee7da492635579fa71b74c2adda6eb03302673aeb9b543982c30858", func := "copydesk/copydesklaw18.SearchOrder", spec := "searchOrder", inPlace := ["internal/bytealg.IndexByteString", "internal/bytealg.IndexString", "internal/abi.NoEscape", "internal/bytealg.MakeNoZero"], unfollowed := true, recurses := true, named := ["unicode/utf8.first", "unicode/utf8.acceptRanges", "internal/bytealg.MaxLen", "unicode.CaseRanges"], apart := false, laid := [("unicode/utf8.acceptRanges", laid_unicode_utf8_acceptRanges), ("unicode.CaseRanges", laid_unicode_CaseRanges), ("unicode/utf8.first", laid_unicode_utf8_first)], narrowed := true }
def SearchOrderUptoSaid : Prop := searchOrderUptoRow.holds Tryz.pinned (OpenSpec.upto searchOrderSpec)

/-- 'copydesklaw18.SearchTop', WHERE WHAT IT READS IS OF BULK AT MOST 1048576: true; the input reads as it did. -/
def searchTopUptoRow : OpenClaim := { program := "ytogjgibaolppfaagreatdoor", sum := "60cf0929dee7da492635579fa71b74c2adda6eb03302673aeb9b543982c30858", func := "copydesk/copydesklaw18.SearchTop", spec := "searchTop", inPlace := ["internal/bytealg.IndexByteString", "internal/bytealg.IndexString", "internal/abi.NoEscape", "internal/bytealg.MakeNoZero"], unfollowed := true, recurses := true, named := ["unicode/utf8.first", "unicode/utf8.acceptRanges", "internal/bytealg.MaxLen", "unicode.CaseRanges"], apart := false, laid := [("unicode/utf8.acceptRanges", laid_unicode_utf8_acceptRanges), ("unicode.CaseRanges", laid_unicode_CaseRanges), ("unicode/utf8.first", laid_unicode_utf8_first)], narrowed := true }
def SearchTopUptoSaid : Prop := searchTopUptoRow.holds Tryz.pinned (OpenSpec.upto searchTopSpec)

/-- 'copydesklaw18.SearchIndependent', WHERE WHAT IT READS IS OF BULK AT MOST 1048576: true; the input reads as it did. -/
def searchIndependentUptoRow : OpenClaim := { program := "ytogjgibaolppfaagreatdoor", sum := "60cf0929dee7da492635579fa71b74c2adda6eb03302673aeb9b543982c30858", func := "copydesk/copydesklaw18.SearchIndependent", spec := "searchIndependent", inPlace := ["internal/bytealg.IndexByteString", "internal/bytealg.IndexString", "internal/abi.NoEscape", "internal/bytealg.MakeNoZero"], unfollowed := true, recurses := true, named := ["unicode/utf8.first", "unicode/utf8.acceptRanges", "internal/bytealg.MaxLen", "unicode.CaseRanges"], apart := false, laid := [("unicode/utf8.acceptRanges", laid_unicode_utf8_acceptRanges), ("unicode.CaseRanges", laid_unicode_CaseRanges), ("unicode/utf8.first", laid_unicode_utf8_first)], narrowed := true }
def SearchIndependentUptoSaid : Prop := searchIndependentUptoRow.holds Tryz.pinned (OpenSpec.upto searchIndependentSpec)

/-- 'copydesklaw18.SearchSuggests', WHERE WHAT IT READS IS OF BULK AT MOST 1048576: true; the input reads as it did. -/
def searchSuggestsUptoRow : OpenClaim := { program := "ytogjgibaolppfaagreatdoor", sum := "60cf0929dee7da492635579fa71b74c2adda6eb03302673aeb9b543982c30858", func := "copydesk/copydesklaw18.SearchSuggests", spec := "searchSuggests", inPlace := ["internal/bytealg.IndexByteString", "internal/bytealg.IndexString", "internal/abi.NoEscape", "internal/bytealg.MakeNoZero"], unfollowed := true, recurses := true, named := ["unicode/utf8.first", "unicode/utf8.acceptRanges", "internal/bytealg.MaxLen", "unicode.CaseRanges"], apart := false, laid := [("unicode/utf8.acceptRanges", laid_unicode_utf8_acceptRanges), ("unicode.CaseRanges", laid_unicode_CaseRanges), ("unicode/utf8.first", laid_unicode_utf8_first)], narrowed := true }
def SearchSuggestsUptoSaid : Prop := searchSuggestsUptoRow.holds Tryz.pinned (OpenSpec.upto searchSuggestsSpec)

/-- 'copydesklaw18.SearchLimits', WHERE WHAT IT READS IS OF BULK AT MOST 1048576: true; the input reads as it did. -/
def searchLimitsUptoRow : OpenClaim := { program := "ytogjgibaolppfaagreatdoor", sum := "60cf0929dee7da492635579fa71b74c2adda6eb03302673aeb9b543982c30858", func := "copydesk/copydesklaw18.SearchLimits", spec := "searchLimits", inPlace := ["internal/bytealg.IndexByteString", "internal/bytealg.IndexString", "internal/abi.NoEscape", "internal/bytealg.MakeNoZero"], unfollowed := true, recurses := true, named := ["unicode/utf8.first", "unicode/utf8.acceptRanges", "internal/bytealg.MaxLen", "unicode.CaseRanges"], apart := false, laid := [("unicode/utf8.acceptRanges", laid_unicode_utf8_acceptRanges), ("unicode.CaseRanges", laid_unicode_CaseRanges), ("unicode/utf8.first", laid_unicode_utf8_first)], narrowed := true }
def SearchLimitsUptoSaid : Prop := searchLimitsUptoRow.holds Tryz.pinned (OpenSpec.upto searchLimitsSpec)

end Rows
end Go.Proofs.YtogjgibaolppfaaGreatDoor
