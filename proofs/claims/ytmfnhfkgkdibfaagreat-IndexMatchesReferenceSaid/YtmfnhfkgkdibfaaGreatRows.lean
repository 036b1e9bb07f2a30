/-
  No cell of these rows narrows 'for every input' (looked for: loops, veiled, ifaces, maps, wideKeys, modest, calm, conditions, laid).
  DERIVED. THE GIVEN ROWS OF THIS SEAT. 7 by the template 'for every input the law returns true; each argument reads behind the call as it read before'; 0 by the template 'total and deterministic' (their statements: YtmfnhfkgkdibfaaGreatTotals.lean).
  GIVEN WITH THE SEED: the statements are not yours to turn. If you find one false, say at which input.
  Laid BY PROGRAM, IN A SANDBOX (cutbox-rows.mjs): the forced cells as the released guide's own fill.sh prints them over the translation 8ceb081cea3f604e… (all of the seat's roots in one cut). By AI agents, Wed Nov 11 2026. No macro, syntax, notation, axiom, sorry.
-/
import Derived.Test.YtmfnhfkgkdibfaaGreatChecked
import GoSem.Claim
import GoSem.ClaimJoined
import GoSem.ClaimMapViews
import Derived.JoinedTies
import Derived.KernelRfl
namespace Go.Proofs.YtmfnhfkgkdibfaaGreat
/- THE CELL 'sum', in the pinned program and in every row, IS THE sha256 OF THE DUMP (.gsa) THAT YtmfnhfkgkdibfaaGreatProg.lean LOADS. Nothing in Lean hashes anything: it is a label: what it is worth is what the hold of that sum in a sandbox is worth. -/
noncomputable def Tryz.pinned : Pinned := { name := "ytmfnhfkgkdibfaagreat", sum := "8ceb081cea3f604e894793d2c03e782f08b6f6fc77f8f9dbf8ce42cdcbc18e9e", checked := Tryz.checked }
namespace Rows
def none {H : Type} : Left H := { results := [], args := [] }

/-- 'copydesklaw17.IndexMatchesReference': WHATEVER THE INPUT: true; the input reads as it did. -/
def indexMatchesReferenceSpec : ChangeSpec := { name := "indexMatchesReference", fn := fun _ => fun
  | [d1, d2, d3] => { results := [.lit (.bool true)], args := [d1, d2, d3] }
  | _ => none }
def indexMatchesReferenceRow : OpenClaim := { program := "ytmfnhfkgkdibfaagreat", sum := "8ceb081cea3f604e894793d2c03e782f08b6f6fc77f8f9dbf8ce42cdcbc18e9e", func := "copydesk/copydesklaw17.IndexMatchesReference", spec := "indexMatchesReference", unfollowed := true, recurses := true, apart := false }
def IndexMatchesReferenceSaid : Prop := indexMatchesReferenceRow.holds Tryz.pinned (OpenSpec.ofChange indexMatchesReferenceSpec)

/-- ITS FALSE NEIGHBOUR: 'it returns false'. Refute it at one input. -/
def indexMatchesReferenceWrong : ChangeSpec := { name := "indexMatchesReference", fn := fun _ => fun
  | [d1, d2, d3] => { results := [.lit (.bool false)], args := [d1, d2, d3] }
  | _ => none }
def IndexMatchesReferenceWrongFalsely : Prop := indexMatchesReferenceRow.holds Tryz.pinned (OpenSpec.ofChange indexMatchesReferenceWrong)

/-- 'copydesklaw17.IndexCanonical': WHATEVER THE INPUT: true; the input reads as it did. -/
def indexCanonicalSpec : ChangeSpec := { name := "indexCanonical", fn := fun _ => fun
  | [d1, d2, d3] => { results := [.lit (.bool true)], args := [d1, d2, d3] }
  | _ => none }
def indexCanonicalRow : OpenClaim := { program := "ytmfnhfkgkdibfaagreat", sum := "8ceb081cea3f604e894793d2c03e782f08b6f6fc77f8f9dbf8ce42cdcbc18e9e", func := "copydesk/copydesklaw17.IndexCanonical", spec := "indexCanonical", unfollowed := true, recurses := true, apart := false }
def IndexCanonicalSaid : Prop := indexCanonicalRow.holds Tryz.pinned (OpenSpec.ofChange indexCanonicalSpec)

/-- ITS FALSE NEIGHBOUR: 'it returns false'. Refute it at one input. -/
def indexCanonicalWrong : ChangeSpec := { name := "indexCanonical", fn := fun _ => fun
  | [d1, d2, d3] => { results := [.lit (.bool false)], args := [d1, d2, d3] }
  | _ => none }
def IndexCanonicalWrongFalsely : Prop := indexCanonicalRow.holds Tryz.pinned (OpenSpec.ofChange indexCanonicalWrong)

/-- 'copydesklaw17.IndexIndependent': WHATEVER THE INPUT: true; the input reads as it did. -/
def indexIndependentSpec : ChangeSpec := { name := "indexIndependent", fn := fun _ => fun
  | [d1, d2] => { results := [.lit (.bool true)], args := [d1, d2] }
  | _ => none }
def indexIndependentRow : OpenClaim := { program := "ytmfnhfkgkdibfaagreat", sum := "8ceb081cea3f604e894793d2c03e782f08b6f6fc77f8f9dbf8ce42cdcbc18e9e", func := "copydesk/copydesklaw17.IndexIndependent", spec := "indexIndependent", unfollowed := true, recurses := true, apart := false }
def IndexIndependentSaid : Prop := indexIndependentRow.holds Tryz.pinned (OpenSpec.ofChange indexIndependentSpec)

/-- ITS FALSE NEIGHBOUR: 'it returns false'. Refute it at one input. -/
def indexIndependentWrong : ChangeSpec := { name := "indexIndependent", fn := fun _ => fun
  | [d1, d2] => { results := [.lit (.bool false)], args := [d1, d2] }
  | _ => none }
def IndexIndependentWrongFalsely : Prop := indexIndependentRow.holds Tryz.pinned (OpenSpec.ofChange indexIndependentWrong)

/-- 'copydesklaw17.IndexCounts': WHATEVER THE INPUT: true; the input reads as it did. -/
def indexCountsSpec : ChangeSpec := { name := "indexCounts", fn := fun _ => fun
  | [d1, d2] => { results := [.lit (.bool true)], args := [d1, d2] }
  | _ => none }
def indexCountsRow : OpenClaim := { program := "ytmfnhfkgkdibfaagreat", sum := "8ceb081cea3f604e894793d2c03e782f08b6f6fc77f8f9dbf8ce42cdcbc18e9e", func := "copydesk/copydesklaw17.IndexCounts", spec := "indexCounts", unfollowed := true, recurses := true, apart := false }
def IndexCountsSaid : Prop := indexCountsRow.holds Tryz.pinned (OpenSpec.ofChange indexCountsSpec)

/-- ITS FALSE NEIGHBOUR: 'it returns false'. Refute it at one input. -/
def indexCountsWrong : ChangeSpec := { name := "indexCounts", fn := fun _ => fun
  | [d1, d2] => { results := [.lit (.bool false)], args := [d1, d2] }
  | _ => none }
def IndexCountsWrongFalsely : Prop := indexCountsRow.holds Tryz.pinned (OpenSpec.ofChange indexCountsWrong)

/-- 'copydesklaw17.IndexPrefixes': WHATEVER THE INPUT: true; the input reads as it did. -/
def indexPrefixesSpec : ChangeSpec := { name := "indexPrefixes", fn := fun _ => fun
  | [d1, d2] => { results := [.lit (.bool true)], args := [d1, d2] }
  | _ => none }
def indexPrefixesRow : OpenClaim := { program := "ytmfnhfkgkdibfaagreat", sum := "8ceb081cea3f604e894793d2c03e782f08b6f6fc77f8f9dbf8ce42cdcbc18e9e", func := "copydesk/copydesklaw17.IndexPrefixes", spec := "indexPrefixes", unfollowed := true, recurses := true, apart := false }
def IndexPrefixesSaid : Prop := indexPrefixesRow.holds Tryz.pinned (OpenSpec.ofChange indexPrefixesSpec)

/-- ITS FALSE NEIGHBOUR: 'it returns false'. Refute it at one input. -/
def indexPrefixesWrong : ChangeSpec := { name := "indexPrefixes", fn := fun _ => fun
  | [d1, d2] => { results := [.lit (.bool false)], args := [d1, d2] }
  | _ => none }
def IndexPrefixesWrongFalsely : Prop := indexPrefixesRow.holds Tryz.pinned (OpenSpec.ofChange indexPrefixesWrong)

/-- 'copydesklaw17.IndexTermOrder': WHATEVER THE INPUT: true; the input reads as it did. -/
def indexTermOrderSpec : ChangeSpec := { name := "indexTermOrder", fn := fun _ => fun
  | [d1, d2, d3] => { results := [.lit (.bool true)], args := [d1, d2, d3] }
  | _ => none }
def indexTermOrderRow : OpenClaim := { program := "ytmfnhfkgkdibfaagreat", sum := "8ceb081cea3f604e894793d2c03e782f08b6f6fc77f8f9dbf8ce42cdcbc18e9e", func := "copydesk/copydesklaw17.IndexTermOrder", spec := "indexTermOrder", unfollowed := true, recurses := true, apart := false }
def IndexTermOrderSaid : Prop := indexTermOrderRow.holds Tryz.pinned (OpenSpec.ofChange indexTermOrderSpec)

/-- ITS FALSE NEIGHBOUR: 'it returns false'. Refute it at one input. -/
def indexTermOrderWrong : ChangeSpec := { name := "indexTermOrder", fn := fun _ => fun
  | [d1, d2, d3] => { results := [.lit (.bool false)], args := [d1, d2, d3] }
  | _ => none }
def IndexTermOrderWrongFalsely : Prop := indexTermOrderRow.holds Tryz.pinned (OpenSpec.ofChange indexTermOrderWrong)

/-- 'copydesklaw17.IndexRefused': WHATEVER THE INPUT: true; the input reads as it did. -/
def indexRefusedSpec : ChangeSpec := { name := "indexRefused", fn := fun _ => fun
  | [d1, d2, d3, d4] => { results := [.lit (.bool true)], args := [d1, d2, d3, d4] }
  | _ => none }
def indexRefusedRow : OpenClaim := { program := "ytmfnhfkgkdibfaagreat", sum := "8ceb081cea3f604e894793d2c03e782f08b6f6fc77f8f9dbf8ce42cdcbc18e9e", func := "copydesk/copydesklaw17.IndexRefused", spec := "indexRefused", unfollowed := true, recurses := true, apart := false }
def IndexRefusedSaid : Prop := indexRefusedRow.holds Tryz.pinned (OpenSpec.ofChange indexRefusedSpec)

/-- ITS FALSE NEIGHBOUR: 'it returns false'. Refute it at one input. -/
def indexRefusedWrong : ChangeSpec := { name := "indexRefused", fn := fun _ => fun
  | [d1, d2, d3, d4] => { results := [.lit (.bool false)], args := [d1, d2, d3, d4] }
  | _ => none }
def IndexRefusedWrongFalsely : Prop := indexRefusedRow.holds Tryz.pinned (OpenSpec.ofChange indexRefusedWrong)

/- THE SECOND FORM. 'bulk': how many values and letters a reading holds, each counted each time it is reached (what is shared counts as often as it is met; a slice's spare places count too). A statement '..UptoSaid' is the law's where the arguments, and the package variables that the reading takes, are together of bulk at most 1048576: NARROWER than '..Said'. Prove '..Said' where nothing that the law and all that it calls make is longer than what came in: it says more and counts as full. Else prove '..UptoSaid'. A law counts once. -/
mutual
def uptoBulk {H : Type} : DataW H → Nat
  | .lit (.string bytes) => bytes.length + 1
  | .lit _ => 1
  | .nil => 1
  | .ptr d => uptoBulk d + 1
  | .slice elems spare => uptoBulkAll elems + uptoBulkAll spare + 1
  | .agg parts => uptoBulkAll parts + 1
  | .iface _ d => uptoBulk d + 1
  | .map entries => uptoBulkEntries entries + 1
  | .held _ => 1
def uptoBulkAll {H : Type} : List (DataW H) → Nat
  | [] => 0
  | d :: r => uptoBulk d + uptoBulkAll r
def uptoBulkEntries {H : Type} : List (Lit × DataW H) → Nat
  | [] => 0
  | x :: r => uptoBulkEntry x + uptoBulkEntries r
def uptoBulkEntry {H : Type} : Lit × DataW H → Nat
  | (.string bytes, d) => bytes.length + uptoBulk d + 1
  | (_, d) => uptoBulk d + 1
 end
def uptoSmall : (H : Type) → List (DataW H) → Bool := fun _ ds => decide (uptoBulkAll ds ≤ 1048576)
def OpenSpec.upto (s : _root_.Go.ChangeSpec) : _root_.Go.OpenSpec := { _root_.Go.OpenSpec.ofChange s with cond := some uptoSmall }

/-- 'copydesklaw17.IndexMatchesReference', WHERE WHAT IT READS IS OF BULK AT MOST 1048576: true; the input reads as it did. -/
def indexMatchesReferenceUptoRow : OpenClaim := { program := "ytmfnhfkgkdibfaagreat", sum := "8ceb081cea3f604e894793d2c03e782f08b6f6fc77f8f9dbf8ce42cdcbc18e9e", func := "copydesk/copydesklaw17.IndexMatchesReference", spec := "indexMatchesReference", unfollowed := true, recurses := true, apart := false, narrowed := true }
def IndexMatchesReferenceUptoSaid : Prop := indexMatchesReferenceUptoRow.holds Tryz.pinned (OpenSpec.upto indexMatchesReferenceSpec)

/-- 'copydesklaw17.IndexCanonical', WHERE WHAT IT READS IS OF BULK AT MOST 1048576: true; the input reads as it did. -/
def indexCanonicalUptoRow : OpenClaim := { program := "ytmfnhfkgkdibfaagreat", sum := "8ceb081cea3f604e894793d2c03e782f08b6f6fc77f8f9dbf8ce42cdcbc18e9e", func := "copydesk/copydesklaw17.IndexCanonical", spec := "indexCanonical", unfollowed := true, recurses := true, apart := false, narrowed := true }
def IndexCanonicalUptoSaid : Prop := indexCanonicalUptoRow.holds Tryz.pinned (OpenSpec.upto indexCanonicalSpec)

/-- 'copydesklaw17.IndexIndependent', WHERE WHAT IT READS IS OF BULK AT MOST 1048576: true; the input reads as it did. -/
def indexIndependentUptoRow : OpenClaim := { program := "ytmfnhfkgkdibfaagreat", sum := "8ceb081cea3f604e894793d2c03e782f08b6f6fc77f8f9dbf8ce42cdcbc18e9e", func := "copydesk/copydesklaw17.IndexIndependent", spec := "indexIndependent", unfollowed := true, recurses := true, apart := false, narrowed := true }
def IndexIndependentUptoSaid : Prop := indexIndependentUptoRow.holds Tryz.pinned (OpenSpec.upto indexIndependentSpec)

/-- 'copydesklaw17.IndexCounts', WHERE WHAT IT READS IS OF BULK AT MOST 1048576: true; the input reads as it did. -/
def indexCountsUptoRow : OpenClaim := { program := "ytmfnhfkgkdibfaagreat", sum := "8ceb081cea3f604e894793d2c03e782f08b6f6fc77f8f9dbf8ce42cdcbc18e9e", func := "copydesk/copydesklaw17.IndexCounts", spec := "indexCounts", unfollowed := true, recurses := true, apart := false, narrowed := true }
def IndexCountsUptoSaid : Prop := indexCountsUptoRow.holds Tryz.pinned (OpenSpec.upto indexCountsSpec)

/-- 'copydesklaw17.IndexPrefixes', WHERE WHAT IT READS IS OF BULK AT MOST 1048576: true; the input reads as it did. -/
def indexPrefixesUptoRow : OpenClaim := { program := "ytmfnhfkgkdibfaagreat", sum := "8ceb081cea3f604e894793d2c03e782f08b6f6fc77f8f9dbf8ce42cdcbc18e9e", func := "copydesk/copydesklaw17.IndexPrefixes", spec := "indexPrefixes", unfollowed := true, recurses := true, apart := false, narrowed := true }
def IndexPrefixesUptoSaid : Prop := indexPrefixesUptoRow.holds Tryz.pinned (OpenSpec.upto indexPrefixesSpec)

/-- 'copydesklaw17.IndexTermOrder', WHERE WHAT IT READS IS OF BULK AT MOST 1048576: true; the input reads as it did. -/
def indexTermOrderUptoRow : OpenClaim := { program := "ytmfnhfkgkdibfaagreat", sum := "8ceb081cea3f604e894793d2c03e782f08b6f6fc77f8f9dbf8ce42cdcbc18e9e", func := "copydesk/copydesklaw17.IndexTermOrder", spec := "indexTermOrder", unfollowed := true, recurses := true, apart := false, narrowed := true }
def IndexTermOrderUptoSaid : Prop := indexTermOrderUptoRow.holds Tryz.pinned (OpenSpec.upto indexTermOrderSpec)

/-- 'copydesklaw17.IndexRefused', WHERE WHAT IT READS IS OF BULK AT MOST 1048576: true; the input reads as it did. -/
def indexRefusedUptoRow : OpenClaim := { program := "ytmfnhfkgkdibfaagreat", sum := "8ceb081cea3f604e894793d2c03e782f08b6f6fc77f8f9dbf8ce42cdcbc18e9e", func := "copydesk/copydesklaw17.IndexRefused", spec := "indexRefused", unfollowed := true, recurses := true, apart := false, narrowed := true }
def IndexRefusedUptoSaid : Prop := indexRefusedUptoRow.holds Tryz.pinned (OpenSpec.upto indexRefusedSpec)

end Rows
end Go.Proofs.YtmfnhfkgkdibfaaGreat
