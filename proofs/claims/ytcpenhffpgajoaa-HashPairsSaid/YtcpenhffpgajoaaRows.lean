/-
  NARROWER THAN 'FOR EVERY INPUT', by the rows' own cells (each row's printed sentence says how): HashHashes: loops · HashGroups: loops · HashPairs: loops · HashTwins: loops · HashAgrees: loops · HashParts: loops.
  DERIVED. THE GIVEN ROWS OF THIS SEAT. 6 by the template 'for every input the law returns true; each argument reads behind the call as it read before'; 0 by the template 'total and deterministic' (their statements: YtcpenhffpgajoaaTotals.lean).
  GIVEN WITH THE SEED: the statements are not yours to turn. If you find one false, say at which input.
  Laid BY PROGRAM, IN A SANDBOX (cutbox-rows.mjs): the forced cells as the released guide's own fill.sh prints them over the translation beb25650826a3449… (all of the seat's roots in one cut). By AI agents, Wed Nov 11 2026. No macro, syntax, notation, axiom, sorry.
-/
import Derived.Test.YtcpenhffpgajoaaChecked
import GoSem.Claim
import GoSem.ClaimJoined
import GoSem.ClaimMapViews
import Derived.JoinedTies
import Derived.KernelRfl
namespace Go.Proofs.Ytcpenhffpgajoaa
/- THE CELL 'sum', in the pinned program and in every row, IS THE sha256 OF THE DUMP (.gsa) THAT YtcpenhffpgajoaaProg.lean LOADS. Nothing in Lean hashes anything: it is a label: what it is worth is what the hold of that sum in a sandbox is worth. -/
noncomputable def Try.pinned : Pinned := { name := "ytcpenhffpgajoaa", sum := "beb25650826a34493b6697bec03fd3dc7c9e85119d2bd0ba3ebb30a371c31bec", checked := Try.checked }
namespace Rows
def none {H : Type} : Left H := { results := [], args := [] }

/-- 'treemergelaw18.HashHashes': WHATEVER THE INPUT: true; the input reads as it did. -/
def hashHashesSpec : ChangeSpec := { name := "hashHashes", fn := fun _ => fun
  | [d] => { results := [.lit (.bool true)], args := [d] }
  | _ => none }
def hashHashesRow : OpenClaim := { program := "ytcpenhffpgajoaa", sum := "beb25650826a34493b6697bec03fd3dc7c9e85119d2bd0ba3ebb30a371c31bec", func := "treemerge/treemergelaw18.HashHashes", spec := "hashHashes", inPlace := ["internal/reflectlite.ValueOf", "internal/reflectlite.Swapper", "(internal/reflectlite.Value).Len"], unfollowed := true, recurses := true, loops := true, apart := false }
def HashHashesSaid : Prop := hashHashesRow.holds Try.pinned (OpenSpec.ofChange hashHashesSpec)

/-- ITS FALSE NEIGHBOUR: 'it returns false'. Refute it at one input. -/
def hashHashesWrong : ChangeSpec := { name := "hashHashes", fn := fun _ => fun
  | [d] => { results := [.lit (.bool false)], args := [d] }
  | _ => none }
def HashHashesWrongFalsely : Prop := hashHashesRow.holds Try.pinned (OpenSpec.ofChange hashHashesWrong)

/-- 'treemergelaw18.HashGroups': WHATEVER THE INPUT: true; the input reads as it did. -/
def hashGroupsSpec : ChangeSpec := { name := "hashGroups", fn := fun _ => fun
  | [d] => { results := [.lit (.bool true)], args := [d] }
  | _ => none }
def hashGroupsRow : OpenClaim := { program := "ytcpenhffpgajoaa", sum := "beb25650826a34493b6697bec03fd3dc7c9e85119d2bd0ba3ebb30a371c31bec", func := "treemerge/treemergelaw18.HashGroups", spec := "hashGroups", inPlace := ["internal/reflectlite.ValueOf", "internal/reflectlite.Swapper", "(internal/reflectlite.Value).Len"], unfollowed := true, recurses := true, loops := true, apart := false }
def HashGroupsSaid : Prop := hashGroupsRow.holds Try.pinned (OpenSpec.ofChange hashGroupsSpec)

/-- ITS FALSE NEIGHBOUR: 'it returns false'. Refute it at one input. -/
def hashGroupsWrong : ChangeSpec := { name := "hashGroups", fn := fun _ => fun
  | [d] => { results := [.lit (.bool false)], args := [d] }
  | _ => none }
def HashGroupsWrongFalsely : Prop := hashGroupsRow.holds Try.pinned (OpenSpec.ofChange hashGroupsWrong)

/-- 'treemergelaw18.HashPairs': WHATEVER THE INPUT: true; the input reads as it did. -/
def hashPairsSpec : ChangeSpec := { name := "hashPairs", fn := fun _ => fun
  | [d1, d2] => { results := [.lit (.bool true)], args := [d1, d2] }
  | _ => none }
def hashPairsRow : OpenClaim := { program := "ytcpenhffpgajoaa", sum := "beb25650826a34493b6697bec03fd3dc7c9e85119d2bd0ba3ebb30a371c31bec", func := "treemerge/treemergelaw18.HashPairs", spec := "hashPairs", inPlace := ["internal/reflectlite.ValueOf", "internal/reflectlite.Swapper", "(internal/reflectlite.Value).Len"], unfollowed := true, recurses := true, loops := true, apart := false }
def HashPairsSaid : Prop := hashPairsRow.holds Try.pinned (OpenSpec.ofChange hashPairsSpec)

/-- ITS FALSE NEIGHBOUR: 'it returns false'. Refute it at one input. -/
def hashPairsWrong : ChangeSpec := { name := "hashPairs", fn := fun _ => fun
  | [d1, d2] => { results := [.lit (.bool false)], args := [d1, d2] }
  | _ => none }
def HashPairsWrongFalsely : Prop := hashPairsRow.holds Try.pinned (OpenSpec.ofChange hashPairsWrong)

/-- 'treemergelaw18.HashTwins': WHATEVER THE INPUT: true; the input reads as it did. -/
def hashTwinsSpec : ChangeSpec := { name := "hashTwins", fn := fun _ => fun
  | [d1, d2] => { results := [.lit (.bool true)], args := [d1, d2] }
  | _ => none }
def hashTwinsRow : OpenClaim := { program := "ytcpenhffpgajoaa", sum := "beb25650826a34493b6697bec03fd3dc7c9e85119d2bd0ba3ebb30a371c31bec", func := "treemerge/treemergelaw18.HashTwins", spec := "hashTwins", inPlace := ["internal/reflectlite.ValueOf", "internal/reflectlite.Swapper", "(internal/reflectlite.Value).Len"], unfollowed := true, recurses := true, loops := true, apart := false }
def HashTwinsSaid : Prop := hashTwinsRow.holds Try.pinned (OpenSpec.ofChange hashTwinsSpec)

/-- ITS FALSE NEIGHBOUR: 'it returns false'. Refute it at one input. -/
def hashTwinsWrong : ChangeSpec := { name := "hashTwins", fn := fun _ => fun
  | [d1, d2] => { results := [.lit (.bool false)], args := [d1, d2] }
  | _ => none }
def HashTwinsWrongFalsely : Prop := hashTwinsRow.holds Try.pinned (OpenSpec.ofChange hashTwinsWrong)

/-- 'treemergelaw18.HashAgrees': WHATEVER THE INPUT: true; the input reads as it did. -/
def hashAgreesSpec : ChangeSpec := { name := "hashAgrees", fn := fun _ => fun
  | [d1, d2, d3, d4] => { results := [.lit (.bool true)], args := [d1, d2, d3, d4] }
  | _ => none }
def hashAgreesRow : OpenClaim := { program := "ytcpenhffpgajoaa", sum := "beb25650826a34493b6697bec03fd3dc7c9e85119d2bd0ba3ebb30a371c31bec", func := "treemerge/treemergelaw18.HashAgrees", spec := "hashAgrees", inPlace := ["internal/reflectlite.ValueOf", "internal/reflectlite.Swapper", "(internal/reflectlite.Value).Len"], unfollowed := true, recurses := true, loops := true, apart := false }
def HashAgreesSaid : Prop := hashAgreesRow.holds Try.pinned (OpenSpec.ofChange hashAgreesSpec)

/-- ITS FALSE NEIGHBOUR: 'it returns false'. Refute it at one input. -/
def hashAgreesWrong : ChangeSpec := { name := "hashAgrees", fn := fun _ => fun
  | [d1, d2, d3, d4] => { results := [.lit (.bool false)], args := [d1, d2, d3, d4] }
  | _ => none }
def HashAgreesWrongFalsely : Prop := hashAgreesRow.holds Try.pinned (OpenSpec.ofChange hashAgreesWrong)

/-- 'treemergelaw18.HashParts': WHATEVER THE INPUT: true; the input reads as it did. -/
def hashPartsSpec : ChangeSpec := { name := "hashParts", fn := fun _ => fun
  | [d] => { results := [.lit (.bool true)], args := [d] }
  | _ => none }
def hashPartsRow : OpenClaim := { program := "ytcpenhffpgajoaa", sum := "beb25650826a34493b6697bec03fd3dc7c9e85119d2bd0ba3ebb30a371c31bec", func := "treemerge/treemergelaw18.HashParts", spec := "hashParts", inPlace := ["internal/reflectlite.ValueOf", "internal/reflectlite.Swapper", "(internal/reflectlite.Value).Len"], unfollowed := true, recurses := true, loops := true, apart := false }
def HashPartsSaid : Prop := hashPartsRow.holds Try.pinned (OpenSpec.ofChange hashPartsSpec)

/-- ITS FALSE NEIGHBOUR: 'it returns false'. Refute it at one input. -/
def hashPartsWrong : ChangeSpec := { name := "hashParts", fn := fun _ => fun
  | [d] => { results := [.lit (.bool false)], args := [d] }
  | _ => none }
def HashPartsWrongFalsely : Prop := hashPartsRow.holds Try.pinned (OpenSpec.ofChange hashPartsWrong)

/- THE SECOND FORM. 'bulk': how many values and letters a reading holds, each counted each time it is reached (what is shared counts as often as it is met; a slice's spare places count too). A statement '..UptoSaid' is the law's where the arguments, and the package variables that the reading takes, are together of bulk at most 1048576: NARROWER than '..Said'. Prove '..Said' where nothing that the law and all that it calls make is longer than what came in: it says more and counts as full. Else prove '..UptoSaid'. A law counts once. -/
mutual
def uptoBulk {H : Type} : DataW H → Nat
  | .lit (.string bytes) => bytes.length + 1
  | .lit _ => 1
  | .nil => 1
  | .ptr d => uptoBulk d + 1
  | .slice elems spare => uptoBulkAll elems + uptoBulkAll spare + 1
  | .agg parts => uptoBulkAll parts + 1
  | .iface _ d => uptoBulk d + 1
  | .map entries => uptoBulkEntries entries + 1
  | .held _ => 1
def uptoBulkAll {H : Type} : List (DataW H) → Nat
  | [] => 0
  | d :: r => uptoBulk d + uptoBulkAll r
def uptoBulkEntries {H : Type} : List (Lit × DataW H) → Nat
  | [] => 0
  | x :: r => uptoBulkEntry x + uptoBulkEntries r
def uptoBulkEntry {H : Type} : Lit × DataW H → Nat
  | (.string bytes, d) => bytes.length + uptoBulk d + 1
  | (_, d) => uptoBulk d + 1
 end
def uptoSmall : (H : Type) → List (DataW H) → Bool := fun _ ds => decide (uptoBulkAll ds ≤ 1048576)
def OpenSpec.upto (s : _root_.Go.ChangeSpec) : _root_.Go.OpenSpec := { _root_.Go.OpenSpec.ofChange s with cond := some uptoSmall }

/-- 'treemergelaw18.HashHashes', WHERE WHAT IT READS IS OF BULK AT MOST 1048576: true; the input reads as it did. -/
def hashHashesUptoRow : OpenClaim := { program := "ytcpenhffpgajoaa", sum := "beb25650826a34493b6697bec03fd3dc7c9e85119d2bd0ba3ebb30a371c31bec", func := "treemerge/treemergelaw18.HashHashes", spec := "hashHashes", inPlace := ["internal/reflectlite.ValueOf", "internal/reflectlite.Swapper", "(internal/reflectlite.Value).Len"], unfollowed := true, recurses := true, loops := true, apart := false, narrowed := true }
def HashHashesUptoSaid : Prop := hashHashesUptoRow.holds Try.pinned (OpenSpec.upto hashHashesSpec)

/-- 'treemergelaw18.HashGroups', WHERE WHAT IT READS IS OF BULK AT MOST 1048576: true; the input reads as it did. -/
def hashGroupsUptoRow : OpenClaim := { program := "ytcpenhffpgajoaa", sum := "beb25650826a34493b6697bec03fd3dc7c9e85119d2bd0ba3ebb30a371c31bec", func := "treemerge/treemergelaw18.HashGroups", spec := "hashGroups", inPlace := ["internal/reflectlite.ValueOf", "internal/reflectlite.Swapper", "(internal/reflectlite.Value).Len"], unfollowed := true, recurses := true, loops := true, apart := false, narrowed := true }
def HashGroupsUptoSaid : Prop := hashGroupsUptoRow.holds Try.pinned (OpenSpec.upto hashGroupsSpec)

/-- 'treemergelaw18.HashPairs', WHERE WHAT IT READS IS OF BULK AT MOST 1048576: true; the input reads as it did. -/
def hashPairsUptoRow : OpenClaim := { program := "ytcpenhffpgajoaa", sum := "beb25650826a34493b6697bec03fd3dc7c9e85119d2bd0ba3ebb30a371c31bec", func := "treemerge/treemergelaw18.HashPairs", spec := "hashPairs", inPlace := ["internal/reflectlite.ValueOf", "internal/reflectlite.Swapper", "(internal/reflectlite.Value).Len"], unfollowed := true, recurses := true, loops := true, apart := false, narrowed := true }
def HashPairsUptoSaid : Prop := hashPairsUptoRow.holds Try.pinned (OpenSpec.upto hashPairsSpec)

/-- 'treemergelaw18.HashTwins', WHERE WHAT IT READS IS OF BULK AT MOST 1048576: true; the input reads as it did. -/
def hashTwinsUptoRow : OpenClaim := { program := "ytcpenhffpgajoaa", sum := "beb25650826a34493b6697bec03fd3dc7c9e85119d2bd0ba3ebb30a371c31bec", func := "treemerge/treemergelaw18.HashTwins", spec := "hashTwins", inPlace := ["internal/reflectlite.ValueOf", "internal/reflectlite.Swapper", "(internal/reflectlite.Value).Len"], unfollowed := true, recurses := true, loops := true, apart := false, narrowed := true }
def HashTwinsUptoSaid : Prop := hashTwinsUptoRow.holds Try.pinned (OpenSpec.upto hashTwinsSpec)

/-- 'treemergelaw18.HashAgrees', WHERE WHAT IT READS IS OF BULK AT MOST 1048576: true; the input reads as it did. -/
def hashAgreesUptoRow : OpenClaim := { program := "ytcpenhffpgajoaa", sum := "beb25650826a34493b6697bec03fd3dc7c9e85119d2bd0ba3ebb30a371c31bec", func := "treemerge/treemergelaw18.HashAgrees", spec := "hashAgrees", inPlace := ["internal/reflectlite.ValueOf", "internal/reflectlite.Swapper", "(internal/reflectlite.Value).Len"], unfollowed := true, recurses := true, loops := true, apart := false, narrowed := true }
def HashAgreesUptoSaid : Prop := hashAgreesUptoRow.holds Try.pinned (OpenSpec.upto hashAgreesSpec)

/-- 'treemergelaw18.HashParts', WHERE WHAT IT READS IS OF BULK AT MOST 1048576: true; the input reads as it did. -/
def hashPartsUptoRow : OpenClaim := { program := "ytcpenhffpgajoaa", sum := "beb25650826a34493b6697bec03fd3dc7c9e85119d2bd0ba3ebb30a371c31bec", func := "treemerge/treemergelaw18.HashParts", spec := "hashParts", inPlace := ["internal/reflectlite.ValueOf", "internal/reflectlite.Swapper", "(internal/reflectlite.Value).Len"], unfollowed := true, recurses := true, loops := true, apart := false, narrowed := true }
def HashPartsUptoSaid : Prop := hashPartsUptoRow.holds Try.pinned (OpenSpec.upto hashPartsSpec)

end Rows
end Go.Proofs.Ytcpenhffpgajoaa
