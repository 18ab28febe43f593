/-
  NARROWER THAN 'FOR EVERY INPUT', by the rows' own cells (each row's printed sentence says how): MovesList: loops · MovesParts: loops · MovesTurn: loops · MovesNone: loops.
  DERIVED. THE GIVEN ROWS OF THIS SEAT. 6 by the template 'for every input the law returns true; each argument reads behind the call as it read before'; 0 by the template 'total and deterministic' (their statements: YtgjhagehbfhioaaTotals.lean).
  GIVEN WITH THE SEED: the statements are not yours to turn. If you find one false, say at which input.
  Laid BY PROGRAM, IN A SANDBOX (cutbox-rows.mjs): the forced cells as the released guide's own fill.sh prints them over the translation 84f355d1aaa77c4e… (all of the seat's roots in one cut). By AI agents, Wed Nov 11 2026. No macro, syntax, notation, axiom, sorry.
-/
import Derived.Test.YtgjhagehbfhioaaChecked
import GoSem.Claim
import GoSem.ClaimJoined
import GoSem.ClaimMapViews
import Derived.JoinedTies
import Derived.KernelRfl
namespace Go.Proofs.Ytgjhagehbfhioaa
/- THE CELL 'sum', in the pinned program and in every row, IS THE sha256 OF THE DUMP (.gsa) THAT YtgjhagehbfhioaaProg.lean LOADS. Nothing in Lean hashes anything: it is a label: what it is worth is what the hold of that sum in a sandbox is worth. -/
noncomputable def Try.pinned : Pinned := { name := "ytgjhagehbfhioaa", sum := "84f355d1aaa77c4e828035de3cd9a29c34ae87076ab379759b3435b0b1f32fec", checked := Try.checked }
namespace Rows
def none {H : Type} : Left H := { results := [], args := [] }

/-- 'treemergelaw27.MovesList': WHATEVER THE INPUT: true; the input reads as it did. -/
def movesListSpec : ChangeSpec := { name := "movesList", fn := fun _ => fun
  | [d1, d2, d3] => { results := [.lit (.bool true)], args := [d1, d2, d3] }
  | _ => none }
def movesListRow : OpenClaim := { program := "ytgjhagehbfhioaa", sum := "84f355d1aaa77c4e828035de3cd9a29c34ae87076ab379759b3435b0b1f32fec", func := "treemerge/treemergelaw27.MovesList", spec := "movesList", unfollowed := true, recurses := true, loops := true, apart := false }
def MovesListSaid : Prop := movesListRow.holds Try.pinned (OpenSpec.ofChange movesListSpec)

/-- ITS FALSE NEIGHBOUR: 'it returns false'. Refute it at one input. -/
def movesListWrong : ChangeSpec := { name := "movesList", fn := fun _ => fun
  | [d1, d2, d3] => { results := [.lit (.bool false)], args := [d1, d2, d3] }
  | _ => none }
def MovesListWrongFalsely : Prop := movesListRow.holds Try.pinned (OpenSpec.ofChange movesListWrong)

/-- 'treemergelaw27.MovesNumbers': WHATEVER THE INPUT: true; the input reads as it did. -/
def movesNumbersSpec : ChangeSpec := { name := "movesNumbers", fn := fun _ => fun
  | [d] => { results := [.lit (.bool true)], args := [d] }
  | _ => none }
def movesNumbersRow : OpenClaim := { program := "ytgjhagehbfhioaa", sum := "84f355d1aaa77c4e828035de3cd9a29c34ae87076ab379759b3435b0b1f32fec", func := "treemerge/treemergelaw27.MovesNumbers", spec := "movesNumbers", unfollowed := true, recurses := true, apart := false }
def MovesNumbersSaid : Prop := movesNumbersRow.holds Try.pinned (OpenSpec.ofChange movesNumbersSpec)

/-- ITS FALSE NEIGHBOUR: 'it returns false'. Refute it at one input. -/
def movesNumbersWrong : ChangeSpec := { name := "movesNumbers", fn := fun _ => fun
  | [d] => { results := [.lit (.bool false)], args := [d] }
  | _ => none }
def MovesNumbersWrongFalsely : Prop := movesNumbersRow.holds Try.pinned (OpenSpec.ofChange movesNumbersWrong)

/-- 'treemergelaw27.MovesLeast': WHATEVER THE INPUT: true; the input reads as it did. -/
def movesLeastSpec : ChangeSpec := { name := "movesLeast", fn := fun _ => fun
  | [d] => { results := [.lit (.bool true)], args := [d] }
  | _ => none }
def movesLeastRow : OpenClaim := { program := "ytgjhagehbfhioaa", sum := "84f355d1aaa77c4e828035de3cd9a29c34ae87076ab379759b3435b0b1f32fec", func := "treemerge/treemergelaw27.MovesLeast", spec := "movesLeast", unfollowed := true, recurses := true, apart := false }
def MovesLeastSaid : Prop := movesLeastRow.holds Try.pinned (OpenSpec.ofChange movesLeastSpec)

/-- ITS FALSE NEIGHBOUR: 'it returns false'. Refute it at one input. -/
def movesLeastWrong : ChangeSpec := { name := "movesLeast", fn := fun _ => fun
  | [d] => { results := [.lit (.bool false)], args := [d] }
  | _ => none }
def MovesLeastWrongFalsely : Prop := movesLeastRow.holds Try.pinned (OpenSpec.ofChange movesLeastWrong)

/-- 'treemergelaw27.MovesParts': WHATEVER THE INPUT: true; the input reads as it did. -/
def movesPartsSpec : ChangeSpec := { name := "movesParts", fn := fun _ => fun
  | [d1, d2, d3] => { results := [.lit (.bool true)], args := [d1, d2, d3] }
  | _ => none }
def movesPartsRow : OpenClaim := { program := "ytgjhagehbfhioaa", sum := "84f355d1aaa77c4e828035de3cd9a29c34ae87076ab379759b3435b0b1f32fec", func := "treemerge/treemergelaw27.MovesParts", spec := "movesParts", unfollowed := true, recurses := true, loops := true, apart := false }
def MovesPartsSaid : Prop := movesPartsRow.holds Try.pinned (OpenSpec.ofChange movesPartsSpec)

/-- ITS FALSE NEIGHBOUR: 'it returns false'. Refute it at one input. -/
def movesPartsWrong : ChangeSpec := { name := "movesParts", fn := fun _ => fun
  | [d1, d2, d3] => { results := [.lit (.bool false)], args := [d1, d2, d3] }
  | _ => none }
def MovesPartsWrongFalsely : Prop := movesPartsRow.holds Try.pinned (OpenSpec.ofChange movesPartsWrong)

/-- 'treemergelaw27.MovesTurn': WHATEVER THE INPUT: true; the input reads as it did. -/
def movesTurnSpec : ChangeSpec := { name := "movesTurn", fn := fun _ => fun
  | [d1, d2, d3] => { results := [.lit (.bool true)], args := [d1, d2, d3] }
  | _ => none }
def movesTurnRow : OpenClaim := { program := "ytgjhagehbfhioaa", sum := "84f355d1aaa77c4e828035de3cd9a29c34ae87076ab379759b3435b0b1f32fec", func := "treemerge/treemergelaw27.MovesTurn", spec := "movesTurn", unfollowed := true, recurses := true, loops := true, apart := false }
def MovesTurnSaid : Prop := movesTurnRow.holds Try.pinned (OpenSpec.ofChange movesTurnSpec)

/-- ITS FALSE NEIGHBOUR: 'it returns false'. Refute it at one input. -/
def movesTurnWrong : ChangeSpec := { name := "movesTurn", fn := fun _ => fun
  | [d1, d2, d3] => { results := [.lit (.bool false)], args := [d1, d2, d3] }
  | _ => none }
def MovesTurnWrongFalsely : Prop := movesTurnRow.holds Try.pinned (OpenSpec.ofChange movesTurnWrong)

/-- 'treemergelaw27.MovesNone': WHATEVER THE INPUT: true; the input reads as it did. -/
def movesNoneSpec : ChangeSpec := { name := "movesNone", fn := fun _ => fun
  | [d] => { results := [.lit (.bool true)], args := [d] }
  | _ => none }
def movesNoneRow : OpenClaim := { program := "ytgjhagehbfhioaa", sum := "84f355d1aaa77c4e828035de3cd9a29c34ae87076ab379759b3435b0b1f32fec", func := "treemerge/treemergelaw27.MovesNone", spec := "movesNone", unfollowed := true, recurses := true, loops := true, apart := false }
def MovesNoneSaid : Prop := movesNoneRow.holds Try.pinned (OpenSpec.ofChange movesNoneSpec)

/-- ITS FALSE NEIGHBOUR: 'it returns false'. Refute it at one input. -/
def movesNoneWrong : ChangeSpec := { name := "movesNone", fn := fun _ => fun
  | [d] => { results := [.lit (.bool false)], args := [d] }
  | _ => none }
def MovesNoneWrongFalsely : Prop := movesNoneRow.holds Try.pinned (OpenSpec.ofChange movesNoneWrong)

/- THE SECOND FORM. 'bulk': how many values and letters a reading holds, each counted each time it is reached (what is shared counts as often as it is met; a slice's spare places count too). A statement '..UptoSaid' is the law's where the arguments, and the package variables that the reading takes, are together of bulk at most 1048576: NARROWER than '..Said'. Prove '..Said' where nothing that the law and all that it calls make is longer than what came in: it says more and counts as full. Else prove '..UptoSaid'. A law counts once. -/
mutual
def uptoBulk {H : Type} : DataW H → Nat
  | .lit (.string bytes) => bytes.length + 1
  | .lit _ => 1
  | .nil => 1
  | .ptr d => uptoBulk d + 1
  | .slice elems spare => uptoBulkAll elems + uptoBulkAll spare + 1
  | .agg parts => uptoBulkAll parts + 1
  | .iface _ d => uptoBulk d + 1
  | .map entries => uptoBulkEntries entries + 1
  | .held _ => 1
def uptoBulkAll {H : Type} : List (DataW H) → Nat
  | [] => 0
  | d :: r => uptoBulk d + uptoBulkAll r
def uptoBulkEntries {H : Type} : List (Lit × DataW H) → Nat
  | [] => 0
  | x :: r => uptoBulkEntry x + uptoBulkEntries r
def uptoBulkEntry {H : Type} : Lit × DataW H → Nat
  | (.string bytes, d) => bytes.length + uptoBulk d + 1
  | (_, d) => uptoBulk d + 1
 end
def uptoSmall : (H : Type) → List (DataW H) → Bool := fun _ ds => decide (uptoBulkAll ds ≤ 1048576)
def OpenSpec.upto (s : _root_.Go.ChangeSpec) : _root_.Go.OpenSpec := { _root_.Go.OpenSpec.ofChange s with cond := some uptoSmall }

/-- 'treemergelaw27.MovesList', WHERE WHAT IT READS IS OF BULK AT MOST 1048576: true; the input reads as it did. -/
def movesListUptoRow : OpenClaim := { program := "ytgjhagehbfhioaa", sum := "84f355d1aaa77c4e828035de3cd9a29c34ae87076ab379759b3435b0b1f32fec", func := "treemerge/treemergelaw27.MovesList", spec := "movesList", unfollowed := true, recurses := true, loops := true, apart := false, narrowed := true }
def MovesListUptoSaid : Prop := movesListUptoRow.holds Try.pinned (OpenSpec.upto movesListSpec)

/-- 'treemergelaw27.MovesNumbers', WHERE WHAT IT READS IS OF BULK AT MOST 1048576: true; the input reads as it did. -/
def movesNumbersUptoRow : OpenClaim := { program := "ytgjhagehbfhioaa", sum := "84f355d1aaa77c4e828035de3cd9a29c34ae87076ab379759b3435b0b1f32fec", func := "treemerge/treemergelaw27.MovesNumbers", spec := "movesNumbers", unfollowed := true, recurses := true, apart := false, narrowed := true }
def MovesNumbersUptoSaid : Prop := movesNumbersUptoRow.holds Try.pinned (OpenSpec.upto movesNumbersSpec)

/-- 'treemergelaw27.MovesLeast', WHERE WHAT IT READS IS OF BULK AT MOST 1048576: true; the input reads as it did. -/
def movesLeastUptoRow : OpenClaim := { program := "ytgjhagehbfhioaa", sum := "84f355d1aaa77c4e828035de3cd9a29c34ae87076ab379759b3435b0b1f32fec", func := "treemerge/treemergelaw27.MovesLeast", spec := "movesLeast", unfollowed := true, recurses := true, apart := false, narrowed := true }
def MovesLeastUptoSaid : Prop := movesLeastUptoRow.holds Try.pinned (OpenSpec.upto movesLeastSpec)

/-- 'treemergelaw27.MovesParts', WHERE WHAT IT READS IS OF BULK AT MOST 1048576: true; the input reads as it did. -/
def movesPartsUptoRow : OpenClaim := { program := "ytgjhagehbfhioaa", sum := "84f355d1aaa77c4e828035de3cd9a29c34ae87076ab379759b3435b0b1f32fec", func := "treemerge/treemergelaw27.MovesParts", spec := "movesParts", unfollowed := true, recurses := true, loops := true, apart := false, narrowed := true }
def MovesPartsUptoSaid : Prop := movesPartsUptoRow.holds Try.pinned (OpenSpec.upto movesPartsSpec)

/-- 'treemergelaw27.MovesTurn', WHERE WHAT IT READS IS OF BULK AT MOST 1048576: true; the input reads as it did. -/
def movesTurnUptoRow : OpenClaim := { program := "ytgjhagehbfhioaa", sum := "84f355d1aaa77c4e828035de3cd9a29c34ae87076ab379759b3435b0b1f32fec", func := "treemerge/treemergelaw27.MovesTurn", spec := "movesTurn", unfollowed := true, recurses := true, loops := true, apart := false, narrowed := true }
def MovesTurnUptoSaid : Prop := movesTurnUptoRow.holds Try.pinned (OpenSpec.upto movesTurnSpec)

/-- 'treemergelaw27.MovesNone', WHERE WHAT IT READS IS OF BULK AT MOST 1048576: true; the input reads as it did. -/
def movesNoneUptoRow : OpenClaim := { program := "ytgjhagehbfhioaa", sum := "84f355d1aaa77c4e828035de3cd9a29c34ae87076ab379759b3435b0b1f32fec", func := "treemerge/treemergelaw27.MovesNone", spec := "movesNone", unfollowed := true, recurses := true, loops := true, apart := false, narrowed := true }
def MovesNoneUptoSaid : Prop := movesNoneUptoRow.holds Try.pinned (OpenSpec.upto movesNoneSpec)

end Rows
end Go.Proofs.Ytgjhagehbfhioaa
