/-
  NARROWER THAN 'FOR EVERY INPUT', by the rows' own cells (each row's printed sentence says how): SimilarScores: loops · SimilarMatches: loops · SimilarExtends: loops · SimilarTurns: loops · SimilarSelf: loops.
  DERIVED. THE GIVEN ROWS OF THIS SEAT. 5 by the template 'for every input the law returns true; each argument reads behind the call as it read before'; 0 by the template 'total and deterministic' (their statements: YtddfehcpbgfmfaaTotals.lean).
  GIVEN WITH THE SEED: the statements are not yours to turn. If you find one false, say at which input.
  Laid BY PROGRAM, IN A SANDBOX (cutbox-rows.mjs): the forced cells as the released guide's own fill.sh prints them over the translation 636bcec0cbbbdb4c… (all of the seat's roots in one cut). By AI agents, Wed Nov 11 2026. No macro, syntax, notation, axiom, sorry.
-/
import Derived.Test.YtddfehcpbgfmfaaChecked
import GoSem.Claim
import GoSem.ClaimJoined
import GoSem.ClaimMapViews
import Derived.JoinedTies
import Derived.KernelRfl
namespace Go.Proofs.Ytddfehcpbgfmfaa
/- THE CELL 'sum', in the pinned program and in every row, IS THE sha256 OF THE DUMP (.gsa) THAT YtddfehcpbgfmfaaProg.lean LOADS. Nothing in Lean hashes anything: it is a label: what it is worth is what the hold of that sum in a sandbox is worth. -/
noncomputable def Try.pinned : Pinned := { name := "ytddfehcpbgfmfaa", sum := "636bcec0cbbbdb4c7d357d922e6c1d4cfad3685cf5bcd38e6126c335828a4362", checked := Try.checked }
namespace Rows
def none {H : Type} : Left H := { results := [], args := [] }

/-- 'treemergelaw22.SimilarScores': WHATEVER THE INPUT: true; the input reads as it did. -/
def similarScoresSpec : ChangeSpec := { name := "similarScores", fn := fun _ => fun
  | [d1, d2, d3, d4, d5] => { results := [.lit (.bool true)], args := [d1, d2, d3, d4, d5] }
  | _ => none }
def similarScoresRow : OpenClaim := { program := "ytddfehcpbgfmfaa", sum := "636bcec0cbbbdb4c7d357d922e6c1d4cfad3685cf5bcd38e6126c335828a4362", func := "treemerge/treemergelaw22.SimilarScores", spec := "similarScores", unfollowed := true, recurses := true, loops := true, apart := false }
def SimilarScoresSaid : Prop := similarScoresRow.holds Try.pinned (OpenSpec.ofChange similarScoresSpec)

/-- ITS FALSE NEIGHBOUR: 'it returns false'. Refute it at one input. -/
def similarScoresWrong : ChangeSpec := { name := "similarScores", fn := fun _ => fun
  | [d1, d2, d3, d4, d5] => { results := [.lit (.bool false)], args := [d1, d2, d3, d4, d5] }
  | _ => none }
def SimilarScoresWrongFalsely : Prop := similarScoresRow.holds Try.pinned (OpenSpec.ofChange similarScoresWrong)

/-- 'treemergelaw22.SimilarMatches': WHATEVER THE INPUT: true; the input reads as it did. -/
def similarMatchesSpec : ChangeSpec := { name := "similarMatches", fn := fun _ => fun
  | [d1, d2, d3] => { results := [.lit (.bool true)], args := [d1, d2, d3] }
  | _ => none }
def similarMatchesRow : OpenClaim := { program := "ytddfehcpbgfmfaa", sum := "636bcec0cbbbdb4c7d357d922e6c1d4cfad3685cf5bcd38e6126c335828a4362", func := "treemerge/treemergelaw22.SimilarMatches", spec := "similarMatches", unfollowed := true, recurses := true, loops := true, apart := false }
def SimilarMatchesSaid : Prop := similarMatchesRow.holds Try.pinned (OpenSpec.ofChange similarMatchesSpec)

/-- ITS FALSE NEIGHBOUR: 'it returns false'. Refute it at one input. -/
def similarMatchesWrong : ChangeSpec := { name := "similarMatches", fn := fun _ => fun
  | [d1, d2, d3] => { results := [.lit (.bool false)], args := [d1, d2, d3] }
  | _ => none }
def SimilarMatchesWrongFalsely : Prop := similarMatchesRow.holds Try.pinned (OpenSpec.ofChange similarMatchesWrong)

/-- 'treemergelaw22.SimilarExtends': WHATEVER THE INPUT: true; the input reads as it did. -/
def similarExtendsSpec : ChangeSpec := { name := "similarExtends", fn := fun _ => fun
  | [d1, d2, d3] => { results := [.lit (.bool true)], args := [d1, d2, d3] }
  | _ => none }
def similarExtendsRow : OpenClaim := { program := "ytddfehcpbgfmfaa", sum := "636bcec0cbbbdb4c7d357d922e6c1d4cfad3685cf5bcd38e6126c335828a4362", func := "treemerge/treemergelaw22.SimilarExtends", spec := "similarExtends", unfollowed := true, recurses := true, loops := true, apart := false }
def SimilarExtendsSaid : Prop := similarExtendsRow.holds Try.pinned (OpenSpec.ofChange similarExtendsSpec)

/-- ITS FALSE NEIGHBOUR: 'it returns false'. Refute it at one input. -/
def similarExtendsWrong : ChangeSpec := { name := "similarExtends", fn := fun _ => fun
  | [d1, d2, d3] => { results := [.lit (.bool false)], args := [d1, d2, d3] }
  | _ => none }
def SimilarExtendsWrongFalsely : Prop := similarExtendsRow.holds Try.pinned (OpenSpec.ofChange similarExtendsWrong)

/-- 'treemergelaw22.SimilarTurns': WHATEVER THE INPUT: true; the input reads as it did. -/
def similarTurnsSpec : ChangeSpec := { name := "similarTurns", fn := fun _ => fun
  | [d1, d2, d3, d4, d5] => { results := [.lit (.bool true)], args := [d1, d2, d3, d4, d5] }
  | _ => none }
def similarTurnsRow : OpenClaim := { program := "ytddfehcpbgfmfaa", sum := "636bcec0cbbbdb4c7d357d922e6c1d4cfad3685cf5bcd38e6126c335828a4362", func := "treemerge/treemergelaw22.SimilarTurns", spec := "similarTurns", unfollowed := true, recurses := true, loops := true, apart := false }
def SimilarTurnsSaid : Prop := similarTurnsRow.holds Try.pinned (OpenSpec.ofChange similarTurnsSpec)

/-- ITS FALSE NEIGHBOUR: 'it returns false'. Refute it at one input. -/
def similarTurnsWrong : ChangeSpec := { name := "similarTurns", fn := fun _ => fun
  | [d1, d2, d3, d4, d5] => { results := [.lit (.bool false)], args := [d1, d2, d3, d4, d5] }
  | _ => none }
def SimilarTurnsWrongFalsely : Prop := similarTurnsRow.holds Try.pinned (OpenSpec.ofChange similarTurnsWrong)

/-- 'treemergelaw22.SimilarSelf': WHATEVER THE INPUT: true; the input reads as it did. -/
def similarSelfSpec : ChangeSpec := { name := "similarSelf", fn := fun _ => fun
  | [d1, d2] => { results := [.lit (.bool true)], args := [d1, d2] }
  | _ => none }
def similarSelfRow : OpenClaim := { program := "ytddfehcpbgfmfaa", sum := "636bcec0cbbbdb4c7d357d922e6c1d4cfad3685cf5bcd38e6126c335828a4362", func := "treemerge/treemergelaw22.SimilarSelf", spec := "similarSelf", unfollowed := true, recurses := true, loops := true, apart := false }
def SimilarSelfSaid : Prop := similarSelfRow.holds Try.pinned (OpenSpec.ofChange similarSelfSpec)

/-- ITS FALSE NEIGHBOUR: 'it returns false'. Refute it at one input. -/
def similarSelfWrong : ChangeSpec := { name := "similarSelf", fn := fun _ => fun
  | [d1, d2] => { results := [.lit (.bool false)], args := [d1, d2] }
  | _ => none }
def SimilarSelfWrongFalsely : Prop := similarSelfRow.holds Try.pinned (OpenSpec.ofChange similarSelfWrong)

/- THE SECOND FORM. 'bulk': how many values and letters a reading holds, each counted each time it is reached (what is shared counts as often as it is met; a slice's spare places count too). A statement '..UptoSaid' is the law's where the arguments, and the package variables that the reading takes, are together of bulk at most 1048576: NARROWER than '..Said'. Prove '..Said' where nothing that the law and all that it calls make is longer than what came in: it says more and counts as full. Else prove '..UptoSaid'. A law counts once. -/
mutual
def uptoBulk {H : Type} : DataW H → Nat
  | .lit (.string bytes) => bytes.length + 1
  | .lit _ => 1
  | .nil => 1
  | .ptr d => uptoBulk d + 1
  | .slice elems spare => uptoBulkAll elems + uptoBulkAll spare + 1
  | .agg parts => uptoBulkAll parts + 1
  | .iface _ d => uptoBulk d + 1
  | .map entries => uptoBulkEntries entries + 1
  | .held _ => 1
def uptoBulkAll {H : Type} : List (DataW H) → Nat
  | [] => 0
  | d :: r => uptoBulk d + uptoBulkAll r
def uptoBulkEntries {H : Type} : List (Lit × DataW H) → Nat
  | [] => 0
  | x :: r => uptoBulkEntry x + uptoBulkEntries r
def uptoBulkEntry {H : Type} : Lit × DataW H → Nat
  | (.string bytes, d) => bytes.length + uptoBulk d + 1
  | (_, d) => uptoBulk d + 1
 end
def uptoSmall : (H : Type) → List (DataW H) → Bool := fun _ ds => decide (uptoBulkAll ds ≤ 1048576)
def OpenSpec.upto (s : _root_.Go.ChangeSpec) : _root_.Go.OpenSpec := { _root_.Go.OpenSpec.ofChange s with cond := some uptoSmall }

/-- 'treemergelaw22.SimilarScores', WHERE WHAT IT READS IS OF BULK AT MOST 1048576: true; the input reads as it did. -/
def similarScoresUptoRow : OpenClaim := { program := "ytddfehcpbgfmfaa", sum := "636bcec0cbbbdb4c7d357d922e6c1d4cfad3685cf5bcd38e6126c335828a4362", func := "treemerge/treemergelaw22.SimilarScores", spec := "similarScores", unfollowed := true, recurses := true, loops := true, apart := false, narrowed := true }
def SimilarScoresUptoSaid : Prop := similarScoresUptoRow.holds Try.pinned (OpenSpec.upto similarScoresSpec)

/-- 'treemergelaw22.SimilarMatches', WHERE WHAT IT READS IS OF BULK AT MOST 1048576: true; the input reads as it did. -/
def similarMatchesUptoRow : OpenClaim := { program := "ytddfehcpbgfmfaa", sum := "636bcec0cbbbdb4c7d357d922e6c1d4cfad3685cf5bcd38e6126c335828a4362", func := "treemerge/treemergelaw22.SimilarMatches", spec := "similarMatches", unfollowed := true, recurses := true, loops := true, apart := false, narrowed := true }
def SimilarMatchesUptoSaid : Prop := similarMatchesUptoRow.holds Try.pinned (OpenSpec.upto similarMatchesSpec)

/-- 'treemergelaw22.SimilarExtends', WHERE WHAT IT READS IS OF BULK AT MOST 1048576: true; the input reads as it did. -/
def similarExtendsUptoRow : OpenClaim := { program := "ytddfehcpbgfmfaa", sum := "636bcec0cbbbdb4c7d357d922e6c1d4cfad3685cf5bcd38e6126c335828a4362", func := "treemerge/treemergelaw22.SimilarExtends", spec := "similarExtends", unfollowed := true, recurses := true, loops := true, apart := false, narrowed := true }
def SimilarExtendsUptoSaid : Prop := similarExtendsUptoRow.holds Try.pinned (OpenSpec.upto similarExtendsSpec)

/-- 'treemergelaw22.SimilarTurns', WHERE WHAT IT READS IS OF BULK AT MOST 1048576: true; the input reads as it did. -/
def similarTurnsUptoRow : OpenClaim := { program := "ytddfehcpbgfmfaa", sum := "636bcec0cbbbdb4c7d357d922e6c1d4cfad3685cf5bcd38e6126c335828a4362", func := "treemerge/treemergelaw22.SimilarTurns", spec := "similarTurns", unfollowed := true, recurses := true, loops := true, apart := false, narrowed := true }
def SimilarTurnsUptoSaid : Prop := similarTurnsUptoRow.holds Try.pinned (OpenSpec.upto similarTurnsSpec)

/-- 'treemergelaw22.SimilarSelf', WHERE WHAT IT READS IS OF BULK AT MOST 1048576: true; the input reads as it did. -/
def similarSelfUptoRow : OpenClaim := { program := "ytddfehcpbgfmfaa", sum := "636bcec0cbbbdb4c7d357d922e6c1d4cfad3685cf5bcd38e6126c335828a4362", func := "treemerge/treemergelaw22.SimilarSelf", spec := "similarSelf", unfollowed := true, recurses := true, loops := true, apart := false, narrowed := true }
def SimilarSelfUptoSaid : Prop := similarSelfUptoRow.holds Try.pinned (OpenSpec.upto similarSelfSpec)

end Rows
end Go.Proofs.Ytddfehcpbgfmfaa
