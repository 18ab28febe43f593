/- A part of the proof: MA. -/
import Derived.Test.YtgjhagehbfhioaaProg
import Derived.KernelRfl
import Derived.Test.YtgjhagehbfhioaaEv24
namespace Mv
open Go Go.Ev Go.Proofs
set_option linter.unusedSimpArgs false
set_option linter.unusedVariables false
def bodyOf (f : Func) : Code := f.body.getD .skip
def loopsOf : Code → List Code
  | .seq a b => loopsOf a ++ loopsOf b
  | .cond _ a b => loopsOf a ++ loopsOf b
  | .block _ b => loopsOf b
  | .loop b => b :: loopsOf b
  | _ => []
-- f3 "treemerge/treemergelaw27.MovesList" ntmps 78 loops: []
-- f4 "treemerge/treemergelaw27.MovesNumbers" ntmps 15 loops: []
-- f5 "treemerge/treemergelaw27.MovesLeast" ntmps 64 loops: [(8, [0, 3, 4, 5, 6, 7], [], 16)]
-- f6 "treemerge/treemergelaw27.MovesParts" ntmps 162 loops: [(12, [2, 7, 9, 11, 12, 13], [], 19)]
-- f7 "treemerge/treemergelaw27.MovesTurn" ntmps 77 loops: []
-- f8 "treemerge/treemergelaw27.MovesNone" ntmps 58 loops: [(5, [1, 3, 4], [(3, 26)], 8)]
-- f9 "treemerge/treemergelaw27.small" ntmps 5 loops: []
-- f10 "treemerge/treemergelaw27.awake" ntmps 83 loops: []
-- f11 "treemerge/moves.Moves" ntmps 124 loops: [(8, [10, 11, 12, 35, 36, 37], [(12, 29)], 28), (16, [10, 11, 12, 15, 16, 17, 35, 36, 37, 72, 73, 74], [(16, 38), (17, 38)], 22), (23, [10, 11, 12, 16, 35, 36, 37, 99, 100, 101], [(12, 29)], 27)]
-- f12 "treemerge/treemergeref27.Moves" ntmps 57 loops: [(8, [2, 9, 10, 11, 12], [(11, 29)], 13)]
-- f13 "treemerge/moves.Stable" ntmps 39 loops: [(6, [8, 10, 23, 24, 25], [(10, 26)], 11)]
-- f14 "treemerge/treemergeref27.Stable" ntmps 47 loops: [(8, [2, 9, 10, 11, 12], [(11, 26)], 12)]
-- f15 "treemerge/treemergeref27.Same" ntmps 26 loops: [(4, [0, 1, 5], [], 8)]
-- f16 "treemerge/treemergeref19.Pairs" ntmps 26 loops: [(4, [0, 1, 5], [], 8)]
-- f17 "treemerge/treemergeref03.Ints" ntmps 26 loops: [(4, [0, 1, 5], [], 8)]
-- f18 "treemerge/moves.Least" ntmps 31 loops: [(4, [3, 4, 9, 10], [(3, 38)], 10)]
-- f19 "treemerge/treemergeref27.Least" ntmps 23 loops: [(4, [0, 3, 4, 5], [(4, 38)], 8)]
-- f20 "treemerge/treemergeref19.Rising" ntmps 98 loops: [(4, [0, 3, 4, 5], [], 13), (8, [0, 3, 4, 5, 6], [], 12), (15, [0, 3, 4, 7, 8], [(7, 38)], 20)]
-- f21 "treemerge/treemergeref24.Check" ntmps 109 loops: [(4, [2, 3, 4, 7, 8, 9], [], 11)]
-- f22 "treemerge/treemergeref24.Invert" ntmps 26 loops: [(3, [0, 3, 4], [], 6)]
-- f23 "treemerge/treemergelaw27.count" ntmps 23 loops: [(3, [0, 1, 5, 6], [], 7)]
-- f24 "treemerge/treemergeref06.Size" ntmps 21 loops: [(3, [1, 3, 4], [], 6)]
-- f25 "treemerge/treemergeref06.Fits" ntmps 12 loops: []
-- f26 "treemerge/treemergelaw27.call" ntmps 5 loops: []
-- f27 "treemerge/treemergelaw27.name" ntmps 5 loops: []
-- f28 "treemerge/match.Check" ntmps 96 loops: [(5, [3, 4, 7, 8, 9, 10, 20, 21, 22], [], 13)]
-- f29 "treemerge/tree.Rows" ntmps 5 loops: []
-- f32 "slices.Index[[]int,int]" ntmps 19 loops: [(2, [0, 1, 7, 8], [], 7)]
-- f33 "slices.SortFunc[[]treemerge/api.Move,treemerge/api.Move]" ntmps 14 loops: []
-- f35 "treemerge/treemergeref06.Rows" ntmps 7 loops: []
-- f36 "treemerge/treemergeref27.kind" ntmps 43 loops: []
-- f37 "slices.ContainsFunc[[]treemerge/api.Move,treemerge/api.Move]" ntmps 9 loops: []
-- f39 "treemerge/lcs.Rising" ntmps 98 loops: [(4, [0, 3, 4, 5], [], 13), (8, [0, 3, 4, 5, 6], [], 12), (15, [0, 3, 4, 7, 59, 60], [(7, 38)], 21)]
-- f40 "treemerge/treemergeref27.has" ntmps 18 loops: [(2, [0, 1, 5], [], 6)]
-- f41 "treemerge/treemergeref24.hasNew" ntmps 19 loops: [(2, [0, 1, 5], [], 6)]
-- f42 "treemerge/treemergeref24.Insert" ntmps 71 loops: [(4, [0, 3, 5, 6, 7], [(5, 26)], 12)]
-- f43 "treemerge/treemergeref06.left" ntmps 43 loops: [(5, [2, 3, 7, 8], [], 10)]
-- f44 "treemerge/tree.list" ntmps 58 loops: [(7, [0, 7, 8, 35, 36, 37], [], 12)]
-- f45 "slices.pdqsortCmpFunc[treemerge/api.Move]" ntmps 148 loops: [(2, [0, 1, 2, 3, 4, 10, 11], [], None)]
-- f46 "math/bits.Len" ntmps 8 loops: []
-- f47 "treemerge/treemergeref06.rows" ntmps 49 loops: [(5, [0, 4, 7, 8, 9], [(8, 38)], 9)]
-- f48 "treemerge/treemergeref24.Find" ntmps 25 loops: [(2, [0, 1, 6], [], 6)]
-- f49 "treemerge/treemergeref27.reordered" ntmps 82 loops: [(6, [0, 1, 2, 3, 9, 10, 12, 13, 14], [(12, 38)], 13)]
-- f50 "slices.IndexFunc[[]treemerge/api.Move,treemerge/api.Move]" ntmps 19 loops: [(2, [0, 1, 7, 8], [], 7)]
-- f51 "treemerge/tree.texts" ntmps 14 loops: []
-- f52 "slices.insertionSortCmpFunc[treemerge/api.Move]" ntmps 53 loops: [(1, [0, 1, 2, 3, 8], [], None), (4, [0, 1, 2, 3, 8, 9], [], 2)]
-- f53 "slices.heapSortCmpFunc[treemerge/api.Move]" ntmps 60 loops: [(4, [0, 3, 8, 9, 10, 11], [], 7), (8, [0, 3, 8, 9, 12], [], None)]
-- f54 "slices.breakPatternsCmpFunc[treemerge/api.Move]" ntmps 67 loops: [(5, [0, 1, 8, 9, 10, 11], [], None)]
-- f55 "slices.choosePivotCmpFunc[treemerge/api.Move]" ntmps 63 loops: []
-- f56 "slices.reverseRangeCmpFunc[treemerge/api.Move]" ntmps 34 loops: [(2, [0, 8, 9], [], None)]
-- f57 "slices.partialInsertionSortCmpFunc[treemerge/api.Move]" ntmps 141 loops: [(3, [0, 1, 2, 3, 9, 10], [], 24), (5, [0, 1, 2, 3, 9, 10], [], 7), (14, [0, 1, 2, 3, 9, 10, 11], [], 18), (20, [0, 1, 2, 3, 9, 10, 12], [], 4)]
-- f58 "slices.partitionEqualCmpFunc[treemerge/api.Move]" ntmps 90 loops: [(3, [0, 1, 4, 11, 12], [], 11), (3, [0, 1, 4, 11, 12], [], 5), (5, [0, 1, 4, 11, 12], [], 7)]
-- f59 "slices.partitionCmpFunc[treemerge/api.Move]" ntmps 178 loops: [(3, [0, 1, 4, 12, 13], [], 5), (5, [0, 1, 4, 12, 13], [], 7), (13, [0, 1, 4, 12, 13], [], 21), (13, [0, 1, 4, 12, 13], [], 15), (15, [0, 1, 4, 12, 13], [], 17)]
-- f60 "math/bits.Len32" ntmps 19 loops: []
-- f61 "math/bits.Len64" ntmps 25 loops: []
-- f62 "slices.siftDownCmpFunc[treemerge/api.Move]" ntmps 82 loops: [(1, [0, 2, 3, 4, 10], [], None)]
-- f63 "slices.nextPowerOfTwo" ntmps 7 loops: []
-- f64 "(*slices.xorshift).Next" ntmps 33 loops: []
def preOf : Nat → List (Nat × List Ghost)
  | 5 => [(8, [.keep [0, 3, 4, 5, 6, 7]]), (16, [.keep [0, 3, 4, 5, 6, 7]])]
  | 6 => [(12, [.keep [2, 7, 9, 11, 12, 13]]), (19, [.keep [2, 7, 9, 11, 12, 13]])]
  | 8 => [(5, [.own 3 2, .keep [1, 3, 4]]), (8, [.keep [1, 3, 4]])]
  | 11 => [(8, [.own 12 3, .keep [10, 11, 12, 35, 36, 37]]), (16, [.own 16 1, .own 17 1, .keep [10, 11, 12, 15, 16, 17, 35, 36, 37, 72, 73, 74]]), (22, [.keep [10, 11, 12, 15, 16, 17, 35, 36, 37, 72, 73, 74]]), (23, [.own 12 3, .keep [10, 11, 12, 16, 35, 36, 37, 99, 100, 101]]), (27, [.keep [10, 11, 12, 16, 35, 36, 37, 99, 100, 101]]), (28, [.keep [10, 11, 12, 35, 36, 37]])]
  | 12 => [(8, [.own 11 3, .keep [2, 9, 10, 11, 12]]), (13, [.keep [2, 9, 10, 11, 12]])]
  | 13 => [(6, [.own 10 2, .keep [8, 10, 23, 24, 25]]), (11, [.keep [8, 10, 23, 24, 25]])]
  | 14 => [(8, [.own 11 2, .keep [2, 9, 10, 11, 12]]), (12, [.keep [2, 9, 10, 11, 12]])]
  | 15 => [(4, [.keep [0, 1, 5]]), (8, [.keep [0, 1, 5]])]
  | 16 => [(4, [.keep [0, 1, 5]]), (8, [.keep [0, 1, 5]])]
  | 17 => [(4, [.keep [0, 1, 5]]), (8, [.keep [0, 1, 5]])]
  | 18 => [(4, [.own 3 1, .keep [3, 4, 9, 10]]), (10, [.keep [3, 4, 9, 10]])]
  | 19 => [(4, [.own 4 1, .keep [0, 3, 4, 5]]), (8, [.keep [0, 3, 4, 5]])]
  | 20 => [(4, [.keep [0, 3, 4, 5]]), (8, [.keep [0, 3, 4, 5, 6]]), (12, [.keep [0, 3, 4, 5, 6]]), (13, [.keep [0, 3, 4, 5]]), (15, [.own 7 1, .keep [0, 3, 4, 7, 8]]), (20, [.keep [0, 3, 4, 7, 8]])]
  | 21 => [(4, [.keep [2, 3, 4, 7, 8, 9]]), (11, [.keep [2, 3, 4, 7, 8, 9]])]
  | 22 => [(3, [.keep [0, 3, 4]]), (6, [.keep [0, 3, 4]])]
  | 23 => [(3, [.keep [0, 1, 5, 6]]), (7, [.keep [0, 1, 5, 6]])]
  | 24 => [(3, [.keep [1, 3, 4]]), (6, [.keep [1, 3, 4]])]
  | 28 => [(5, [.keep [3, 4, 7, 8, 9, 10, 20, 21, 22]]), (13, [.keep [3, 4, 7, 8, 9, 10, 20, 21, 22]])]
  | 32 => [(2, [.keep [0, 1, 7, 8]]), (7, [.keep [0, 1, 7, 8]])]
  | 39 => [(4, [.keep [0, 3, 4, 5]]), (8, [.keep [0, 3, 4, 5, 6]]), (12, [.keep [0, 3, 4, 5, 6]]), (13, [.keep [0, 3, 4, 5]]), (15, [.own 7 1, .keep [0, 3, 4, 7, 59, 60]]), (21, [.keep [0, 3, 4, 7, 59, 60]])]
  | 40 => [(2, [.keep [0, 1, 5]]), (6, [.keep [0, 1, 5]])]
  | 41 => [(2, [.keep [0, 1, 5]]), (6, [.keep [0, 1, 5]])]
  | 42 => [(4, [.own 5 2, .keep [0, 3, 5, 6, 7]]), (12, [.keep [0, 3, 5, 6, 7]])]
  | 43 => [(5, [.keep [2, 3, 7, 8]]), (10, [.keep [2, 3, 7, 8]])]
  | 44 => [(7, [.keep [0, 7, 8, 35, 36, 37]]), (12, [.keep [0, 7, 8, 35, 36, 37]])]
  | 45 => [(2, [.keep [0, 1, 2, 3, 4, 10, 11]])]
  | 47 => [(5, [.own 8 1, .keep [0, 4, 7, 8, 9]]), (9, [.keep [0, 4, 7, 8, 9]])]
  | 48 => [(2, [.keep [0, 1, 6]]), (6, [.keep [0, 1, 6]])]
  | 49 => [(6, [.own 12 1, .keep [0, 1, 2, 3, 9, 10, 12, 13, 14]]), (13, [.keep [0, 1, 2, 3, 9, 10, 12, 13, 14]])]
  | 50 => [(2, [.keep [0, 1, 7, 8]]), (7, [.keep [0, 1, 7, 8]])]
  | 52 => [(1, [.keep [0, 1, 2, 3, 8]]), (2, [.keep [0, 1, 2, 3, 8, 9]]), (4, [.keep [0, 1, 2, 3, 8, 9]])]
  | 53 => [(4, [.keep [0, 3, 8, 9, 10, 11]]), (7, [.keep [0, 3, 8, 9, 10, 11]]), (8, [.keep [0, 3, 8, 9, 12]])]
  | 54 => [(5, [.keep [0, 1, 8, 9, 10, 11]])]
  | 56 => [(2, [.keep [0, 8, 9]])]
  | 57 => [(3, [.keep [0, 1, 2, 3, 9, 10]]), (4, [.keep [0, 1, 2, 3, 9, 10, 12]]), (5, [.keep [0, 1, 2, 3, 9, 10]]), (7, [.keep [0, 1, 2, 3, 9, 10]]), (14, [.keep [0, 1, 2, 3, 9, 10, 11]]), (18, [.keep [0, 1, 2, 3, 9, 10, 11]]), (20, [.keep [0, 1, 2, 3, 9, 10, 12]]), (24, [.keep [0, 1, 2, 3, 9, 10]])]
  | 58 => [(3, [.keep [0, 1, 4, 11, 12], .keep [0, 1, 4, 11, 12]]), (5, [.keep [0, 1, 4, 11, 12], .keep [0, 1, 4, 11, 12]]), (7, [.keep [0, 1, 4, 11, 12]]), (11, [.keep [0, 1, 4, 11, 12]])]
  | 59 => [(3, [.keep [0, 1, 4, 12, 13]]), (5, [.keep [0, 1, 4, 12, 13], .keep [0, 1, 4, 12, 13]]), (7, [.keep [0, 1, 4, 12, 13]]), (13, [.keep [0, 1, 4, 12, 13], .keep [0, 1, 4, 12, 13]]), (15, [.keep [0, 1, 4, 12, 13], .keep [0, 1, 4, 12, 13]]), (17, [.keep [0, 1, 4, 12, 13]]), (21, [.keep [0, 1, 4, 12, 13]])]
  | 62 => [(1, [.keep [0, 2, 3, 4, 10]])]
  | _ => []
def A0 : Ann := { okf := fun _ => true, keeps := fun f => [44, 47].contains f, muts := fun f => [44, 47, 33, 45, 52, 53, 54, 55, 56, 57, 58, 59, 62, 64].contains f, ros := fun f => [].contains f, loud := fun f r => [].contains (f, r), pre := fun f r => ((preOf f).lookup r).getD [] }
theorem r3_0 {ops : Array Oper} {draw : Bool} {s : St} : evW Try.prog A0 3 (.region 0 ops draw) s = regW Try.prog A0 (draw && true) ops ops.toList (ghostsD [] s) := w_region
theorem r3_1 {ops : Array Oper} {draw : Bool} {s : St} : evW Try.prog A0 3 (.region 1 ops draw) s = regW Try.prog A0 (draw && true) ops ops.toList (ghostsD [] s) := w_region
theorem r3_2 {ops : Array Oper} {draw : Bool} {s : St} : evW Try.prog A0 3 (.region 2 ops draw) s = regW Try.prog A0 (draw && true) ops ops.toList (ghostsD [] s) := w_region
theorem r3_3 {ops : Array Oper} {draw : Bool} {s : St} : evW Try.prog A0 3 (.region 3 ops draw) s = regW Try.prog A0 (draw && true) ops ops.toList (ghostsD [] s) := w_region
theorem r3_4 {ops : Array Oper} {draw : Bool} {s : St} : evW Try.prog A0 3 (.region 4 ops draw) s = regW Try.prog A0 (draw && true) ops ops.toList (ghostsD [] s) := w_region
theorem r3_5 {ops : Array Oper} {draw : Bool} {s : St} : evW Try.prog A0 3 (.region 5 ops draw) s = regW Try.prog A0 (draw && true) ops ops.toList (ghostsD [] s) := w_region
theorem r3_6 {ops : Array Oper} {draw : Bool} {s : St} : evW Try.prog A0 3 (.region 6 ops draw) s = regW Try.prog A0 (draw && true) ops ops.toList (ghostsD [] s) := w_region
theorem r3_7 {ops : Array Oper} {draw : Bool} {s : St} : evW Try.prog A0 3 (.region 7 ops draw) s = regW Try.prog A0 (draw && true) ops ops.toList (ghostsD [] s) := w_region
theorem r4_0 {ops : Array Oper} {draw : Bool} {s : St} : evW Try.prog A0 4 (.region 0 ops draw) s = regW Try.prog A0 (draw && true) ops ops.toList (ghostsD [] s) := w_region
theorem r4_1 {ops : Array Oper} {draw : Bool} {s : St} : evW Try.prog A0 4 (.region 1 ops draw) s = regW Try.prog A0 (draw && true) ops ops.toList (ghostsD [] s) := w_region
theorem r4_2 {ops : Array Oper} {draw : Bool} {s : St} : evW Try.prog A0 4 (.region 2 ops draw) s = regW Try.prog A0 (draw && true) ops ops.toList (ghostsD [] s) := w_region
theorem r4_3 {ops : Array Oper} {draw : Bool} {s : St} : evW Try.prog A0 4 (.region 3 ops draw) s = regW Try.prog A0 (draw && true) ops ops.toList (ghostsD [] s) := w_region
theorem r5_0 {ops : Array Oper} {draw : Bool} {s : St} : evW Try.prog A0 5 (.region 0 ops draw) s = regW Try.prog A0 (draw && true) ops ops.toList (ghostsD [] s) := w_region
theorem r5_1 {ops : Array Oper} {draw : Bool} {s : St} : evW Try.prog A0 5 (.region 1 ops draw) s = regW Try.prog A0 (draw && true) ops ops.toList (ghostsD [] s) := w_region
theorem r5_2 {ops : Array Oper} {draw : Bool} {s : St} : evW Try.prog A0 5 (.region 2 ops draw) s = regW Try.prog A0 (draw && true) ops ops.toList (ghostsD [] s) := w_region
theorem r5_3 {ops : Array Oper} {draw : Bool} {s : St} : evW Try.prog A0 5 (.region 3 ops draw) s = regW Try.prog A0 (draw && true) ops ops.toList (ghostsD [] s) := w_region
theorem r5_4 {ops : Array Oper} {draw : Bool} {s : St} : evW Try.prog A0 5 (.region 4 ops draw) s = regW Try.prog A0 (draw && true) ops ops.toList (ghostsD [] s) := w_region
theorem r5_5 {ops : Array Oper} {draw : Bool} {s : St} : evW Try.prog A0 5 (.region 5 ops draw) s = regW Try.prog A0 (draw && true) ops ops.toList (ghostsD [] s) := w_region
theorem r5_6 {ops : Array Oper} {draw : Bool} {s : St} : evW Try.prog A0 5 (.region 6 ops draw) s = regW Try.prog A0 (draw && true) ops ops.toList (ghostsD [] s) := w_region
theorem r5_7 {ops : Array Oper} {draw : Bool} {s : St} : evW Try.prog A0 5 (.region 7 ops draw) s = regW Try.prog A0 (draw && true) ops ops.toList (ghostsD [] s) := w_region
theorem r5_8 {ops : Array Oper} {draw : Bool} {s : St} : evW Try.prog A0 5 (.region 8 ops draw) s = regW Try.prog A0 (draw && true) ops ops.toList (ghostsD [.keep [0, 3, 4, 5, 6, 7]] s) := w_region
theorem r5_10 {ops : Array Oper} {draw : Bool} {s : St} : evW Try.prog A0 5 (.region 10 ops draw) s = regW Try.prog A0 (draw && true) ops ops.toList (ghostsD [] s) := w_region
theorem r5_11 {ops : Array Oper} {draw : Bool} {s : St} : evW Try.prog A0 5 (.region 11 ops draw) s = regW Try.prog A0 (draw && true) ops ops.toList (ghostsD [] s) := w_region
theorem r5_12 {ops : Array Oper} {draw : Bool} {s : St} : evW Try.prog A0 5 (.region 12 ops draw) s = regW Try.prog A0 (draw && true) ops ops.toList (ghostsD [] s) := w_region
theorem r5_13 {ops : Array Oper} {draw : Bool} {s : St} : evW Try.prog A0 5 (.region 13 ops draw) s = regW Try.prog A0 (draw && true) ops ops.toList (ghostsD [] s) := w_region
theorem r5_14 {ops : Array Oper} {draw : Bool} {s : St} : evW Try.prog A0 5 (.region 14 ops draw) s = regW Try.prog A0 (draw && true) ops ops.toList (ghostsD [] s) := w_region
theorem r5_15 {ops : Array Oper} {draw : Bool} {s : St} : evW Try.prog A0 5 (.region 15 ops draw) s = regW Try.prog A0 (draw && true) ops ops.toList (ghostsD [] s) := w_region
theorem r5_9 {ops : Array Oper} {draw : Bool} {s : St} : evW Try.prog A0 5 (.region 9 ops draw) s = regW Try.prog A0 (draw && true) ops ops.toList (ghostsD [] s) := w_region
theorem r5_16 {ops : Array Oper} {draw : Bool} {s : St} : evW Try.prog A0 5 (.region 16 ops draw) s = regW Try.prog A0 (draw && true) ops ops.toList (ghostsD [.keep [0, 3, 4, 5, 6, 7]] s) := w_region
theorem r6_0 {ops : Array Oper} {draw : Bool} {s : St} : evW Try.prog A0 6 (.region 0 ops draw) s = regW Try.prog A0 (draw && true) ops ops.toList (ghostsD [] s) := w_region
theorem r6_1 {ops : Array Oper} {draw : Bool} {s : St} : evW Try.prog A0 6 (.region 1 ops draw) s = regW Try.prog A0 (draw && true) ops ops.toList (ghostsD [] s) := w_region
theorem r6_2 {ops : Array Oper} {draw : Bool} {s : St} : evW Try.prog A0 6 (.region 2 ops draw) s = regW Try.prog A0 (draw && true) ops ops.toList (ghostsD [] s) := w_region
theorem r6_3 {ops : Array Oper} {draw : Bool} {s : St} : evW Try.prog A0 6 (.region 3 ops draw) s = regW Try.prog A0 (draw && true) ops ops.toList (ghostsD [] s) := w_region
theorem r6_4 {ops : Array Oper} {draw : Bool} {s : St} : evW Try.prog A0 6 (.region 4 ops draw) s = regW Try.prog A0 (draw && true) ops ops.toList (ghostsD [] s) := w_region
theorem r6_5 {ops : Array Oper} {draw : Bool} {s : St} : evW Try.prog A0 6 (.region 5 ops draw) s = regW Try.prog A0 (draw && true) ops ops.toList (ghostsD [] s) := w_region
theorem r6_6 {ops : Array Oper} {draw : Bool} {s : St} : evW Try.prog A0 6 (.region 6 ops draw) s = regW Try.prog A0 (draw && true) ops ops.toList (ghostsD [] s) := w_region
theorem r6_7 {ops : Array Oper} {draw : Bool} {s : St} : evW Try.prog A0 6 (.region 7 ops draw) s = regW Try.prog A0 (draw && true) ops ops.toList (ghostsD [] s) := w_region
theorem r6_8 {ops : Array Oper} {draw : Bool} {s : St} : evW Try.prog A0 6 (.region 8 ops draw) s = regW Try.prog A0 (draw && true) ops ops.toList (ghostsD [] s) := w_region
theorem r6_9 {ops : Array Oper} {draw : Bool} {s : St} : evW Try.prog A0 6 (.region 9 ops draw) s = regW Try.prog A0 (draw && true) ops ops.toList (ghostsD [] s) := w_region
theorem r6_10 {ops : Array Oper} {draw : Bool} {s : St} : evW Try.prog A0 6 (.region 10 ops draw) s = regW Try.prog A0 (draw && true) ops ops.toList (ghostsD [] s) := w_region
theorem r6_11 {ops : Array Oper} {draw : Bool} {s : St} : evW Try.prog A0 6 (.region 11 ops draw) s = regW Try.prog A0 (draw && true) ops ops.toList (ghostsD [] s) := w_region
theorem r6_12 {ops : Array Oper} {draw : Bool} {s : St} : evW Try.prog A0 6 (.region 12 ops draw) s = regW Try.prog A0 (draw && true) ops ops.toList (ghostsD [.keep [2, 7, 9, 11, 12, 13]] s) := w_region
theorem r6_14 {ops : Array Oper} {draw : Bool} {s : St} : evW Try.prog A0 6 (.region 14 ops draw) s = regW Try.prog A0 (draw && true) ops ops.toList (ghostsD [] s) := w_region
theorem r6_15 {ops : Array Oper} {draw : Bool} {s : St} : evW Try.prog A0 6 (.region 15 ops draw) s = regW Try.prog A0 (draw && true) ops ops.toList (ghostsD [] s) := w_region
theorem r6_16 {ops : Array Oper} {draw : Bool} {s : St} : evW Try.prog A0 6 (.region 16 ops draw) s = regW Try.prog A0 (draw && true) ops ops.toList (ghostsD [] s) := w_region
theorem r6_17 {ops : Array Oper} {draw : Bool} {s : St} : evW Try.prog A0 6 (.region 17 ops draw) s = regW Try.prog A0 (draw && true) ops ops.toList (ghostsD [] s) := w_region
theorem r6_18 {ops : Array Oper} {draw : Bool} {s : St} : evW Try.prog A0 6 (.region 18 ops draw) s = regW Try.prog A0 (draw && true) ops ops.toList (ghostsD [] s) := w_region
theorem r6_13 {ops : Array Oper} {draw : Bool} {s : St} : evW Try.prog A0 6 (.region 13 ops draw) s = regW Try.prog A0 (draw && true) ops ops.toList (ghostsD [] s) := w_region
theorem r6_19 {ops : Array Oper} {draw : Bool} {s : St} : evW Try.prog A0 6 (.region 19 ops draw) s = regW Try.prog A0 (draw && true) ops ops.toList (ghostsD [.keep [2, 7, 9, 11, 12, 13]] s) := w_region
theorem r7_0 {ops : Array Oper} {draw : Bool} {s : St} : evW Try.prog A0 7 (.region 0 ops draw) s = regW Try.prog A0 (draw && true) ops ops.toList (ghostsD [] s) := w_region
theorem r7_1 {ops : Array Oper} {draw : Bool} {s : St} : evW Try.prog A0 7 (.region 1 ops draw) s = regW Try.prog A0 (draw && true) ops ops.toList (ghostsD [] s) := w_region
theorem r7_2 {ops : Array Oper} {draw : Bool} {s : St} : evW Try.prog A0 7 (.region 2 ops draw) s = regW Try.prog A0 (draw && true) ops ops.toList (ghostsD [] s) := w_region
theorem r7_3 {ops : Array Oper} {draw : Bool} {s : St} : evW Try.prog A0 7 (.region 3 ops draw) s = regW Try.prog A0 (draw && true) ops ops.toList (ghostsD [] s) := w_region
theorem r7_4 {ops : Array Oper} {draw : Bool} {s : St} : evW Try.prog A0 7 (.region 4 ops draw) s = regW Try.prog A0 (draw && true) ops ops.toList (ghostsD [] s) := w_region
theorem r7_5 {ops : Array Oper} {draw : Bool} {s : St} : evW Try.prog A0 7 (.region 5 ops draw) s = regW Try.prog A0 (draw && true) ops ops.toList (ghostsD [] s) := w_region
theorem r8_0 {ops : Array Oper} {draw : Bool} {s : St} : evW Try.prog A0 8 (.region 0 ops draw) s = regW Try.prog A0 (draw && true) ops ops.toList (ghostsD [] s) := w_region
theorem r8_1 {ops : Array Oper} {draw : Bool} {s : St} : evW Try.prog A0 8 (.region 1 ops draw) s = regW Try.prog A0 (draw && true) ops ops.toList (ghostsD [] s) := w_region
theorem r8_2 {ops : Array Oper} {draw : Bool} {s : St} : evW Try.prog A0 8 (.region 2 ops draw) s = regW Try.prog A0 (draw && true) ops ops.toList (ghostsD [] s) := w_region
theorem r8_3 {ops : Array Oper} {draw : Bool} {s : St} : evW Try.prog A0 8 (.region 3 ops draw) s = regW Try.prog A0 (draw && true) ops ops.toList (ghostsD [] s) := w_region
theorem r8_4 {ops : Array Oper} {draw : Bool} {s : St} : evW Try.prog A0 8 (.region 4 ops draw) s = regW Try.prog A0 (draw && true) ops ops.toList (ghostsD [] s) := w_region
theorem r8_5 {ops : Array Oper} {draw : Bool} {s : St} : evW Try.prog A0 8 (.region 5 ops draw) s = regW Try.prog A0 (draw && true) ops ops.toList (ghostsD [.own 3 2, .keep [1, 3, 4]] s) := w_region
theorem r8_7 {ops : Array Oper} {draw : Bool} {s : St} : evW Try.prog A0 8 (.region 7 ops draw) s = regW Try.prog A0 (draw && true) ops ops.toList (ghostsD [] s) := w_region
theorem r8_6 {ops : Array Oper} {draw : Bool} {s : St} : evW Try.prog A0 8 (.region 6 ops draw) s = regW Try.prog A0 (draw && true) ops ops.toList (ghostsD [] s) := w_region
theorem r8_8 {ops : Array Oper} {draw : Bool} {s : St} : evW Try.prog A0 8 (.region 8 ops draw) s = regW Try.prog A0 (draw && true) ops ops.toList (ghostsD [.keep [1, 3, 4]] s) := w_region
theorem r8_9 {ops : Array Oper} {draw : Bool} {s : St} : evW Try.prog A0 8 (.region 9 ops draw) s = regW Try.prog A0 (draw && true) ops ops.toList (ghostsD [] s) := w_region
theorem r8_10 {ops : Array Oper} {draw : Bool} {s : St} : evW Try.prog A0 8 (.region 10 ops draw) s = regW Try.prog A0 (draw && true) ops ops.toList (ghostsD [] s) := w_region
theorem r9_0 {ops : Array Oper} {draw : Bool} {s : St} : evW Try.prog A0 9 (.region 0 ops draw) s = regW Try.prog A0 (draw && true) ops ops.toList (ghostsD [] s) := w_region
theorem r9_1 {ops : Array Oper} {draw : Bool} {s : St} : evW Try.prog A0 9 (.region 1 ops draw) s = regW Try.prog A0 (draw && true) ops ops.toList (ghostsD [] s) := w_region
theorem r10_0 {ops : Array Oper} {draw : Bool} {s : St} : evW Try.prog A0 10 (.region 0 ops draw) s = regW Try.prog A0 (draw && true) ops ops.toList (ghostsD [] s) := w_region
theorem r10_1 {ops : Array Oper} {draw : Bool} {s : St} : evW Try.prog A0 10 (.region 1 ops draw) s = regW Try.prog A0 (draw && true) ops ops.toList (ghostsD [] s) := w_region
theorem r10_2 {ops : Array Oper} {draw : Bool} {s : St} : evW Try.prog A0 10 (.region 2 ops draw) s = regW Try.prog A0 (draw && true) ops ops.toList (ghostsD [] s) := w_region
theorem r10_3 {ops : Array Oper} {draw : Bool} {s : St} : evW Try.prog A0 10 (.region 3 ops draw) s = regW Try.prog A0 (draw && true) ops ops.toList (ghostsD [] s) := w_region
theorem r10_4 {ops : Array Oper} {draw : Bool} {s : St} : evW Try.prog A0 10 (.region 4 ops draw) s = regW Try.prog A0 (draw && true) ops ops.toList (ghostsD [] s) := w_region
theorem r10_5 {ops : Array Oper} {draw : Bool} {s : St} : evW Try.prog A0 10 (.region 5 ops draw) s = regW Try.prog A0 (draw && true) ops ops.toList (ghostsD [] s) := w_region
theorem r10_6 {ops : Array Oper} {draw : Bool} {s : St} : evW Try.prog A0 10 (.region 6 ops draw) s = regW Try.prog A0 (draw && true) ops ops.toList (ghostsD [] s) := w_region
theorem r10_7 {ops : Array Oper} {draw : Bool} {s : St} : evW Try.prog A0 10 (.region 7 ops draw) s = regW Try.prog A0 (draw && true) ops ops.toList (ghostsD [] s) := w_region
theorem r11_0 {ops : Array Oper} {draw : Bool} {s : St} : evW Try.prog A0 11 (.region 0 ops draw) s = regW Try.prog A0 (draw && true) ops ops.toList (ghostsD [] s) := w_region
theorem r11_1 {ops : Array Oper} {draw : Bool} {s : St} : evW Try.prog A0 11 (.region 1 ops draw) s = regW Try.prog A0 (draw && true) ops ops.toList (ghostsD [] s) := w_region
theorem r11_2 {ops : Array Oper} {draw : Bool} {s : St} : evW Try.prog A0 11 (.region 2 ops draw) s = regW Try.prog A0 (draw && true) ops ops.toList (ghostsD [] s) := w_region
theorem r11_3 {ops : Array Oper} {draw : Bool} {s : St} : evW Try.prog A0 11 (.region 3 ops draw) s = regW Try.prog A0 (draw && true) ops ops.toList (ghostsD [] s) := w_region
theorem r11_4 {ops : Array Oper} {draw : Bool} {s : St} : evW Try.prog A0 11 (.region 4 ops draw) s = regW Try.prog A0 (draw && true) ops ops.toList (ghostsD [] s) := w_region
theorem r11_5 {ops : Array Oper} {draw : Bool} {s : St} : evW Try.prog A0 11 (.region 5 ops draw) s = regW Try.prog A0 (draw && true) ops ops.toList (ghostsD [] s) := w_region
theorem r11_6 {ops : Array Oper} {draw : Bool} {s : St} : evW Try.prog A0 11 (.region 6 ops draw) s = regW Try.prog A0 (draw && true) ops ops.toList (ghostsD [] s) := w_region
theorem r11_7 {ops : Array Oper} {draw : Bool} {s : St} : evW Try.prog A0 11 (.region 7 ops draw) s = regW Try.prog A0 (draw && true) ops ops.toList (ghostsD [] s) := w_region
theorem r11_8 {ops : Array Oper} {draw : Bool} {s : St} : evW Try.prog A0 11 (.region 8 ops draw) s = regW Try.prog A0 (draw && true) ops ops.toList (ghostsD [.own 12 3, .keep [10, 11, 12, 35, 36, 37]] s) := w_region
theorem r11_9 {ops : Array Oper} {draw : Bool} {s : St} : evW Try.prog A0 11 (.region 9 ops draw) s = regW Try.prog A0 (draw && true) ops ops.toList (ghostsD [] s) := w_region
theorem r11_10 {ops : Array Oper} {draw : Bool} {s : St} : evW Try.prog A0 11 (.region 10 ops draw) s = regW Try.prog A0 (draw && true) ops ops.toList (ghostsD [] s) := w_region
theorem r11_11 {ops : Array Oper} {draw : Bool} {s : St} : evW Try.prog A0 11 (.region 11 ops draw) s = regW Try.prog A0 (draw && true) ops ops.toList (ghostsD [] s) := w_region
theorem r11_12 {ops : Array Oper} {draw : Bool} {s : St} : evW Try.prog A0 11 (.region 12 ops draw) s = regW Try.prog A0 (draw && true) ops ops.toList (ghostsD [] s) := w_region
theorem r11_13 {ops : Array Oper} {draw : Bool} {s : St} : evW Try.prog A0 11 (.region 13 ops draw) s = regW Try.prog A0 (draw && true) ops ops.toList (ghostsD [] s) := w_region
theorem r11_14 {ops : Array Oper} {draw : Bool} {s : St} : evW Try.prog A0 11 (.region 14 ops draw) s = regW Try.prog A0 (draw && true) ops ops.toList (ghostsD [] s) := w_region
theorem r11_15 {ops : Array Oper} {draw : Bool} {s : St} : evW Try.prog A0 11 (.region 15 ops draw) s = regW Try.prog A0 (draw && true) ops ops.toList (ghostsD [] s) := w_region
theorem r11_16 {ops : Array Oper} {draw : Bool} {s : St} : evW Try.prog A0 11 (.region 16 ops draw) s = regW Try.prog A0 (draw && true) ops ops.toList (ghostsD [.own 16 1, .own 17 1, .keep [10, 11, 12, 15, 16, 17, 35, 36, 37, 72, 73, 74]] s) := w_region
theorem r11_17 {ops : Array Oper} {draw : Bool} {s : St} : evW Try.prog A0 11 (.region 17 ops draw) s = regW Try.prog A0 (draw && true) ops ops.toList (ghostsD [] s) := w_region
theorem r11_18 {ops : Array Oper} {draw : Bool} {s : St} : evW Try.prog A0 11 (.region 18 ops draw) s = regW Try.prog A0 (draw && true) ops ops.toList (ghostsD [] s) := w_region
theorem r11_19 {ops : Array Oper} {draw : Bool} {s : St} : evW Try.prog A0 11 (.region 19 ops draw) s = regW Try.prog A0 (draw && true) ops ops.toList (ghostsD [] s) := w_region
theorem r11_20 {ops : Array Oper} {draw : Bool} {s : St} : evW Try.prog A0 11 (.region 20 ops draw) s = regW Try.prog A0 (draw && true) ops ops.toList (ghostsD [] s) := w_region
theorem r11_21 {ops : Array Oper} {draw : Bool} {s : St} : evW Try.prog A0 11 (.region 21 ops draw) s = regW Try.prog A0 (draw && true) ops ops.toList (ghostsD [] s) := w_region
theorem r11_22 {ops : Array Oper} {draw : Bool} {s : St} : evW Try.prog A0 11 (.region 22 ops draw) s = regW Try.prog A0 (draw && true) ops ops.toList (ghostsD [.keep [10, 11, 12, 15, 16, 17, 35, 36, 37, 72, 73, 74]] s) := w_region
theorem r11_23 {ops : Array Oper} {draw : Bool} {s : St} : evW Try.prog A0 11 (.region 23 ops draw) s = regW Try.prog A0 (draw && true) ops ops.toList (ghostsD [.own 12 3, .keep [10, 11, 12, 16, 35, 36, 37, 99, 100, 101]] s) := w_region
theorem r11_24 {ops : Array Oper} {draw : Bool} {s : St} : evW Try.prog A0 11 (.region 24 ops draw) s = regW Try.prog A0 (draw && true) ops ops.toList (ghostsD [] s) := w_region
theorem r11_25 {ops : Array Oper} {draw : Bool} {s : St} : evW Try.prog A0 11 (.region 25 ops draw) s = regW Try.prog A0 (draw && true) ops ops.toList (ghostsD [] s) := w_region
theorem r11_26 {ops : Array Oper} {draw : Bool} {s : St} : evW Try.prog A0 11 (.region 26 ops draw) s = regW Try.prog A0 (draw && true) ops ops.toList (ghostsD [] s) := w_region
theorem r11_27 {ops : Array Oper} {draw : Bool} {s : St} : evW Try.prog A0 11 (.region 27 ops draw) s = regW Try.prog A0 (draw && true) ops ops.toList (ghostsD [.keep [10, 11, 12, 16, 35, 36, 37, 99, 100, 101]] s) := w_region
theorem r11_28 {ops : Array Oper} {draw : Bool} {s : St} : evW Try.prog A0 11 (.region 28 ops draw) s = regW Try.prog A0 (draw && true) ops ops.toList (ghostsD [.keep [10, 11, 12, 35, 36, 37]] s) := w_region
theorem r11_29 {ops : Array Oper} {draw : Bool} {s : St} : evW Try.prog A0 11 (.region 29 ops draw) s = regW Try.prog A0 (draw && true) ops ops.toList (ghostsD [] s) := w_region
theorem r12_0 {ops : Array Oper} {draw : Bool} {s : St} : evW Try.prog A0 12 (.region 0 ops draw) s = regW Try.prog A0 (draw && true) ops ops.toList (ghostsD [] s) := w_region
theorem r12_1 {ops : Array Oper} {draw : Bool} {s : St} : evW Try.prog A0 12 (.region 1 ops draw) s = regW Try.prog A0 (draw && true) ops ops.toList (ghostsD [] s) := w_region
theorem r12_2 {ops : Array Oper} {draw : Bool} {s : St} : evW Try.prog A0 12 (.region 2 ops draw) s = regW Try.prog A0 (draw && true) ops ops.toList (ghostsD [] s) := w_region
theorem r12_3 {ops : Array Oper} {draw : Bool} {s : St} : evW Try.prog A0 12 (.region 3 ops draw) s = regW Try.prog A0 (draw && true) ops ops.toList (ghostsD [] s) := w_region
theorem r12_4 {ops : Array Oper} {draw : Bool} {s : St} : evW Try.prog A0 12 (.region 4 ops draw) s = regW Try.prog A0 (draw && true) ops ops.toList (ghostsD [] s) := w_region
theorem r12_5 {ops : Array Oper} {draw : Bool} {s : St} : evW Try.prog A0 12 (.region 5 ops draw) s = regW Try.prog A0 (draw && true) ops ops.toList (ghostsD [] s) := w_region
theorem r12_6 {ops : Array Oper} {draw : Bool} {s : St} : evW Try.prog A0 12 (.region 6 ops draw) s = regW Try.prog A0 (draw && true) ops ops.toList (ghostsD [] s) := w_region
theorem r12_7 {ops : Array Oper} {draw : Bool} {s : St} : evW Try.prog A0 12 (.region 7 ops draw) s = regW Try.prog A0 (draw && true) ops ops.toList (ghostsD [] s) := w_region
theorem r12_8 {ops : Array Oper} {draw : Bool} {s : St} : evW Try.prog A0 12 (.region 8 ops draw) s = regW Try.prog A0 (draw && true) ops ops.toList (ghostsD [.own 11 3, .keep [2, 9, 10, 11, 12]] s) := w_region
theorem r12_10 {ops : Array Oper} {draw : Bool} {s : St} : evW Try.prog A0 12 (.region 10 ops draw) s = regW Try.prog A0 (draw && true) ops ops.toList (ghostsD [] s) := w_region
theorem r12_11 {ops : Array Oper} {draw : Bool} {s : St} : evW Try.prog A0 12 (.region 11 ops draw) s = regW Try.prog A0 (draw && true) ops ops.toList (ghostsD [] s) := w_region
theorem r12_12 {ops : Array Oper} {draw : Bool} {s : St} : evW Try.prog A0 12 (.region 12 ops draw) s = regW Try.prog A0 (draw && true) ops ops.toList (ghostsD [] s) := w_region
theorem r12_9 {ops : Array Oper} {draw : Bool} {s : St} : evW Try.prog A0 12 (.region 9 ops draw) s = regW Try.prog A0 (draw && true) ops ops.toList (ghostsD [] s) := w_region
theorem r12_13 {ops : Array Oper} {draw : Bool} {s : St} : evW Try.prog A0 12 (.region 13 ops draw) s = regW Try.prog A0 (draw && true) ops ops.toList (ghostsD [.keep [2, 9, 10, 11, 12]] s) := w_region
theorem r13_0 {ops : Array Oper} {draw : Bool} {s : St} : evW Try.prog A0 13 (.region 0 ops draw) s = regW Try.prog A0 (draw && true) ops ops.toList (ghostsD [] s) := w_region
theorem r13_1 {ops : Array Oper} {draw : Bool} {s : St} : evW Try.prog A0 13 (.region 1 ops draw) s = regW Try.prog A0 (draw && true) ops ops.toList (ghostsD [] s) := w_region
theorem r13_2 {ops : Array Oper} {draw : Bool} {s : St} : evW Try.prog A0 13 (.region 2 ops draw) s = regW Try.prog A0 (draw && true) ops ops.toList (ghostsD [] s) := w_region
theorem r13_3 {ops : Array Oper} {draw : Bool} {s : St} : evW Try.prog A0 13 (.region 3 ops draw) s = regW Try.prog A0 (draw && true) ops ops.toList (ghostsD [] s) := w_region
theorem r13_4 {ops : Array Oper} {draw : Bool} {s : St} : evW Try.prog A0 13 (.region 4 ops draw) s = regW Try.prog A0 (draw && true) ops ops.toList (ghostsD [] s) := w_region
theorem r13_5 {ops : Array Oper} {draw : Bool} {s : St} : evW Try.prog A0 13 (.region 5 ops draw) s = regW Try.prog A0 (draw && true) ops ops.toList (ghostsD [] s) := w_region
theorem r13_6 {ops : Array Oper} {draw : Bool} {s : St} : evW Try.prog A0 13 (.region 6 ops draw) s = regW Try.prog A0 (draw && true) ops ops.toList (ghostsD [.own 10 2, .keep [8, 10, 23, 24, 25]] s) := w_region
theorem r13_7 {ops : Array Oper} {draw : Bool} {s : St} : evW Try.prog A0 13 (.region 7 ops draw) s = regW Try.prog A0 (draw && true) ops ops.toList (ghostsD [] s) := w_region
theorem r13_8 {ops : Array Oper} {draw : Bool} {s : St} : evW Try.prog A0 13 (.region 8 ops draw) s = regW Try.prog A0 (draw && true) ops ops.toList (ghostsD [] s) := w_region
theorem r13_9 {ops : Array Oper} {draw : Bool} {s : St} : evW Try.prog A0 13 (.region 9 ops draw) s = regW Try.prog A0 (draw && true) ops ops.toList (ghostsD [] s) := w_region
theorem r13_10 {ops : Array Oper} {draw : Bool} {s : St} : evW Try.prog A0 13 (.region 10 ops draw) s = regW Try.prog A0 (draw && true) ops ops.toList (ghostsD [] s) := w_region
theorem r13_11 {ops : Array Oper} {draw : Bool} {s : St} : evW Try.prog A0 13 (.region 11 ops draw) s = regW Try.prog A0 (draw && true) ops ops.toList (ghostsD [.keep [8, 10, 23, 24, 25]] s) := w_region
theorem r14_0 {ops : Array Oper} {draw : Bool} {s : St} : evW Try.prog A0 14 (.region 0 ops draw) s = regW Try.prog A0 (draw && true) ops ops.toList (ghostsD [] s) := w_region
theorem r14_1 {ops : Array Oper} {draw : Bool} {s : St} : evW Try.prog A0 14 (.region 1 ops draw) s = regW Try.prog A0 (draw && true) ops ops.toList (ghostsD [] s) := w_region
theorem r14_2 {ops : Array Oper} {draw : Bool} {s : St} : evW Try.prog A0 14 (.region 2 ops draw) s = regW Try.prog A0 (draw && true) ops ops.toList (ghostsD [] s) := w_region
theorem r14_3 {ops : Array Oper} {draw : Bool} {s : St} : evW Try.prog A0 14 (.region 3 ops draw) s = regW Try.prog A0 (draw && true) ops ops.toList (ghostsD [] s) := w_region
theorem r14_4 {ops : Array Oper} {draw : Bool} {s : St} : evW Try.prog A0 14 (.region 4 ops draw) s = regW Try.prog A0 (draw && true) ops ops.toList (ghostsD [] s) := w_region
theorem r14_5 {ops : Array Oper} {draw : Bool} {s : St} : evW Try.prog A0 14 (.region 5 ops draw) s = regW Try.prog A0 (draw && true) ops ops.toList (ghostsD [] s) := w_region
theorem r14_6 {ops : Array Oper} {draw : Bool} {s : St} : evW Try.prog A0 14 (.region 6 ops draw) s = regW Try.prog A0 (draw && true) ops ops.toList (ghostsD [] s) := w_region
theorem r14_7 {ops : Array Oper} {draw : Bool} {s : St} : evW Try.prog A0 14 (.region 7 ops draw) s = regW Try.prog A0 (draw && true) ops ops.toList (ghostsD [] s) := w_region
theorem r14_8 {ops : Array Oper} {draw : Bool} {s : St} : evW Try.prog A0 14 (.region 8 ops draw) s = regW Try.prog A0 (draw && true) ops ops.toList (ghostsD [.own 11 2, .keep [2, 9, 10, 11, 12]] s) := w_region
theorem r14_10 {ops : Array Oper} {draw : Bool} {s : St} : evW Try.prog A0 14 (.region 10 ops draw) s = regW Try.prog A0 (draw && true) ops ops.toList (ghostsD [] s) := w_region
theorem r14_11 {ops : Array Oper} {draw : Bool} {s : St} : evW Try.prog A0 14 (.region 11 ops draw) s = regW Try.prog A0 (draw && true) ops ops.toList (ghostsD [] s) := w_region
theorem r14_9 {ops : Array Oper} {draw : Bool} {s : St} : evW Try.prog A0 14 (.region 9 ops draw) s = regW Try.prog A0 (draw && true) ops ops.toList (ghostsD [] s) := w_region
theorem r14_12 {ops : Array Oper} {draw : Bool} {s : St} : evW Try.prog A0 14 (.region 12 ops draw) s = regW Try.prog A0 (draw && true) ops ops.toList (ghostsD [.keep [2, 9, 10, 11, 12]] s) := w_region
theorem r15_0 {ops : Array Oper} {draw : Bool} {s : St} : evW Try.prog A0 15 (.region 0 ops draw) s = regW Try.prog A0 (draw && true) ops ops.toList (ghostsD [] s) := w_region
theorem r15_1 {ops : Array Oper} {draw : Bool} {s : St} : evW Try.prog A0 15 (.region 1 ops draw) s = regW Try.prog A0 (draw && true) ops ops.toList (ghostsD [] s) := w_region
theorem r15_2 {ops : Array Oper} {draw : Bool} {s : St} : evW Try.prog A0 15 (.region 2 ops draw) s = regW Try.prog A0 (draw && true) ops ops.toList (ghostsD [] s) := w_region
theorem r15_3 {ops : Array Oper} {draw : Bool} {s : St} : evW Try.prog A0 15 (.region 3 ops draw) s = regW Try.prog A0 (draw && true) ops ops.toList (ghostsD [] s) := w_region
theorem r15_4 {ops : Array Oper} {draw : Bool} {s : St} : evW Try.prog A0 15 (.region 4 ops draw) s = regW Try.prog A0 (draw && true) ops ops.toList (ghostsD [.keep [0, 1, 5]] s) := w_region
theorem r15_6 {ops : Array Oper} {draw : Bool} {s : St} : evW Try.prog A0 15 (.region 6 ops draw) s = regW Try.prog A0 (draw && true) ops ops.toList (ghostsD [] s) := w_region
theorem r15_7 {ops : Array Oper} {draw : Bool} {s : St} : evW Try.prog A0 15 (.region 7 ops draw) s = regW Try.prog A0 (draw && true) ops ops.toList (ghostsD [] s) := w_region
theorem r15_5 {ops : Array Oper} {draw : Bool} {s : St} : evW Try.prog A0 15 (.region 5 ops draw) s = regW Try.prog A0 (draw && true) ops ops.toList (ghostsD [] s) := w_region
theorem r15_8 {ops : Array Oper} {draw : Bool} {s : St} : evW Try.prog A0 15 (.region 8 ops draw) s = regW Try.prog A0 (draw && true) ops ops.toList (ghostsD [.keep [0, 1, 5]] s) := w_region
theorem r16_0 {ops : Array Oper} {draw : Bool} {s : St} : evW Try.prog A0 16 (.region 0 ops draw) s = regW Try.prog A0 (draw && true) ops ops.toList (ghostsD [] s) := w_region
theorem r16_1 {ops : Array Oper} {draw : Bool} {s : St} : evW Try.prog A0 16 (.region 1 ops draw) s = regW Try.prog A0 (draw && true) ops ops.toList (ghostsD [] s) := w_region
theorem r16_2 {ops : Array Oper} {draw : Bool} {s : St} : evW Try.prog A0 16 (.region 2 ops draw) s = regW Try.prog A0 (draw && true) ops ops.toList (ghostsD [] s) := w_region
theorem r16_3 {ops : Array Oper} {draw : Bool} {s : St} : evW Try.prog A0 16 (.region 3 ops draw) s = regW Try.prog A0 (draw && true) ops ops.toList (ghostsD [] s) := w_region
theorem r16_4 {ops : Array Oper} {draw : Bool} {s : St} : evW Try.prog A0 16 (.region 4 ops draw) s = regW Try.prog A0 (draw && true) ops ops.toList (ghostsD [.keep [0, 1, 5]] s) := w_region
theorem r16_6 {ops : Array Oper} {draw : Bool} {s : St} : evW Try.prog A0 16 (.region 6 ops draw) s = regW Try.prog A0 (draw && true) ops ops.toList (ghostsD [] s) := w_region
theorem r16_7 {ops : Array Oper} {draw : Bool} {s : St} : evW Try.prog A0 16 (.region 7 ops draw) s = regW Try.prog A0 (draw && true) ops ops.toList (ghostsD [] s) := w_region
theorem r16_5 {ops : Array Oper} {draw : Bool} {s : St} : evW Try.prog A0 16 (.region 5 ops draw) s = regW Try.prog A0 (draw && true) ops ops.toList (ghostsD [] s) := w_region
theorem r16_8 {ops : Array Oper} {draw : Bool} {s : St} : evW Try.prog A0 16 (.region 8 ops draw) s = regW Try.prog A0 (draw && true) ops ops.toList (ghostsD [.keep [0, 1, 5]] s) := w_region
theorem r17_0 {ops : Array Oper} {draw : Bool} {s : St} : evW Try.prog A0 17 (.region 0 ops draw) s = regW Try.prog A0 (draw && true) ops ops.toList (ghostsD [] s) := w_region
theorem r17_1 {ops : Array Oper} {draw : Bool} {s : St} : evW Try.prog A0 17 (.region 1 ops draw) s = regW Try.prog A0 (draw && true) ops ops.toList (ghostsD [] s) := w_region
theorem r17_2 {ops : Array Oper} {draw : Bool} {s : St} : evW Try.prog A0 17 (.region 2 ops draw) s = regW Try.prog A0 (draw && true) ops ops.toList (ghostsD [] s) := w_region
theorem r17_3 {ops : Array Oper} {draw : Bool} {s : St} : evW Try.prog A0 17 (.region 3 ops draw) s = regW Try.prog A0 (draw && true) ops ops.toList (ghostsD [] s) := w_region
theorem r17_4 {ops : Array Oper} {draw : Bool} {s : St} : evW Try.prog A0 17 (.region 4 ops draw) s = regW Try.prog A0 (draw && true) ops ops.toList (ghostsD [.keep [0, 1, 5]] s) := w_region
theorem r17_6 {ops : Array Oper} {draw : Bool} {s : St} : evW Try.prog A0 17 (.region 6 ops draw) s = regW Try.prog A0 (draw && true) ops ops.toList (ghostsD [] s) := w_region
theorem r17_7 {ops : Array Oper} {draw : Bool} {s : St} : evW Try.prog A0 17 (.region 7 ops draw) s = regW Try.prog A0 (draw && true) ops ops.toList (ghostsD [] s) := w_region
theorem r17_5 {ops : Array Oper} {draw : Bool} {s : St} : evW Try.prog A0 17 (.region 5 ops draw) s = regW Try.prog A0 (draw && true) ops ops.toList (ghostsD [] s) := w_region
theorem r17_8 {ops : Array Oper} {draw : Bool} {s : St} : evW Try.prog A0 17 (.region 8 ops draw) s = regW Try.prog A0 (draw && true) ops ops.toList (ghostsD [.keep [0, 1, 5]] s) := w_region
theorem r18_0 {ops : Array Oper} {draw : Bool} {s : St} : evW Try.prog A0 18 (.region 0 ops draw) s = regW Try.prog A0 (draw && true) ops ops.toList (ghostsD [] s) := w_region
theorem r18_1 {ops : Array Oper} {draw : Bool} {s : St} : evW Try.prog A0 18 (.region 1 ops draw) s = regW Try.prog A0 (draw && true) ops ops.toList (ghostsD [] s) := w_region
theorem r18_2 {ops : Array Oper} {draw : Bool} {s : St} : evW Try.prog A0 18 (.region 2 ops draw) s = regW Try.prog A0 (draw && true) ops ops.toList (ghostsD [] s) := w_region
theorem r18_3 {ops : Array Oper} {draw : Bool} {s : St} : evW Try.prog A0 18 (.region 3 ops draw) s = regW Try.prog A0 (draw && true) ops ops.toList (ghostsD [] s) := w_region
theorem r18_4 {ops : Array Oper} {draw : Bool} {s : St} : evW Try.prog A0 18 (.region 4 ops draw) s = regW Try.prog A0 (draw && true) ops ops.toList (ghostsD [.own 3 1, .keep [3, 4, 9, 10]] s) := w_region
theorem r18_5 {ops : Array Oper} {draw : Bool} {s : St} : evW Try.prog A0 18 (.region 5 ops draw) s = regW Try.prog A0 (draw && true) ops ops.toList (ghostsD [] s) := w_region
theorem r18_6 {ops : Array Oper} {draw : Bool} {s : St} : evW Try.prog A0 18 (.region 6 ops draw) s = regW Try.prog A0 (draw && true) ops ops.toList (ghostsD [] s) := w_region
theorem r18_7 {ops : Array Oper} {draw : Bool} {s : St} : evW Try.prog A0 18 (.region 7 ops draw) s = regW Try.prog A0 (draw && true) ops ops.toList (ghostsD [] s) := w_region
theorem r18_8 {ops : Array Oper} {draw : Bool} {s : St} : evW Try.prog A0 18 (.region 8 ops draw) s = regW Try.prog A0 (draw && true) ops ops.toList (ghostsD [] s) := w_region
theorem r18_9 {ops : Array Oper} {draw : Bool} {s : St} : evW Try.prog A0 18 (.region 9 ops draw) s = regW Try.prog A0 (draw && true) ops ops.toList (ghostsD [] s) := w_region
theorem r18_10 {ops : Array Oper} {draw : Bool} {s : St} : evW Try.prog A0 18 (.region 10 ops draw) s = regW Try.prog A0 (draw && true) ops ops.toList (ghostsD [.keep [3, 4, 9, 10]] s) := w_region
theorem r19_0 {ops : Array Oper} {draw : Bool} {s : St} : evW Try.prog A0 19 (.region 0 ops draw) s = regW Try.prog A0 (draw && true) ops ops.toList (ghostsD [] s) := w_region
theorem r19_1 {ops : Array Oper} {draw : Bool} {s : St} : evW Try.prog A0 19 (.region 1 ops draw) s = regW Try.prog A0 (draw && true) ops ops.toList (ghostsD [] s) := w_region
theorem r19_2 {ops : Array Oper} {draw : Bool} {s : St} : evW Try.prog A0 19 (.region 2 ops draw) s = regW Try.prog A0 (draw && true) ops ops.toList (ghostsD [] s) := w_region
theorem r19_3 {ops : Array Oper} {draw : Bool} {s : St} : evW Try.prog A0 19 (.region 3 ops draw) s = regW Try.prog A0 (draw && true) ops ops.toList (ghostsD [] s) := w_region
theorem r19_4 {ops : Array Oper} {draw : Bool} {s : St} : evW Try.prog A0 19 (.region 4 ops draw) s = regW Try.prog A0 (draw && true) ops ops.toList (ghostsD [.own 4 1, .keep [0, 3, 4, 5]] s) := w_region
theorem r19_6 {ops : Array Oper} {draw : Bool} {s : St} : evW Try.prog A0 19 (.region 6 ops draw) s = regW Try.prog A0 (draw && true) ops ops.toList (ghostsD [] s) := w_region
theorem r19_7 {ops : Array Oper} {draw : Bool} {s : St} : evW Try.prog A0 19 (.region 7 ops draw) s = regW Try.prog A0 (draw && true) ops ops.toList (ghostsD [] s) := w_region
theorem r19_5 {ops : Array Oper} {draw : Bool} {s : St} : evW Try.prog A0 19 (.region 5 ops draw) s = regW Try.prog A0 (draw && true) ops ops.toList (ghostsD [] s) := w_region
theorem r19_8 {ops : Array Oper} {draw : Bool} {s : St} : evW Try.prog A0 19 (.region 8 ops draw) s = regW Try.prog A0 (draw && true) ops ops.toList (ghostsD [.keep [0, 3, 4, 5]] s) := w_region
theorem r20_0 {ops : Array Oper} {draw : Bool} {s : St} : evW Try.prog A0 20 (.region 0 ops draw) s = regW Try.prog A0 (draw && true) ops ops.toList (ghostsD [] s) := w_region
theorem r20_1 {ops : Array Oper} {draw : Bool} {s : St} : evW Try.prog A0 20 (.region 1 ops draw) s = regW Try.prog A0 (draw && true) ops ops.toList (ghostsD [] s) := w_region
theorem r20_2 {ops : Array Oper} {draw : Bool} {s : St} : evW Try.prog A0 20 (.region 2 ops draw) s = regW Try.prog A0 (draw && true) ops ops.toList (ghostsD [] s) := w_region
theorem r20_3 {ops : Array Oper} {draw : Bool} {s : St} : evW Try.prog A0 20 (.region 3 ops draw) s = regW Try.prog A0 (draw && true) ops ops.toList (ghostsD [] s) := w_region
theorem r20_4 {ops : Array Oper} {draw : Bool} {s : St} : evW Try.prog A0 20 (.region 4 ops draw) s = regW Try.prog A0 (draw && true) ops ops.toList (ghostsD [.keep [0, 3, 4, 5]] s) := w_region
theorem r20_6 {ops : Array Oper} {draw : Bool} {s : St} : evW Try.prog A0 20 (.region 6 ops draw) s = regW Try.prog A0 (draw && true) ops ops.toList (ghostsD [] s) := w_region
theorem r20_7 {ops : Array Oper} {draw : Bool} {s : St} : evW Try.prog A0 20 (.region 7 ops draw) s = regW Try.prog A0 (draw && true) ops ops.toList (ghostsD [] s) := w_region
theorem r20_8 {ops : Array Oper} {draw : Bool} {s : St} : evW Try.prog A0 20 (.region 8 ops draw) s = regW Try.prog A0 (draw && true) ops ops.toList (ghostsD [.keep [0, 3, 4, 5, 6]] s) := w_region
theorem r20_10 {ops : Array Oper} {draw : Bool} {s : St} : evW Try.prog A0 20 (.region 10 ops draw) s = regW Try.prog A0 (draw && true) ops ops.toList (ghostsD [] s) := w_region
theorem r20_11 {ops : Array Oper} {draw : Bool} {s : St} : evW Try.prog A0 20 (.region 11 ops draw) s = regW Try.prog A0 (draw && true) ops ops.toList (ghostsD [] s) := w_region
theorem r20_9 {ops : Array Oper} {draw : Bool} {s : St} : evW Try.prog A0 20 (.region 9 ops draw) s = regW Try.prog A0 (draw && true) ops ops.toList (ghostsD [] s) := w_region
theorem r20_12 {ops : Array Oper} {draw : Bool} {s : St} : evW Try.prog A0 20 (.region 12 ops draw) s = regW Try.prog A0 (draw && true) ops ops.toList (ghostsD [.keep [0, 3, 4, 5, 6]] s) := w_region
theorem r20_5 {ops : Array Oper} {draw : Bool} {s : St} : evW Try.prog A0 20 (.region 5 ops draw) s = regW Try.prog A0 (draw && true) ops ops.toList (ghostsD [] s) := w_region
theorem r20_13 {ops : Array Oper} {draw : Bool} {s : St} : evW Try.prog A0 20 (.region 13 ops draw) s = regW Try.prog A0 (draw && true) ops ops.toList (ghostsD [.keep [0, 3, 4, 5]] s) := w_region
theorem r20_14 {ops : Array Oper} {draw : Bool} {s : St} : evW Try.prog A0 20 (.region 14 ops draw) s = regW Try.prog A0 (draw && true) ops ops.toList (ghostsD [] s) := w_region
theorem r20_15 {ops : Array Oper} {draw : Bool} {s : St} : evW Try.prog A0 20 (.region 15 ops draw) s = regW Try.prog A0 (draw && true) ops ops.toList (ghostsD [.own 7 1, .keep [0, 3, 4, 7, 8]] s) := w_region
theorem r20_17 {ops : Array Oper} {draw : Bool} {s : St} : evW Try.prog A0 20 (.region 17 ops draw) s = regW Try.prog A0 (draw && true) ops ops.toList (ghostsD [] s) := w_region
theorem r20_18 {ops : Array Oper} {draw : Bool} {s : St} : evW Try.prog A0 20 (.region 18 ops draw) s = regW Try.prog A0 (draw && true) ops ops.toList (ghostsD [] s) := w_region
theorem r20_19 {ops : Array Oper} {draw : Bool} {s : St} : evW Try.prog A0 20 (.region 19 ops draw) s = regW Try.prog A0 (draw && true) ops ops.toList (ghostsD [] s) := w_region
theorem r20_16 {ops : Array Oper} {draw : Bool} {s : St} : evW Try.prog A0 20 (.region 16 ops draw) s = regW Try.prog A0 (draw && true) ops ops.toList (ghostsD [] s) := w_region
theorem r20_20 {ops : Array Oper} {draw : Bool} {s : St} : evW Try.prog A0 20 (.region 20 ops draw) s = regW Try.prog A0 (draw && true) ops ops.toList (ghostsD [.keep [0, 3, 4, 7, 8]] s) := w_region
theorem r21_0 {ops : Array Oper} {draw : Bool} {s : St} : evW Try.prog A0 21 (.region 0 ops draw) s = regW Try.prog A0 (draw && true) ops ops.toList (ghostsD [] s) := w_region
theorem r21_1 {ops : Array Oper} {draw : Bool} {s : St} : evW Try.prog A0 21 (.region 1 ops draw) s = regW Try.prog A0 (draw && true) ops ops.toList (ghostsD [] s) := w_region
theorem r21_2 {ops : Array Oper} {draw : Bool} {s : St} : evW Try.prog A0 21 (.region 2 ops draw) s = regW Try.prog A0 (draw && true) ops ops.toList (ghostsD [] s) := w_region
theorem r21_3 {ops : Array Oper} {draw : Bool} {s : St} : evW Try.prog A0 21 (.region 3 ops draw) s = regW Try.prog A0 (draw && true) ops ops.toList (ghostsD [] s) := w_region
theorem r21_4 {ops : Array Oper} {draw : Bool} {s : St} : evW Try.prog A0 21 (.region 4 ops draw) s = regW Try.prog A0 (draw && true) ops ops.toList (ghostsD [.keep [2, 3, 4, 7, 8, 9]] s) := w_region
theorem r21_6 {ops : Array Oper} {draw : Bool} {s : St} : evW Try.prog A0 21 (.region 6 ops draw) s = regW Try.prog A0 (draw && true) ops ops.toList (ghostsD [] s) := w_region
theorem r21_7 {ops : Array Oper} {draw : Bool} {s : St} : evW Try.prog A0 21 (.region 7 ops draw) s = regW Try.prog A0 (draw && true) ops ops.toList (ghostsD [] s) := w_region
theorem r21_8 {ops : Array Oper} {draw : Bool} {s : St} : evW Try.prog A0 21 (.region 8 ops draw) s = regW Try.prog A0 (draw && true) ops ops.toList (ghostsD [] s) := w_region
theorem r21_9 {ops : Array Oper} {draw : Bool} {s : St} : evW Try.prog A0 21 (.region 9 ops draw) s = regW Try.prog A0 (draw && true) ops ops.toList (ghostsD [] s) := w_region
theorem r21_10 {ops : Array Oper} {draw : Bool} {s : St} : evW Try.prog A0 21 (.region 10 ops draw) s = regW Try.prog A0 (draw && true) ops ops.toList (ghostsD [] s) := w_region
theorem r21_5 {ops : Array Oper} {draw : Bool} {s : St} : evW Try.prog A0 21 (.region 5 ops draw) s = regW Try.prog A0 (draw && true) ops ops.toList (ghostsD [] s) := w_region
theorem r21_11 {ops : Array Oper} {draw : Bool} {s : St} : evW Try.prog A0 21 (.region 11 ops draw) s = regW Try.prog A0 (draw && true) ops ops.toList (ghostsD [.keep [2, 3, 4, 7, 8, 9]] s) := w_region
theorem r21_12 {ops : Array Oper} {draw : Bool} {s : St} : evW Try.prog A0 21 (.region 12 ops draw) s = regW Try.prog A0 (draw && true) ops ops.toList (ghostsD [] s) := w_region
theorem r21_13 {ops : Array Oper} {draw : Bool} {s : St} : evW Try.prog A0 21 (.region 13 ops draw) s = regW Try.prog A0 (draw && true) ops ops.toList (ghostsD [] s) := w_region
theorem r22_0 {ops : Array Oper} {draw : Bool} {s : St} : evW Try.prog A0 22 (.region 0 ops draw) s = regW Try.prog A0 (draw && true) ops ops.toList (ghostsD [] s) := w_region
theorem r22_1 {ops : Array Oper} {draw : Bool} {s : St} : evW Try.prog A0 22 (.region 1 ops draw) s = regW Try.prog A0 (draw && true) ops ops.toList (ghostsD [] s) := w_region
theorem r22_2 {ops : Array Oper} {draw : Bool} {s : St} : evW Try.prog A0 22 (.region 2 ops draw) s = regW Try.prog A0 (draw && true) ops ops.toList (ghostsD [] s) := w_region
theorem r22_3 {ops : Array Oper} {draw : Bool} {s : St} : evW Try.prog A0 22 (.region 3 ops draw) s = regW Try.prog A0 (draw && true) ops ops.toList (ghostsD [.keep [0, 3, 4]] s) := w_region
theorem r22_5 {ops : Array Oper} {draw : Bool} {s : St} : evW Try.prog A0 22 (.region 5 ops draw) s = regW Try.prog A0 (draw && true) ops ops.toList (ghostsD [] s) := w_region
theorem r22_4 {ops : Array Oper} {draw : Bool} {s : St} : evW Try.prog A0 22 (.region 4 ops draw) s = regW Try.prog A0 (draw && true) ops ops.toList (ghostsD [] s) := w_region
theorem r22_6 {ops : Array Oper} {draw : Bool} {s : St} : evW Try.prog A0 22 (.region 6 ops draw) s = regW Try.prog A0 (draw && true) ops ops.toList (ghostsD [.keep [0, 3, 4]] s) := w_region
theorem r23_0 {ops : Array Oper} {draw : Bool} {s : St} : evW Try.prog A0 23 (.region 0 ops draw) s = regW Try.prog A0 (draw && true) ops ops.toList (ghostsD [] s) := w_region
theorem r23_1 {ops : Array Oper} {draw : Bool} {s : St} : evW Try.prog A0 23 (.region 1 ops draw) s = regW Try.prog A0 (draw && true) ops ops.toList (ghostsD [] s) := w_region
theorem r23_2 {ops : Array Oper} {draw : Bool} {s : St} : evW Try.prog A0 23 (.region 2 ops draw) s = regW Try.prog A0 (draw && true) ops ops.toList (ghostsD [] s) := w_region
theorem r23_3 {ops : Array Oper} {draw : Bool} {s : St} : evW Try.prog A0 23 (.region 3 ops draw) s = regW Try.prog A0 (draw && true) ops ops.toList (ghostsD [.keep [0, 1, 5, 6]] s) := w_region
theorem r23_5 {ops : Array Oper} {draw : Bool} {s : St} : evW Try.prog A0 23 (.region 5 ops draw) s = regW Try.prog A0 (draw && true) ops ops.toList (ghostsD [] s) := w_region
theorem r23_6 {ops : Array Oper} {draw : Bool} {s : St} : evW Try.prog A0 23 (.region 6 ops draw) s = regW Try.prog A0 (draw && true) ops ops.toList (ghostsD [] s) := w_region
theorem r23_4 {ops : Array Oper} {draw : Bool} {s : St} : evW Try.prog A0 23 (.region 4 ops draw) s = regW Try.prog A0 (draw && true) ops ops.toList (ghostsD [] s) := w_region
theorem r23_7 {ops : Array Oper} {draw : Bool} {s : St} : evW Try.prog A0 23 (.region 7 ops draw) s = regW Try.prog A0 (draw && true) ops ops.toList (ghostsD [.keep [0, 1, 5, 6]] s) := w_region
theorem r24_0 {ops : Array Oper} {draw : Bool} {s : St} : evW Try.prog A0 24 (.region 0 ops draw) s = regW Try.prog A0 (draw && true) ops ops.toList (ghostsD [] s) := w_region
theorem r24_1 {ops : Array Oper} {draw : Bool} {s : St} : evW Try.prog A0 24 (.region 1 ops draw) s = regW Try.prog A0 (draw && true) ops ops.toList (ghostsD [] s) := w_region
theorem r24_2 {ops : Array Oper} {draw : Bool} {s : St} : evW Try.prog A0 24 (.region 2 ops draw) s = regW Try.prog A0 (draw && true) ops ops.toList (ghostsD [] s) := w_region
theorem r24_3 {ops : Array Oper} {draw : Bool} {s : St} : evW Try.prog A0 24 (.region 3 ops draw) s = regW Try.prog A0 (draw && true) ops ops.toList (ghostsD [.keep [1, 3, 4]] s) := w_region
theorem r24_5 {ops : Array Oper} {draw : Bool} {s : St} : evW Try.prog A0 24 (.region 5 ops draw) s = regW Try.prog A0 (draw && true) ops ops.toList (ghostsD [] s) := w_region
theorem r24_4 {ops : Array Oper} {draw : Bool} {s : St} : evW Try.prog A0 24 (.region 4 ops draw) s = regW Try.prog A0 (draw && true) ops ops.toList (ghostsD [] s) := w_region
theorem r24_6 {ops : Array Oper} {draw : Bool} {s : St} : evW Try.prog A0 24 (.region 6 ops draw) s = regW Try.prog A0 (draw && true) ops ops.toList (ghostsD [.keep [1, 3, 4]] s) := w_region
theorem r25_0 {ops : Array Oper} {draw : Bool} {s : St} : evW Try.prog A0 25 (.region 0 ops draw) s = regW Try.prog A0 (draw && true) ops ops.toList (ghostsD [] s) := w_region
theorem r25_1 {ops : Array Oper} {draw : Bool} {s : St} : evW Try.prog A0 25 (.region 1 ops draw) s = regW Try.prog A0 (draw && true) ops ops.toList (ghostsD [] s) := w_region
theorem r26_0 {ops : Array Oper} {draw : Bool} {s : St} : evW Try.prog A0 26 (.region 0 ops draw) s = regW Try.prog A0 (draw && true) ops ops.toList (ghostsD [] s) := w_region
theorem r26_1 {ops : Array Oper} {draw : Bool} {s : St} : evW Try.prog A0 26 (.region 1 ops draw) s = regW Try.prog A0 (draw && true) ops ops.toList (ghostsD [] s) := w_region
theorem r27_0 {ops : Array Oper} {draw : Bool} {s : St} : evW Try.prog A0 27 (.region 0 ops draw) s = regW Try.prog A0 (draw && true) ops ops.toList (ghostsD [] s) := w_region
theorem r27_1 {ops : Array Oper} {draw : Bool} {s : St} : evW Try.prog A0 27 (.region 1 ops draw) s = regW Try.prog A0 (draw && true) ops ops.toList (ghostsD [] s) := w_region
theorem r28_0 {ops : Array Oper} {draw : Bool} {s : St} : evW Try.prog A0 28 (.region 0 ops draw) s = regW Try.prog A0 (draw && true) ops ops.toList (ghostsD [] s) := w_region
theorem r28_1 {ops : Array Oper} {draw : Bool} {s : St} : evW Try.prog A0 28 (.region 1 ops draw) s = regW Try.prog A0 (draw && true) ops ops.toList (ghostsD [] s) := w_region
theorem r28_2 {ops : Array Oper} {draw : Bool} {s : St} : evW Try.prog A0 28 (.region 2 ops draw) s = regW Try.prog A0 (draw && true) ops ops.toList (ghostsD [] s) := w_region
theorem r28_3 {ops : Array Oper} {draw : Bool} {s : St} : evW Try.prog A0 28 (.region 3 ops draw) s = regW Try.prog A0 (draw && true) ops ops.toList (ghostsD [] s) := w_region
theorem r28_4 {ops : Array Oper} {draw : Bool} {s : St} : evW Try.prog A0 28 (.region 4 ops draw) s = regW Try.prog A0 (draw && true) ops ops.toList (ghostsD [] s) := w_region
theorem r28_5 {ops : Array Oper} {draw : Bool} {s : St} : evW Try.prog A0 28 (.region 5 ops draw) s = regW Try.prog A0 (draw && true) ops ops.toList (ghostsD [.keep [3, 4, 7, 8, 9, 10, 20, 21, 22]] s) := w_region
theorem r28_6 {ops : Array Oper} {draw : Bool} {s : St} : evW Try.prog A0 28 (.region 6 ops draw) s = regW Try.prog A0 (draw && true) ops ops.toList (ghostsD [] s) := w_region
theorem r28_7 {ops : Array Oper} {draw : Bool} {s : St} : evW Try.prog A0 28 (.region 7 ops draw) s = regW Try.prog A0 (draw && true) ops ops.toList (ghostsD [] s) := w_region
theorem r28_8 {ops : Array Oper} {draw : Bool} {s : St} : evW Try.prog A0 28 (.region 8 ops draw) s = regW Try.prog A0 (draw && true) ops ops.toList (ghostsD [] s) := w_region
theorem r28_9 {ops : Array Oper} {draw : Bool} {s : St} : evW Try.prog A0 28 (.region 9 ops draw) s = regW Try.prog A0 (draw && true) ops ops.toList (ghostsD [] s) := w_region
theorem r28_10 {ops : Array Oper} {draw : Bool} {s : St} : evW Try.prog A0 28 (.region 10 ops draw) s = regW Try.prog A0 (draw && true) ops ops.toList (ghostsD [] s) := w_region
theorem r28_11 {ops : Array Oper} {draw : Bool} {s : St} : evW Try.prog A0 28 (.region 11 ops draw) s = regW Try.prog A0 (draw && true) ops ops.toList (ghostsD [] s) := w_region
theorem r28_12 {ops : Array Oper} {draw : Bool} {s : St} : evW Try.prog A0 28 (.region 12 ops draw) s = regW Try.prog A0 (draw && true) ops ops.toList (ghostsD [] s) := w_region
theorem r28_13 {ops : Array Oper} {draw : Bool} {s : St} : evW Try.prog A0 28 (.region 13 ops draw) s = regW Try.prog A0 (draw && true) ops ops.toList (ghostsD [.keep [3, 4, 7, 8, 9, 10, 20, 21, 22]] s) := w_region
theorem r28_14 {ops : Array Oper} {draw : Bool} {s : St} : evW Try.prog A0 28 (.region 14 ops draw) s = regW Try.prog A0 (draw && true) ops ops.toList (ghostsD [] s) := w_region
theorem r28_15 {ops : Array Oper} {draw : Bool} {s : St} : evW Try.prog A0 28 (.region 15 ops draw) s = regW Try.prog A0 (draw && true) ops ops.toList (ghostsD [] s) := w_region
theorem r29_0 {ops : Array Oper} {draw : Bool} {s : St} : evW Try.prog A0 29 (.region 0 ops draw) s = regW Try.prog A0 (draw && true) ops ops.toList (ghostsD [] s) := w_region
theorem r29_1 {ops : Array Oper} {draw : Bool} {s : St} : evW Try.prog A0 29 (.region 1 ops draw) s = regW Try.prog A0 (draw && true) ops ops.toList (ghostsD [] s) := w_region
theorem r32_0 {ops : Array Oper} {draw : Bool} {s : St} : evW Try.prog A0 32 (.region 0 ops draw) s = regW Try.prog A0 (draw && true) ops ops.toList (ghostsD [] s) := w_region
theorem r32_1 {ops : Array Oper} {draw : Bool} {s : St} : evW Try.prog A0 32 (.region 1 ops draw) s = regW Try.prog A0 (draw && true) ops ops.toList (ghostsD [] s) := w_region
theorem r32_2 {ops : Array Oper} {draw : Bool} {s : St} : evW Try.prog A0 32 (.region 2 ops draw) s = regW Try.prog A0 (draw && true) ops ops.toList (ghostsD [.keep [0, 1, 7, 8]] s) := w_region
theorem r32_3 {ops : Array Oper} {draw : Bool} {s : St} : evW Try.prog A0 32 (.region 3 ops draw) s = regW Try.prog A0 (draw && true) ops ops.toList (ghostsD [] s) := w_region
theorem r32_4 {ops : Array Oper} {draw : Bool} {s : St} : evW Try.prog A0 32 (.region 4 ops draw) s = regW Try.prog A0 (draw && true) ops ops.toList (ghostsD [] s) := w_region
theorem r32_5 {ops : Array Oper} {draw : Bool} {s : St} : evW Try.prog A0 32 (.region 5 ops draw) s = regW Try.prog A0 (draw && true) ops ops.toList (ghostsD [] s) := w_region
theorem r32_6 {ops : Array Oper} {draw : Bool} {s : St} : evW Try.prog A0 32 (.region 6 ops draw) s = regW Try.prog A0 (draw && true) ops ops.toList (ghostsD [] s) := w_region
theorem r32_7 {ops : Array Oper} {draw : Bool} {s : St} : evW Try.prog A0 32 (.region 7 ops draw) s = regW Try.prog A0 (draw && true) ops ops.toList (ghostsD [.keep [0, 1, 7, 8]] s) := w_region
theorem r33_0 {ops : Array Oper} {draw : Bool} {s : St} : evW Try.prog A0 33 (.region 0 ops draw) s = regW Try.prog A0 (draw && true) ops ops.toList (ghostsD [] s) := w_region
theorem r33_1 {ops : Array Oper} {draw : Bool} {s : St} : evW Try.prog A0 33 (.region 1 ops draw) s = regW Try.prog A0 (draw && true) ops ops.toList (ghostsD [] s) := w_region
theorem r35_0 {ops : Array Oper} {draw : Bool} {s : St} : evW Try.prog A0 35 (.region 0 ops draw) s = regW Try.prog A0 (draw && true) ops ops.toList (ghostsD [] s) := w_region
theorem r35_1 {ops : Array Oper} {draw : Bool} {s : St} : evW Try.prog A0 35 (.region 1 ops draw) s = regW Try.prog A0 (draw && true) ops ops.toList (ghostsD [] s) := w_region
theorem r35_2 {ops : Array Oper} {draw : Bool} {s : St} : evW Try.prog A0 35 (.region 2 ops draw) s = regW Try.prog A0 (draw && true) ops ops.toList (ghostsD [] s) := w_region
theorem r36_0 {ops : Array Oper} {draw : Bool} {s : St} : evW Try.prog A0 36 (.region 0 ops draw) s = regW Try.prog A0 (draw && true) ops ops.toList (ghostsD [] s) := w_region
theorem r36_1 {ops : Array Oper} {draw : Bool} {s : St} : evW Try.prog A0 36 (.region 1 ops draw) s = regW Try.prog A0 (draw && true) ops ops.toList (ghostsD [] s) := w_region
theorem r36_2 {ops : Array Oper} {draw : Bool} {s : St} : evW Try.prog A0 36 (.region 2 ops draw) s = regW Try.prog A0 (draw && true) ops ops.toList (ghostsD [] s) := w_region
theorem r36_3 {ops : Array Oper} {draw : Bool} {s : St} : evW Try.prog A0 36 (.region 3 ops draw) s = regW Try.prog A0 (draw && true) ops ops.toList (ghostsD [] s) := w_region
theorem r36_4 {ops : Array Oper} {draw : Bool} {s : St} : evW Try.prog A0 36 (.region 4 ops draw) s = regW Try.prog A0 (draw && true) ops ops.toList (ghostsD [] s) := w_region
theorem r36_5 {ops : Array Oper} {draw : Bool} {s : St} : evW Try.prog A0 36 (.region 5 ops draw) s = regW Try.prog A0 (draw && true) ops ops.toList (ghostsD [] s) := w_region
theorem r36_6 {ops : Array Oper} {draw : Bool} {s : St} : evW Try.prog A0 36 (.region 6 ops draw) s = regW Try.prog A0 (draw && true) ops ops.toList (ghostsD [] s) := w_region
theorem r36_7 {ops : Array Oper} {draw : Bool} {s : St} : evW Try.prog A0 36 (.region 7 ops draw) s = regW Try.prog A0 (draw && true) ops ops.toList (ghostsD [] s) := w_region
theorem r36_8 {ops : Array Oper} {draw : Bool} {s : St} : evW Try.prog A0 36 (.region 8 ops draw) s = regW Try.prog A0 (draw && true) ops ops.toList (ghostsD [] s) := w_region
theorem r37_0 {ops : Array Oper} {draw : Bool} {s : St} : evW Try.prog A0 37 (.region 0 ops draw) s = regW Try.prog A0 (draw && true) ops ops.toList (ghostsD [] s) := w_region
theorem r37_1 {ops : Array Oper} {draw : Bool} {s : St} : evW Try.prog A0 37 (.region 1 ops draw) s = regW Try.prog A0 (draw && true) ops ops.toList (ghostsD [] s) := w_region
theorem r39_0 {ops : Array Oper} {draw : Bool} {s : St} : evW Try.prog A0 39 (.region 0 ops draw) s = regW Try.prog A0 (draw && true) ops ops.toList (ghostsD [] s) := w_region
theorem r39_1 {ops : Array Oper} {draw : Bool} {s : St} : evW Try.prog A0 39 (.region 1 ops draw) s = regW Try.prog A0 (draw && true) ops ops.toList (ghostsD [] s) := w_region
theorem r39_2 {ops : Array Oper} {draw : Bool} {s : St} : evW Try.prog A0 39 (.region 2 ops draw) s = regW Try.prog A0 (draw && true) ops ops.toList (ghostsD [] s) := w_region
theorem r39_3 {ops : Array Oper} {draw : Bool} {s : St} : evW Try.prog A0 39 (.region 3 ops draw) s = regW Try.prog A0 (draw && true) ops ops.toList (ghostsD [] s) := w_region
theorem r39_4 {ops : Array Oper} {draw : Bool} {s : St} : evW Try.prog A0 39 (.region 4 ops draw) s = regW Try.prog A0 (draw && true) ops ops.toList (ghostsD [.keep [0, 3, 4, 5]] s) := w_region
theorem r39_6 {ops : Array Oper} {draw : Bool} {s : St} : evW Try.prog A0 39 (.region 6 ops draw) s = regW Try.prog A0 (draw && true) ops ops.toList (ghostsD [] s) := w_region
theorem r39_7 {ops : Array Oper} {draw : Bool} {s : St} : evW Try.prog A0 39 (.region 7 ops draw) s = regW Try.prog A0 (draw && true) ops ops.toList (ghostsD [] s) := w_region
theorem r39_8 {ops : Array Oper} {draw : Bool} {s : St} : evW Try.prog A0 39 (.region 8 ops draw) s = regW Try.prog A0 (draw && true) ops ops.toList (ghostsD [.keep [0, 3, 4, 5, 6]] s) := w_region
theorem r39_10 {ops : Array Oper} {draw : Bool} {s : St} : evW Try.prog A0 39 (.region 10 ops draw) s = regW Try.prog A0 (draw && true) ops ops.toList (ghostsD [] s) := w_region
theorem r39_11 {ops : Array Oper} {draw : Bool} {s : St} : evW Try.prog A0 39 (.region 11 ops draw) s = regW Try.prog A0 (draw && true) ops ops.toList (ghostsD [] s) := w_region
theorem r39_9 {ops : Array Oper} {draw : Bool} {s : St} : evW Try.prog A0 39 (.region 9 ops draw) s = regW Try.prog A0 (draw && true) ops ops.toList (ghostsD [] s) := w_region
theorem r39_12 {ops : Array Oper} {draw : Bool} {s : St} : evW Try.prog A0 39 (.region 12 ops draw) s = regW Try.prog A0 (draw && true) ops ops.toList (ghostsD [.keep [0, 3, 4, 5, 6]] s) := w_region
theorem r39_5 {ops : Array Oper} {draw : Bool} {s : St} : evW Try.prog A0 39 (.region 5 ops draw) s = regW Try.prog A0 (draw && true) ops ops.toList (ghostsD [] s) := w_region
theorem r39_13 {ops : Array Oper} {draw : Bool} {s : St} : evW Try.prog A0 39 (.region 13 ops draw) s = regW Try.prog A0 (draw && true) ops ops.toList (ghostsD [.keep [0, 3, 4, 5]] s) := w_region
theorem r39_14 {ops : Array Oper} {draw : Bool} {s : St} : evW Try.prog A0 39 (.region 14 ops draw) s = regW Try.prog A0 (draw && true) ops ops.toList (ghostsD [] s) := w_region
theorem r39_15 {ops : Array Oper} {draw : Bool} {s : St} : evW Try.prog A0 39 (.region 15 ops draw) s = regW Try.prog A0 (draw && true) ops ops.toList (ghostsD [.own 7 1, .keep [0, 3, 4, 7, 59, 60]] s) := w_region
theorem r39_16 {ops : Array Oper} {draw : Bool} {s : St} : evW Try.prog A0 39 (.region 16 ops draw) s = regW Try.prog A0 (draw && true) ops ops.toList (ghostsD [] s) := w_region
theorem r39_17 {ops : Array Oper} {draw : Bool} {s : St} : evW Try.prog A0 39 (.region 17 ops draw) s = regW Try.prog A0 (draw && true) ops ops.toList (ghostsD [] s) := w_region
theorem r39_18 {ops : Array Oper} {draw : Bool} {s : St} : evW Try.prog A0 39 (.region 18 ops draw) s = regW Try.prog A0 (draw && true) ops ops.toList (ghostsD [] s) := w_region
theorem r39_19 {ops : Array Oper} {draw : Bool} {s : St} : evW Try.prog A0 39 (.region 19 ops draw) s = regW Try.prog A0 (draw && true) ops ops.toList (ghostsD [] s) := w_region
theorem r39_20 {ops : Array Oper} {draw : Bool} {s : St} : evW Try.prog A0 39 (.region 20 ops draw) s = regW Try.prog A0 (draw && true) ops ops.toList (ghostsD [] s) := w_region
theorem r39_21 {ops : Array Oper} {draw : Bool} {s : St} : evW Try.prog A0 39 (.region 21 ops draw) s = regW Try.prog A0 (draw && true) ops ops.toList (ghostsD [.keep [0, 3, 4, 7, 59, 60]] s) := w_region
theorem r40_0 {ops : Array Oper} {draw : Bool} {s : St} : evW Try.prog A0 40 (.region 0 ops draw) s = regW Try.prog A0 (draw && true) ops ops.toList (ghostsD [] s) := w_region
theorem r40_1 {ops : Array Oper} {draw : Bool} {s : St} : evW Try.prog A0 40 (.region 1 ops draw) s = regW Try.prog A0 (draw && true) ops ops.toList (ghostsD [] s) := w_region
theorem r40_2 {ops : Array Oper} {draw : Bool} {s : St} : evW Try.prog A0 40 (.region 2 ops draw) s = regW Try.prog A0 (draw && true) ops ops.toList (ghostsD [.keep [0, 1, 5]] s) := w_region
theorem r40_4 {ops : Array Oper} {draw : Bool} {s : St} : evW Try.prog A0 40 (.region 4 ops draw) s = regW Try.prog A0 (draw && true) ops ops.toList (ghostsD [] s) := w_region
theorem r40_5 {ops : Array Oper} {draw : Bool} {s : St} : evW Try.prog A0 40 (.region 5 ops draw) s = regW Try.prog A0 (draw && true) ops ops.toList (ghostsD [] s) := w_region
theorem r40_3 {ops : Array Oper} {draw : Bool} {s : St} : evW Try.prog A0 40 (.region 3 ops draw) s = regW Try.prog A0 (draw && true) ops ops.toList (ghostsD [] s) := w_region
theorem r40_6 {ops : Array Oper} {draw : Bool} {s : St} : evW Try.prog A0 40 (.region 6 ops draw) s = regW Try.prog A0 (draw && true) ops ops.toList (ghostsD [.keep [0, 1, 5]] s) := w_region
theorem r41_0 {ops : Array Oper} {draw : Bool} {s : St} : evW Try.prog A0 41 (.region 0 ops draw) s = regW Try.prog A0 (draw && true) ops ops.toList (ghostsD [] s) := w_region
theorem r41_1 {ops : Array Oper} {draw : Bool} {s : St} : evW Try.prog A0 41 (.region 1 ops draw) s = regW Try.prog A0 (draw && true) ops ops.toList (ghostsD [] s) := w_region
theorem r41_2 {ops : Array Oper} {draw : Bool} {s : St} : evW Try.prog A0 41 (.region 2 ops draw) s = regW Try.prog A0 (draw && true) ops ops.toList (ghostsD [.keep [0, 1, 5]] s) := w_region
theorem r41_4 {ops : Array Oper} {draw : Bool} {s : St} : evW Try.prog A0 41 (.region 4 ops draw) s = regW Try.prog A0 (draw && true) ops ops.toList (ghostsD [] s) := w_region
theorem r41_5 {ops : Array Oper} {draw : Bool} {s : St} : evW Try.prog A0 41 (.region 5 ops draw) s = regW Try.prog A0 (draw && true) ops ops.toList (ghostsD [] s) := w_region
theorem r41_3 {ops : Array Oper} {draw : Bool} {s : St} : evW Try.prog A0 41 (.region 3 ops draw) s = regW Try.prog A0 (draw && true) ops ops.toList (ghostsD [] s) := w_region
theorem r41_6 {ops : Array Oper} {draw : Bool} {s : St} : evW Try.prog A0 41 (.region 6 ops draw) s = regW Try.prog A0 (draw && true) ops ops.toList (ghostsD [.keep [0, 1, 5]] s) := w_region
theorem r42_0 {ops : Array Oper} {draw : Bool} {s : St} : evW Try.prog A0 42 (.region 0 ops draw) s = regW Try.prog A0 (draw && true) ops ops.toList (ghostsD [] s) := w_region
theorem r42_1 {ops : Array Oper} {draw : Bool} {s : St} : evW Try.prog A0 42 (.region 1 ops draw) s = regW Try.prog A0 (draw && true) ops ops.toList (ghostsD [] s) := w_region
theorem r42_2 {ops : Array Oper} {draw : Bool} {s : St} : evW Try.prog A0 42 (.region 2 ops draw) s = regW Try.prog A0 (draw && true) ops ops.toList (ghostsD [] s) := w_region
theorem r42_3 {ops : Array Oper} {draw : Bool} {s : St} : evW Try.prog A0 42 (.region 3 ops draw) s = regW Try.prog A0 (draw && true) ops ops.toList (ghostsD [] s) := w_region
theorem r42_4 {ops : Array Oper} {draw : Bool} {s : St} : evW Try.prog A0 42 (.region 4 ops draw) s = regW Try.prog A0 (draw && true) ops ops.toList (ghostsD [.own 5 2, .keep [0, 3, 5, 6, 7]] s) := w_region
theorem r42_6 {ops : Array Oper} {draw : Bool} {s : St} : evW Try.prog A0 42 (.region 6 ops draw) s = regW Try.prog A0 (draw && true) ops ops.toList (ghostsD [] s) := w_region
theorem r42_7 {ops : Array Oper} {draw : Bool} {s : St} : evW Try.prog A0 42 (.region 7 ops draw) s = regW Try.prog A0 (draw && true) ops ops.toList (ghostsD [] s) := w_region
theorem r42_8 {ops : Array Oper} {draw : Bool} {s : St} : evW Try.prog A0 42 (.region 8 ops draw) s = regW Try.prog A0 (draw && true) ops ops.toList (ghostsD [] s) := w_region
theorem r42_9 {ops : Array Oper} {draw : Bool} {s : St} : evW Try.prog A0 42 (.region 9 ops draw) s = regW Try.prog A0 (draw && true) ops ops.toList (ghostsD [] s) := w_region
theorem r42_10 {ops : Array Oper} {draw : Bool} {s : St} : evW Try.prog A0 42 (.region 10 ops draw) s = regW Try.prog A0 (draw && true) ops ops.toList (ghostsD [] s) := w_region
theorem r42_11 {ops : Array Oper} {draw : Bool} {s : St} : evW Try.prog A0 42 (.region 11 ops draw) s = regW Try.prog A0 (draw && true) ops ops.toList (ghostsD [] s) := w_region
theorem r42_5 {ops : Array Oper} {draw : Bool} {s : St} : evW Try.prog A0 42 (.region 5 ops draw) s = regW Try.prog A0 (draw && true) ops ops.toList (ghostsD [] s) := w_region
theorem r42_12 {ops : Array Oper} {draw : Bool} {s : St} : evW Try.prog A0 42 (.region 12 ops draw) s = regW Try.prog A0 (draw && true) ops ops.toList (ghostsD [.keep [0, 3, 5, 6, 7]] s) := w_region
theorem r42_13 {ops : Array Oper} {draw : Bool} {s : St} : evW Try.prog A0 42 (.region 13 ops draw) s = regW Try.prog A0 (draw && true) ops ops.toList (ghostsD [] s) := w_region
theorem r42_14 {ops : Array Oper} {draw : Bool} {s : St} : evW Try.prog A0 42 (.region 14 ops draw) s = regW Try.prog A0 (draw && true) ops ops.toList (ghostsD [] s) := w_region
theorem r43_0 {ops : Array Oper} {draw : Bool} {s : St} : evW Try.prog A0 43 (.region 0 ops draw) s = regW Try.prog A0 (draw && true) ops ops.toList (ghostsD [] s) := w_region
theorem r43_1 {ops : Array Oper} {draw : Bool} {s : St} : evW Try.prog A0 43 (.region 1 ops draw) s = regW Try.prog A0 (draw && true) ops ops.toList (ghostsD [] s) := w_region
theorem r43_2 {ops : Array Oper} {draw : Bool} {s : St} : evW Try.prog A0 43 (.region 2 ops draw) s = regW Try.prog A0 (draw && true) ops ops.toList (ghostsD [] s) := w_region
theorem r43_3 {ops : Array Oper} {draw : Bool} {s : St} : evW Try.prog A0 43 (.region 3 ops draw) s = regW Try.prog A0 (draw && true) ops ops.toList (ghostsD [] s) := w_region
theorem r43_4 {ops : Array Oper} {draw : Bool} {s : St} : evW Try.prog A0 43 (.region 4 ops draw) s = regW Try.prog A0 (draw && true) ops ops.toList (ghostsD [] s) := w_region
theorem r43_5 {ops : Array Oper} {draw : Bool} {s : St} : evW Try.prog A0 43 (.region 5 ops draw) s = regW Try.prog A0 (draw && true) ops ops.toList (ghostsD [.keep [2, 3, 7, 8]] s) := w_region
theorem r43_7 {ops : Array Oper} {draw : Bool} {s : St} : evW Try.prog A0 43 (.region 7 ops draw) s = regW Try.prog A0 (draw && true) ops ops.toList (ghostsD [] s) := w_region
theorem r43_8 {ops : Array Oper} {draw : Bool} {s : St} : evW Try.prog A0 43 (.region 8 ops draw) s = regW Try.prog A0 (draw && true) ops ops.toList (ghostsD [] s) := w_region
theorem r43_9 {ops : Array Oper} {draw : Bool} {s : St} : evW Try.prog A0 43 (.region 9 ops draw) s = regW Try.prog A0 (draw && true) ops ops.toList (ghostsD [] s) := w_region
theorem r43_6 {ops : Array Oper} {draw : Bool} {s : St} : evW Try.prog A0 43 (.region 6 ops draw) s = regW Try.prog A0 (draw && true) ops ops.toList (ghostsD [] s) := w_region
theorem r43_10 {ops : Array Oper} {draw : Bool} {s : St} : evW Try.prog A0 43 (.region 10 ops draw) s = regW Try.prog A0 (draw && true) ops ops.toList (ghostsD [.keep [2, 3, 7, 8]] s) := w_region
theorem r44_0 {ops : Array Oper} {draw : Bool} {s : St} : evW Try.prog A0 44 (.region 0 ops draw) s = regW Try.prog A0 (draw && true) ops ops.toList (ghostsD [] s) := w_region
theorem r44_1 {ops : Array Oper} {draw : Bool} {s : St} : evW Try.prog A0 44 (.region 1 ops draw) s = regW Try.prog A0 (draw && true) ops ops.toList (ghostsD [] s) := w_region
theorem r44_2 {ops : Array Oper} {draw : Bool} {s : St} : evW Try.prog A0 44 (.region 2 ops draw) s = regW Try.prog A0 (draw && true) ops ops.toList (ghostsD [] s) := w_region
theorem r44_3 {ops : Array Oper} {draw : Bool} {s : St} : evW Try.prog A0 44 (.region 3 ops draw) s = regW Try.prog A0 (draw && true) ops ops.toList (ghostsD [] s) := w_region
theorem r44_4 {ops : Array Oper} {draw : Bool} {s : St} : evW Try.prog A0 44 (.region 4 ops draw) s = regW Try.prog A0 (draw && true) ops ops.toList (ghostsD [] s) := w_region
theorem r44_5 {ops : Array Oper} {draw : Bool} {s : St} : evW Try.prog A0 44 (.region 5 ops draw) s = regW Try.prog A0 (draw && true) ops ops.toList (ghostsD [] s) := w_region
theorem r44_6 {ops : Array Oper} {draw : Bool} {s : St} : evW Try.prog A0 44 (.region 6 ops draw) s = regW Try.prog A0 (draw && true) ops ops.toList (ghostsD [] s) := w_region
theorem r44_7 {ops : Array Oper} {draw : Bool} {s : St} : evW Try.prog A0 44 (.region 7 ops draw) s = regW Try.prog A0 (draw && true) ops ops.toList (ghostsD [.keep [0, 7, 8, 35, 36, 37]] s) := w_region
theorem r44_8 {ops : Array Oper} {draw : Bool} {s : St} : evW Try.prog A0 44 (.region 8 ops draw) s = regW Try.prog A0 (draw && true) ops ops.toList (ghostsD [] s) := w_region
theorem r44_9 {ops : Array Oper} {draw : Bool} {s : St} : evW Try.prog A0 44 (.region 9 ops draw) s = regW Try.prog A0 (draw && true) ops ops.toList (ghostsD [] s) := w_region
theorem r44_10 {ops : Array Oper} {draw : Bool} {s : St} : evW Try.prog A0 44 (.region 10 ops draw) s = regW Try.prog A0 (draw && true) ops ops.toList (ghostsD [] s) := w_region
theorem r44_11 {ops : Array Oper} {draw : Bool} {s : St} : evW Try.prog A0 44 (.region 11 ops draw) s = regW Try.prog A0 (draw && true) ops ops.toList (ghostsD [] s) := w_region
theorem r44_12 {ops : Array Oper} {draw : Bool} {s : St} : evW Try.prog A0 44 (.region 12 ops draw) s = regW Try.prog A0 (draw && true) ops ops.toList (ghostsD [.keep [0, 7, 8, 35, 36, 37]] s) := w_region
theorem r44_13 {ops : Array Oper} {draw : Bool} {s : St} : evW Try.prog A0 44 (.region 13 ops draw) s = regW Try.prog A0 (draw && true) ops ops.toList (ghostsD [] s) := w_region
theorem r45_0 {ops : Array Oper} {draw : Bool} {s : St} : evW Try.prog A0 45 (.region 0 ops draw) s = regW Try.prog A0 (draw && true) ops ops.toList (ghostsD [] s) := w_region
theorem r45_1 {ops : Array Oper} {draw : Bool} {s : St} : evW Try.prog A0 45 (.region 1 ops draw) s = regW Try.prog A0 (draw && true) ops ops.toList (ghostsD [] s) := w_region
theorem r45_2 {ops : Array Oper} {draw : Bool} {s : St} : evW Try.prog A0 45 (.region 2 ops draw) s = regW Try.prog A0 (draw && true) ops ops.toList (ghostsD [.keep [0, 1, 2, 3, 4, 10, 11]] s) := w_region
theorem r45_3 {ops : Array Oper} {draw : Bool} {s : St} : evW Try.prog A0 45 (.region 3 ops draw) s = regW Try.prog A0 (draw && true) ops ops.toList (ghostsD [] s) := w_region
theorem r45_4 {ops : Array Oper} {draw : Bool} {s : St} : evW Try.prog A0 45 (.region 4 ops draw) s = regW Try.prog A0 (draw && true) ops ops.toList (ghostsD [] s) := w_region
theorem r45_5 {ops : Array Oper} {draw : Bool} {s : St} : evW Try.prog A0 45 (.region 5 ops draw) s = regW Try.prog A0 (draw && true) ops ops.toList (ghostsD [] s) := w_region
theorem r45_6 {ops : Array Oper} {draw : Bool} {s : St} : evW Try.prog A0 45 (.region 6 ops draw) s = regW Try.prog A0 (draw && true) ops ops.toList (ghostsD [] s) := w_region
theorem r45_7 {ops : Array Oper} {draw : Bool} {s : St} : evW Try.prog A0 45 (.region 7 ops draw) s = regW Try.prog A0 (draw && true) ops ops.toList (ghostsD [] s) := w_region
theorem r45_8 {ops : Array Oper} {draw : Bool} {s : St} : evW Try.prog A0 45 (.region 8 ops draw) s = regW Try.prog A0 (draw && true) ops ops.toList (ghostsD [] s) := w_region
theorem r45_9 {ops : Array Oper} {draw : Bool} {s : St} : evW Try.prog A0 45 (.region 9 ops draw) s = regW Try.prog A0 (draw && true) ops ops.toList (ghostsD [] s) := w_region
theorem r45_10 {ops : Array Oper} {draw : Bool} {s : St} : evW Try.prog A0 45 (.region 10 ops draw) s = regW Try.prog A0 (draw && true) ops ops.toList (ghostsD [] s) := w_region
theorem r45_11 {ops : Array Oper} {draw : Bool} {s : St} : evW Try.prog A0 45 (.region 11 ops draw) s = regW Try.prog A0 (draw && true) ops ops.toList (ghostsD [] s) := w_region
theorem r45_12 {ops : Array Oper} {draw : Bool} {s : St} : evW Try.prog A0 45 (.region 12 ops draw) s = regW Try.prog A0 (draw && true) ops ops.toList (ghostsD [] s) := w_region
theorem r45_13 {ops : Array Oper} {draw : Bool} {s : St} : evW Try.prog A0 45 (.region 13 ops draw) s = regW Try.prog A0 (draw && true) ops ops.toList (ghostsD [] s) := w_region
theorem r45_14 {ops : Array Oper} {draw : Bool} {s : St} : evW Try.prog A0 45 (.region 14 ops draw) s = regW Try.prog A0 (draw && true) ops ops.toList (ghostsD [] s) := w_region
theorem r45_15 {ops : Array Oper} {draw : Bool} {s : St} : evW Try.prog A0 45 (.region 15 ops draw) s = regW Try.prog A0 (draw && true) ops ops.toList (ghostsD [] s) := w_region
theorem r45_16 {ops : Array Oper} {draw : Bool} {s : St} : evW Try.prog A0 45 (.region 16 ops draw) s = regW Try.prog A0 (draw && true) ops ops.toList (ghostsD [] s) := w_region
theorem r45_17 {ops : Array Oper} {draw : Bool} {s : St} : evW Try.prog A0 45 (.region 17 ops draw) s = regW Try.prog A0 (draw && true) ops ops.toList (ghostsD [] s) := w_region
theorem r45_18 {ops : Array Oper} {draw : Bool} {s : St} : evW Try.prog A0 45 (.region 18 ops draw) s = regW Try.prog A0 (draw && true) ops ops.toList (ghostsD [] s) := w_region
theorem r45_19 {ops : Array Oper} {draw : Bool} {s : St} : evW Try.prog A0 45 (.region 19 ops draw) s = regW Try.prog A0 (draw && true) ops ops.toList (ghostsD [] s) := w_region
theorem r45_20 {ops : Array Oper} {draw : Bool} {s : St} : evW Try.prog A0 45 (.region 20 ops draw) s = regW Try.prog A0 (draw && true) ops ops.toList (ghostsD [] s) := w_region
theorem r45_21 {ops : Array Oper} {draw : Bool} {s : St} : evW Try.prog A0 45 (.region 21 ops draw) s = regW Try.prog A0 (draw && true) ops ops.toList (ghostsD [] s) := w_region
theorem r45_22 {ops : Array Oper} {draw : Bool} {s : St} : evW Try.prog A0 45 (.region 22 ops draw) s = regW Try.prog A0 (draw && true) ops ops.toList (ghostsD [] s) := w_region
theorem r45_23 {ops : Array Oper} {draw : Bool} {s : St} : evW Try.prog A0 45 (.region 23 ops draw) s = regW Try.prog A0 (draw && true) ops ops.toList (ghostsD [] s) := w_region
theorem r45_24 {ops : Array Oper} {draw : Bool} {s : St} : evW Try.prog A0 45 (.region 24 ops draw) s = regW Try.prog A0 (draw && true) ops ops.toList (ghostsD [] s) := w_region
theorem r45_25 {ops : Array Oper} {draw : Bool} {s : St} : evW Try.prog A0 45 (.region 25 ops draw) s = regW Try.prog A0 (draw && true) ops ops.toList (ghostsD [] s) := w_region
theorem r45_26 {ops : Array Oper} {draw : Bool} {s : St} : evW Try.prog A0 45 (.region 26 ops draw) s = regW Try.prog A0 (draw && true) ops ops.toList (ghostsD [] s) := w_region
theorem r45_27 {ops : Array Oper} {draw : Bool} {s : St} : evW Try.prog A0 45 (.region 27 ops draw) s = regW Try.prog A0 (draw && true) ops ops.toList (ghostsD [] s) := w_region
theorem r45_28 {ops : Array Oper} {draw : Bool} {s : St} : evW Try.prog A0 45 (.region 28 ops draw) s = regW Try.prog A0 (draw && true) ops ops.toList (ghostsD [] s) := w_region
theorem r45_29 {ops : Array Oper} {draw : Bool} {s : St} : evW Try.prog A0 45 (.region 29 ops draw) s = regW Try.prog A0 (draw && true) ops ops.toList (ghostsD [] s) := w_region
theorem r45_30 {ops : Array Oper} {draw : Bool} {s : St} : evW Try.prog A0 45 (.region 30 ops draw) s = regW Try.prog A0 (draw && true) ops ops.toList (ghostsD [] s) := w_region
theorem r46_0 {ops : Array Oper} {draw : Bool} {s : St} : evW Try.prog A0 46 (.region 0 ops draw) s = regW Try.prog A0 (draw && true) ops ops.toList (ghostsD [] s) := w_region
theorem r46_1 {ops : Array Oper} {draw : Bool} {s : St} : evW Try.prog A0 46 (.region 1 ops draw) s = regW Try.prog A0 (draw && true) ops ops.toList (ghostsD [] s) := w_region
theorem r46_2 {ops : Array Oper} {draw : Bool} {s : St} : evW Try.prog A0 46 (.region 2 ops draw) s = regW Try.prog A0 (draw && true) ops ops.toList (ghostsD [] s) := w_region
theorem r47_0 {ops : Array Oper} {draw : Bool} {s : St} : evW Try.prog A0 47 (.region 0 ops draw) s = regW Try.prog A0 (draw && true) ops ops.toList (ghostsD [] s) := w_region
theorem r47_1 {ops : Array Oper} {draw : Bool} {s : St} : evW Try.prog A0 47 (.region 1 ops draw) s = regW Try.prog A0 (draw && true) ops ops.toList (ghostsD [] s) := w_region
theorem r47_2 {ops : Array Oper} {draw : Bool} {s : St} : evW Try.prog A0 47 (.region 2 ops draw) s = regW Try.prog A0 (draw && true) ops ops.toList (ghostsD [] s) := w_region
theorem r47_3 {ops : Array Oper} {draw : Bool} {s : St} : evW Try.prog A0 47 (.region 3 ops draw) s = regW Try.prog A0 (draw && true) ops ops.toList (ghostsD [] s) := w_region
theorem r47_4 {ops : Array Oper} {draw : Bool} {s : St} : evW Try.prog A0 47 (.region 4 ops draw) s = regW Try.prog A0 (draw && true) ops ops.toList (ghostsD [] s) := w_region
theorem r47_5 {ops : Array Oper} {draw : Bool} {s : St} : evW Try.prog A0 47 (.region 5 ops draw) s = regW Try.prog A0 (draw && true) ops ops.toList (ghostsD [.own 8 1, .keep [0, 4, 7, 8, 9]] s) := w_region
theorem r47_7 {ops : Array Oper} {draw : Bool} {s : St} : evW Try.prog A0 47 (.region 7 ops draw) s = regW Try.prog A0 (draw && true) ops ops.toList (ghostsD [] s) := w_region
theorem r47_8 {ops : Array Oper} {draw : Bool} {s : St} : evW Try.prog A0 47 (.region 8 ops draw) s = regW Try.prog A0 (draw && true) ops ops.toList (ghostsD [] s) := w_region
theorem r47_6 {ops : Array Oper} {draw : Bool} {s : St} : evW Try.prog A0 47 (.region 6 ops draw) s = regW Try.prog A0 (draw && true) ops ops.toList (ghostsD [] s) := w_region
theorem r47_9 {ops : Array Oper} {draw : Bool} {s : St} : evW Try.prog A0 47 (.region 9 ops draw) s = regW Try.prog A0 (draw && true) ops ops.toList (ghostsD [.keep [0, 4, 7, 8, 9]] s) := w_region
theorem r47_10 {ops : Array Oper} {draw : Bool} {s : St} : evW Try.prog A0 47 (.region 10 ops draw) s = regW Try.prog A0 (draw && true) ops ops.toList (ghostsD [] s) := w_region
theorem r48_0 {ops : Array Oper} {draw : Bool} {s : St} : evW Try.prog A0 48 (.region 0 ops draw) s = regW Try.prog A0 (draw && true) ops ops.toList (ghostsD [] s) := w_region
theorem r48_1 {ops : Array Oper} {draw : Bool} {s : St} : evW Try.prog A0 48 (.region 1 ops draw) s = regW Try.prog A0 (draw && true) ops ops.toList (ghostsD [] s) := w_region
theorem r48_2 {ops : Array Oper} {draw : Bool} {s : St} : evW Try.prog A0 48 (.region 2 ops draw) s = regW Try.prog A0 (draw && true) ops ops.toList (ghostsD [.keep [0, 1, 6]] s) := w_region
theorem r48_4 {ops : Array Oper} {draw : Bool} {s : St} : evW Try.prog A0 48 (.region 4 ops draw) s = regW Try.prog A0 (draw && true) ops ops.toList (ghostsD [] s) := w_region
theorem r48_5 {ops : Array Oper} {draw : Bool} {s : St} : evW Try.prog A0 48 (.region 5 ops draw) s = regW Try.prog A0 (draw && true) ops ops.toList (ghostsD [] s) := w_region
theorem r48_3 {ops : Array Oper} {draw : Bool} {s : St} : evW Try.prog A0 48 (.region 3 ops draw) s = regW Try.prog A0 (draw && true) ops ops.toList (ghostsD [] s) := w_region
theorem r48_6 {ops : Array Oper} {draw : Bool} {s : St} : evW Try.prog A0 48 (.region 6 ops draw) s = regW Try.prog A0 (draw && true) ops ops.toList (ghostsD [.keep [0, 1, 6]] s) := w_region
theorem r49_0 {ops : Array Oper} {draw : Bool} {s : St} : evW Try.prog A0 49 (.region 0 ops draw) s = regW Try.prog A0 (draw && true) ops ops.toList (ghostsD [] s) := w_region
theorem r49_1 {ops : Array Oper} {draw : Bool} {s : St} : evW Try.prog A0 49 (.region 1 ops draw) s = regW Try.prog A0 (draw && true) ops ops.toList (ghostsD [] s) := w_region
theorem r49_2 {ops : Array Oper} {draw : Bool} {s : St} : evW Try.prog A0 49 (.region 2 ops draw) s = regW Try.prog A0 (draw && true) ops ops.toList (ghostsD [] s) := w_region
theorem r49_3 {ops : Array Oper} {draw : Bool} {s : St} : evW Try.prog A0 49 (.region 3 ops draw) s = regW Try.prog A0 (draw && true) ops ops.toList (ghostsD [] s) := w_region
theorem r49_4 {ops : Array Oper} {draw : Bool} {s : St} : evW Try.prog A0 49 (.region 4 ops draw) s = regW Try.prog A0 (draw && true) ops ops.toList (ghostsD [] s) := w_region
theorem r49_5 {ops : Array Oper} {draw : Bool} {s : St} : evW Try.prog A0 49 (.region 5 ops draw) s = regW Try.prog A0 (draw && true) ops ops.toList (ghostsD [] s) := w_region
theorem r49_6 {ops : Array Oper} {draw : Bool} {s : St} : evW Try.prog A0 49 (.region 6 ops draw) s = regW Try.prog A0 (draw && true) ops ops.toList (ghostsD [.own 12 1, .keep [0, 1, 2, 3, 9, 10, 12, 13, 14]] s) := w_region
theorem r49_8 {ops : Array Oper} {draw : Bool} {s : St} : evW Try.prog A0 49 (.region 8 ops draw) s = regW Try.prog A0 (draw && true) ops ops.toList (ghostsD [] s) := w_region
theorem r49_9 {ops : Array Oper} {draw : Bool} {s : St} : evW Try.prog A0 49 (.region 9 ops draw) s = regW Try.prog A0 (draw && true) ops ops.toList (ghostsD [] s) := w_region
theorem r49_10 {ops : Array Oper} {draw : Bool} {s : St} : evW Try.prog A0 49 (.region 10 ops draw) s = regW Try.prog A0 (draw && true) ops ops.toList (ghostsD [] s) := w_region
theorem r49_11 {ops : Array Oper} {draw : Bool} {s : St} : evW Try.prog A0 49 (.region 11 ops draw) s = regW Try.prog A0 (draw && true) ops ops.toList (ghostsD [] s) := w_region
theorem r49_12 {ops : Array Oper} {draw : Bool} {s : St} : evW Try.prog A0 49 (.region 12 ops draw) s = regW Try.prog A0 (draw && true) ops ops.toList (ghostsD [] s) := w_region
theorem r49_7 {ops : Array Oper} {draw : Bool} {s : St} : evW Try.prog A0 49 (.region 7 ops draw) s = regW Try.prog A0 (draw && true) ops ops.toList (ghostsD [] s) := w_region
theorem r49_13 {ops : Array Oper} {draw : Bool} {s : St} : evW Try.prog A0 49 (.region 13 ops draw) s = regW Try.prog A0 (draw && true) ops ops.toList (ghostsD [.keep [0, 1, 2, 3, 9, 10, 12, 13, 14]] s) := w_region
theorem r50_0 {ops : Array Oper} {draw : Bool} {s : St} : evW Try.prog A0 50 (.region 0 ops draw) s = regW Try.prog A0 (draw && true) ops ops.toList (ghostsD [] s) := w_region
theorem r50_1 {ops : Array Oper} {draw : Bool} {s : St} : evW Try.prog A0 50 (.region 1 ops draw) s = regW Try.prog A0 (draw && true) ops ops.toList (ghostsD [] s) := w_region
theorem r50_2 {ops : Array Oper} {draw : Bool} {s : St} : evW Try.prog A0 50 (.region 2 ops draw) s = regW Try.prog A0 (draw && true) ops ops.toList (ghostsD [.keep [0, 1, 7, 8]] s) := w_region
theorem r50_3 {ops : Array Oper} {draw : Bool} {s : St} : evW Try.prog A0 50 (.region 3 ops draw) s = regW Try.prog A0 (draw && true) ops ops.toList (ghostsD [] s) := w_region
theorem r50_4 {ops : Array Oper} {draw : Bool} {s : St} : evW Try.prog A0 50 (.region 4 ops draw) s = regW Try.prog A0 (draw && true) ops ops.toList (ghostsD [] s) := w_region
theorem r50_5 {ops : Array Oper} {draw : Bool} {s : St} : evW Try.prog A0 50 (.region 5 ops draw) s = regW Try.prog A0 (draw && true) ops ops.toList (ghostsD [] s) := w_region
theorem r50_6 {ops : Array Oper} {draw : Bool} {s : St} : evW Try.prog A0 50 (.region 6 ops draw) s = regW Try.prog A0 (draw && true) ops ops.toList (ghostsD [] s) := w_region
theorem r50_7 {ops : Array Oper} {draw : Bool} {s : St} : evW Try.prog A0 50 (.region 7 ops draw) s = regW Try.prog A0 (draw && true) ops ops.toList (ghostsD [.keep [0, 1, 7, 8]] s) := w_region
theorem r51_0 {ops : Array Oper} {draw : Bool} {s : St} : evW Try.prog A0 51 (.region 0 ops draw) s = regW Try.prog A0 (draw && true) ops ops.toList (ghostsD [] s) := w_region
theorem r51_1 {ops : Array Oper} {draw : Bool} {s : St} : evW Try.prog A0 51 (.region 1 ops draw) s = regW Try.prog A0 (draw && true) ops ops.toList (ghostsD [] s) := w_region
theorem r51_2 {ops : Array Oper} {draw : Bool} {s : St} : evW Try.prog A0 51 (.region 2 ops draw) s = regW Try.prog A0 (draw && true) ops ops.toList (ghostsD [] s) := w_region
theorem r51_3 {ops : Array Oper} {draw : Bool} {s : St} : evW Try.prog A0 51 (.region 3 ops draw) s = regW Try.prog A0 (draw && true) ops ops.toList (ghostsD [] s) := w_region
theorem r51_4 {ops : Array Oper} {draw : Bool} {s : St} : evW Try.prog A0 51 (.region 4 ops draw) s = regW Try.prog A0 (draw && true) ops ops.toList (ghostsD [] s) := w_region
theorem r51_5 {ops : Array Oper} {draw : Bool} {s : St} : evW Try.prog A0 51 (.region 5 ops draw) s = regW Try.prog A0 (draw && true) ops ops.toList (ghostsD [] s) := w_region
theorem r52_0 {ops : Array Oper} {draw : Bool} {s : St} : evW Try.prog A0 52 (.region 0 ops draw) s = regW Try.prog A0 (draw && true) ops ops.toList (ghostsD [] s) := w_region
theorem r52_1 {ops : Array Oper} {draw : Bool} {s : St} : evW Try.prog A0 52 (.region 1 ops draw) s = regW Try.prog A0 (draw && true) ops ops.toList (ghostsD [.keep [0, 1, 2, 3, 8]] s) := w_region
theorem r52_3 {ops : Array Oper} {draw : Bool} {s : St} : evW Try.prog A0 52 (.region 3 ops draw) s = regW Try.prog A0 (draw && true) ops ops.toList (ghostsD [] s) := w_region
theorem r52_4 {ops : Array Oper} {draw : Bool} {s : St} : evW Try.prog A0 52 (.region 4 ops draw) s = regW Try.prog A0 (draw && true) ops ops.toList (ghostsD [.keep [0, 1, 2, 3, 8, 9]] s) := w_region
theorem r52_6 {ops : Array Oper} {draw : Bool} {s : St} : evW Try.prog A0 52 (.region 6 ops draw) s = regW Try.prog A0 (draw && true) ops ops.toList (ghostsD [] s) := w_region
theorem r52_5 {ops : Array Oper} {draw : Bool} {s : St} : evW Try.prog A0 52 (.region 5 ops draw) s = regW Try.prog A0 (draw && true) ops ops.toList (ghostsD [] s) := w_region
theorem r52_2 {ops : Array Oper} {draw : Bool} {s : St} : evW Try.prog A0 52 (.region 2 ops draw) s = regW Try.prog A0 (draw && true) ops ops.toList (ghostsD [.keep [0, 1, 2, 3, 8, 9]] s) := w_region
theorem r53_0 {ops : Array Oper} {draw : Bool} {s : St} : evW Try.prog A0 53 (.region 0 ops draw) s = regW Try.prog A0 (draw && true) ops ops.toList (ghostsD [] s) := w_region
theorem r53_1 {ops : Array Oper} {draw : Bool} {s : St} : evW Try.prog A0 53 (.region 1 ops draw) s = regW Try.prog A0 (draw && true) ops ops.toList (ghostsD [] s) := w_region
theorem r53_2 {ops : Array Oper} {draw : Bool} {s : St} : evW Try.prog A0 53 (.region 2 ops draw) s = regW Try.prog A0 (draw && true) ops ops.toList (ghostsD [] s) := w_region
theorem r53_3 {ops : Array Oper} {draw : Bool} {s : St} : evW Try.prog A0 53 (.region 3 ops draw) s = regW Try.prog A0 (draw && true) ops ops.toList (ghostsD [] s) := w_region
theorem r53_4 {ops : Array Oper} {draw : Bool} {s : St} : evW Try.prog A0 53 (.region 4 ops draw) s = regW Try.prog A0 (draw && true) ops ops.toList (ghostsD [.keep [0, 3, 8, 9, 10, 11]] s) := w_region
theorem r53_6 {ops : Array Oper} {draw : Bool} {s : St} : evW Try.prog A0 53 (.region 6 ops draw) s = regW Try.prog A0 (draw && true) ops ops.toList (ghostsD [] s) := w_region
theorem r53_5 {ops : Array Oper} {draw : Bool} {s : St} : evW Try.prog A0 53 (.region 5 ops draw) s = regW Try.prog A0 (draw && true) ops ops.toList (ghostsD [] s) := w_region
theorem r53_7 {ops : Array Oper} {draw : Bool} {s : St} : evW Try.prog A0 53 (.region 7 ops draw) s = regW Try.prog A0 (draw && true) ops ops.toList (ghostsD [.keep [0, 3, 8, 9, 10, 11]] s) := w_region
theorem r53_8 {ops : Array Oper} {draw : Bool} {s : St} : evW Try.prog A0 53 (.region 8 ops draw) s = regW Try.prog A0 (draw && true) ops ops.toList (ghostsD [.keep [0, 3, 8, 9, 12]] s) := w_region
theorem r53_10 {ops : Array Oper} {draw : Bool} {s : St} : evW Try.prog A0 53 (.region 10 ops draw) s = regW Try.prog A0 (draw && true) ops ops.toList (ghostsD [] s) := w_region
theorem r53_11 {ops : Array Oper} {draw : Bool} {s : St} : evW Try.prog A0 53 (.region 11 ops draw) s = regW Try.prog A0 (draw && true) ops ops.toList (ghostsD [] s) := w_region
theorem r53_9 {ops : Array Oper} {draw : Bool} {s : St} : evW Try.prog A0 53 (.region 9 ops draw) s = regW Try.prog A0 (draw && true) ops ops.toList (ghostsD [] s) := w_region
theorem r54_0 {ops : Array Oper} {draw : Bool} {s : St} : evW Try.prog A0 54 (.region 0 ops draw) s = regW Try.prog A0 (draw && true) ops ops.toList (ghostsD [] s) := w_region
theorem r54_1 {ops : Array Oper} {draw : Bool} {s : St} : evW Try.prog A0 54 (.region 1 ops draw) s = regW Try.prog A0 (draw && true) ops ops.toList (ghostsD [] s) := w_region
theorem r54_2 {ops : Array Oper} {draw : Bool} {s : St} : evW Try.prog A0 54 (.region 2 ops draw) s = regW Try.prog A0 (draw && true) ops ops.toList (ghostsD [] s) := w_region
theorem r54_3 {ops : Array Oper} {draw : Bool} {s : St} : evW Try.prog A0 54 (.region 3 ops draw) s = regW Try.prog A0 (draw && true) ops ops.toList (ghostsD [] s) := w_region
theorem r54_4 {ops : Array Oper} {draw : Bool} {s : St} : evW Try.prog A0 54 (.region 4 ops draw) s = regW Try.prog A0 (draw && true) ops ops.toList (ghostsD [] s) := w_region
theorem r54_5 {ops : Array Oper} {draw : Bool} {s : St} : evW Try.prog A0 54 (.region 5 ops draw) s = regW Try.prog A0 (draw && true) ops ops.toList (ghostsD [.keep [0, 1, 8, 9, 10, 11]] s) := w_region
theorem r54_7 {ops : Array Oper} {draw : Bool} {s : St} : evW Try.prog A0 54 (.region 7 ops draw) s = regW Try.prog A0 (draw && true) ops ops.toList (ghostsD [] s) := w_region
theorem r54_8 {ops : Array Oper} {draw : Bool} {s : St} : evW Try.prog A0 54 (.region 8 ops draw) s = regW Try.prog A0 (draw && true) ops ops.toList (ghostsD [] s) := w_region
theorem r54_9 {ops : Array Oper} {draw : Bool} {s : St} : evW Try.prog A0 54 (.region 9 ops draw) s = regW Try.prog A0 (draw && true) ops ops.toList (ghostsD [] s) := w_region
theorem r54_10 {ops : Array Oper} {draw : Bool} {s : St} : evW Try.prog A0 54 (.region 10 ops draw) s = regW Try.prog A0 (draw && true) ops ops.toList (ghostsD [] s) := w_region
theorem r54_6 {ops : Array Oper} {draw : Bool} {s : St} : evW Try.prog A0 54 (.region 6 ops draw) s = regW Try.prog A0 (draw && true) ops ops.toList (ghostsD [] s) := w_region
theorem r55_0 {ops : Array Oper} {draw : Bool} {s : St} : evW Try.prog A0 55 (.region 0 ops draw) s = regW Try.prog A0 (draw && true) ops ops.toList (ghostsD [] s) := w_region
theorem r55_1 {ops : Array Oper} {draw : Bool} {s : St} : evW Try.prog A0 55 (.region 1 ops draw) s = regW Try.prog A0 (draw && true) ops ops.toList (ghostsD [] s) := w_region
theorem r55_2 {ops : Array Oper} {draw : Bool} {s : St} : evW Try.prog A0 55 (.region 2 ops draw) s = regW Try.prog A0 (draw && true) ops ops.toList (ghostsD [] s) := w_region
theorem r55_3 {ops : Array Oper} {draw : Bool} {s : St} : evW Try.prog A0 55 (.region 3 ops draw) s = regW Try.prog A0 (draw && true) ops ops.toList (ghostsD [] s) := w_region
theorem r55_4 {ops : Array Oper} {draw : Bool} {s : St} : evW Try.prog A0 55 (.region 4 ops draw) s = regW Try.prog A0 (draw && true) ops ops.toList (ghostsD [] s) := w_region
theorem r55_5 {ops : Array Oper} {draw : Bool} {s : St} : evW Try.prog A0 55 (.region 5 ops draw) s = regW Try.prog A0 (draw && true) ops ops.toList (ghostsD [] s) := w_region
theorem r55_6 {ops : Array Oper} {draw : Bool} {s : St} : evW Try.prog A0 55 (.region 6 ops draw) s = regW Try.prog A0 (draw && true) ops ops.toList (ghostsD [] s) := w_region
theorem r55_7 {ops : Array Oper} {draw : Bool} {s : St} : evW Try.prog A0 55 (.region 7 ops draw) s = regW Try.prog A0 (draw && true) ops ops.toList (ghostsD [] s) := w_region
theorem r55_8 {ops : Array Oper} {draw : Bool} {s : St} : evW Try.prog A0 55 (.region 8 ops draw) s = regW Try.prog A0 (draw && true) ops ops.toList (ghostsD [] s) := w_region
theorem r55_9 {ops : Array Oper} {draw : Bool} {s : St} : evW Try.prog A0 55 (.region 9 ops draw) s = regW Try.prog A0 (draw && true) ops ops.toList (ghostsD [] s) := w_region
theorem r55_10 {ops : Array Oper} {draw : Bool} {s : St} : evW Try.prog A0 55 (.region 10 ops draw) s = regW Try.prog A0 (draw && true) ops ops.toList (ghostsD [] s) := w_region
theorem r55_11 {ops : Array Oper} {draw : Bool} {s : St} : evW Try.prog A0 55 (.region 11 ops draw) s = regW Try.prog A0 (draw && true) ops ops.toList (ghostsD [] s) := w_region
theorem r55_12 {ops : Array Oper} {draw : Bool} {s : St} : evW Try.prog A0 55 (.region 12 ops draw) s = regW Try.prog A0 (draw && true) ops ops.toList (ghostsD [] s) := w_region
theorem r55_14 {ops : Array Oper} {draw : Bool} {s : St} : evW Try.prog A0 55 (.region 14 ops draw) s = regW Try.prog A0 (draw && true) ops ops.toList (ghostsD [] s) := w_region
theorem r55_15 {ops : Array Oper} {draw : Bool} {s : St} : evW Try.prog A0 55 (.region 15 ops draw) s = regW Try.prog A0 (draw && true) ops ops.toList (ghostsD [] s) := w_region
theorem r55_16 {ops : Array Oper} {draw : Bool} {s : St} : evW Try.prog A0 55 (.region 16 ops draw) s = regW Try.prog A0 (draw && true) ops ops.toList (ghostsD [] s) := w_region
theorem r55_17 {ops : Array Oper} {draw : Bool} {s : St} : evW Try.prog A0 55 (.region 17 ops draw) s = regW Try.prog A0 (draw && true) ops ops.toList (ghostsD [] s) := w_region
theorem r55_13 {ops : Array Oper} {draw : Bool} {s : St} : evW Try.prog A0 55 (.region 13 ops draw) s = regW Try.prog A0 (draw && true) ops ops.toList (ghostsD [] s) := w_region
theorem r56_0 {ops : Array Oper} {draw : Bool} {s : St} : evW Try.prog A0 56 (.region 0 ops draw) s = regW Try.prog A0 (draw && true) ops ops.toList (ghostsD [] s) := w_region
theorem r56_1 {ops : Array Oper} {draw : Bool} {s : St} : evW Try.prog A0 56 (.region 1 ops draw) s = regW Try.prog A0 (draw && true) ops ops.toList (ghostsD [] s) := w_region
theorem r56_2 {ops : Array Oper} {draw : Bool} {s : St} : evW Try.prog A0 56 (.region 2 ops draw) s = regW Try.prog A0 (draw && true) ops ops.toList (ghostsD [.keep [0, 8, 9]] s) := w_region
theorem r56_3 {ops : Array Oper} {draw : Bool} {s : St} : evW Try.prog A0 56 (.region 3 ops draw) s = regW Try.prog A0 (draw && true) ops ops.toList (ghostsD [] s) := w_region
theorem r56_4 {ops : Array Oper} {draw : Bool} {s : St} : evW Try.prog A0 56 (.region 4 ops draw) s = regW Try.prog A0 (draw && true) ops ops.toList (ghostsD [] s) := w_region
theorem r56_5 {ops : Array Oper} {draw : Bool} {s : St} : evW Try.prog A0 56 (.region 5 ops draw) s = regW Try.prog A0 (draw && true) ops ops.toList (ghostsD [] s) := w_region
theorem r57_0 {ops : Array Oper} {draw : Bool} {s : St} : evW Try.prog A0 57 (.region 0 ops draw) s = regW Try.prog A0 (draw && true) ops ops.toList (ghostsD [] s) := w_region
theorem r57_1 {ops : Array Oper} {draw : Bool} {s : St} : evW Try.prog A0 57 (.region 1 ops draw) s = regW Try.prog A0 (draw && true) ops ops.toList (ghostsD [] s) := w_region
theorem r57_2 {ops : Array Oper} {draw : Bool} {s : St} : evW Try.prog A0 57 (.region 2 ops draw) s = regW Try.prog A0 (draw && true) ops ops.toList (ghostsD [] s) := w_region
theorem r57_3 {ops : Array Oper} {draw : Bool} {s : St} : evW Try.prog A0 57 (.region 3 ops draw) s = regW Try.prog A0 (draw && true) ops ops.toList (ghostsD [.keep [0, 1, 2, 3, 9, 10]] s) := w_region
theorem r57_5 {ops : Array Oper} {draw : Bool} {s : St} : evW Try.prog A0 57 (.region 5 ops draw) s = regW Try.prog A0 (draw && true) ops ops.toList (ghostsD [.keep [0, 1, 2, 3, 9, 10]] s) := w_region
theorem r57_6 {ops : Array Oper} {draw : Bool} {s : St} : evW Try.prog A0 57 (.region 6 ops draw) s = regW Try.prog A0 (draw && true) ops ops.toList (ghostsD [] s) := w_region
theorem r57_7 {ops : Array Oper} {draw : Bool} {s : St} : evW Try.prog A0 57 (.region 7 ops draw) s = regW Try.prog A0 (draw && true) ops ops.toList (ghostsD [.keep [0, 1, 2, 3, 9, 10]] s) := w_region
theorem r57_8 {ops : Array Oper} {draw : Bool} {s : St} : evW Try.prog A0 57 (.region 8 ops draw) s = regW Try.prog A0 (draw && true) ops ops.toList (ghostsD [] s) := w_region
theorem r57_9 {ops : Array Oper} {draw : Bool} {s : St} : evW Try.prog A0 57 (.region 9 ops draw) s = regW Try.prog A0 (draw && true) ops ops.toList (ghostsD [] s) := w_region
theorem r57_10 {ops : Array Oper} {draw : Bool} {s : St} : evW Try.prog A0 57 (.region 10 ops draw) s = regW Try.prog A0 (draw && true) ops ops.toList (ghostsD [] s) := w_region
theorem r57_11 {ops : Array Oper} {draw : Bool} {s : St} : evW Try.prog A0 57 (.region 11 ops draw) s = regW Try.prog A0 (draw && true) ops ops.toList (ghostsD [] s) := w_region
theorem r57_12 {ops : Array Oper} {draw : Bool} {s : St} : evW Try.prog A0 57 (.region 12 ops draw) s = regW Try.prog A0 (draw && true) ops ops.toList (ghostsD [] s) := w_region
theorem r57_13 {ops : Array Oper} {draw : Bool} {s : St} : evW Try.prog A0 57 (.region 13 ops draw) s = regW Try.prog A0 (draw && true) ops ops.toList (ghostsD [] s) := w_region
theorem r57_14 {ops : Array Oper} {draw : Bool} {s : St} : evW Try.prog A0 57 (.region 14 ops draw) s = regW Try.prog A0 (draw && true) ops ops.toList (ghostsD [.keep [0, 1, 2, 3, 9, 10, 11]] s) := w_region
theorem r57_16 {ops : Array Oper} {draw : Bool} {s : St} : evW Try.prog A0 57 (.region 16 ops draw) s = regW Try.prog A0 (draw && true) ops ops.toList (ghostsD [] s) := w_region
theorem r57_17 {ops : Array Oper} {draw : Bool} {s : St} : evW Try.prog A0 57 (.region 17 ops draw) s = regW Try.prog A0 (draw && true) ops ops.toList (ghostsD [] s) := w_region
theorem r57_15 {ops : Array Oper} {draw : Bool} {s : St} : evW Try.prog A0 57 (.region 15 ops draw) s = regW Try.prog A0 (draw && true) ops ops.toList (ghostsD [] s) := w_region
theorem r57_18 {ops : Array Oper} {draw : Bool} {s : St} : evW Try.prog A0 57 (.region 18 ops draw) s = regW Try.prog A0 (draw && true) ops ops.toList (ghostsD [.keep [0, 1, 2, 3, 9, 10, 11]] s) := w_region
theorem r57_19 {ops : Array Oper} {draw : Bool} {s : St} : evW Try.prog A0 57 (.region 19 ops draw) s = regW Try.prog A0 (draw && true) ops ops.toList (ghostsD [] s) := w_region
theorem r57_20 {ops : Array Oper} {draw : Bool} {s : St} : evW Try.prog A0 57 (.region 20 ops draw) s = regW Try.prog A0 (draw && true) ops ops.toList (ghostsD [.keep [0, 1, 2, 3, 9, 10, 12]] s) := w_region
theorem r57_22 {ops : Array Oper} {draw : Bool} {s : St} : evW Try.prog A0 57 (.region 22 ops draw) s = regW Try.prog A0 (draw && true) ops ops.toList (ghostsD [] s) := w_region
theorem r57_23 {ops : Array Oper} {draw : Bool} {s : St} : evW Try.prog A0 57 (.region 23 ops draw) s = regW Try.prog A0 (draw && true) ops ops.toList (ghostsD [] s) := w_region
theorem r57_21 {ops : Array Oper} {draw : Bool} {s : St} : evW Try.prog A0 57 (.region 21 ops draw) s = regW Try.prog A0 (draw && true) ops ops.toList (ghostsD [] s) := w_region
theorem r57_4 {ops : Array Oper} {draw : Bool} {s : St} : evW Try.prog A0 57 (.region 4 ops draw) s = regW Try.prog A0 (draw && true) ops ops.toList (ghostsD [.keep [0, 1, 2, 3, 9, 10, 12]] s) := w_region
theorem r57_24 {ops : Array Oper} {draw : Bool} {s : St} : evW Try.prog A0 57 (.region 24 ops draw) s = regW Try.prog A0 (draw && true) ops ops.toList (ghostsD [.keep [0, 1, 2, 3, 9, 10]] s) := w_region
theorem r58_0 {ops : Array Oper} {draw : Bool} {s : St} : evW Try.prog A0 58 (.region 0 ops draw) s = regW Try.prog A0 (draw && true) ops ops.toList (ghostsD [] s) := w_region
theorem r58_1 {ops : Array Oper} {draw : Bool} {s : St} : evW Try.prog A0 58 (.region 1 ops draw) s = regW Try.prog A0 (draw && true) ops ops.toList (ghostsD [] s) := w_region
theorem r58_2 {ops : Array Oper} {draw : Bool} {s : St} : evW Try.prog A0 58 (.region 2 ops draw) s = regW Try.prog A0 (draw && true) ops ops.toList (ghostsD [] s) := w_region
theorem r58_3 {ops : Array Oper} {draw : Bool} {s : St} : evW Try.prog A0 58 (.region 3 ops draw) s = regW Try.prog A0 (draw && true) ops ops.toList (ghostsD [.keep [0, 1, 4, 11, 12], .keep [0, 1, 4, 11, 12]] s) := w_region
theorem r58_4 {ops : Array Oper} {draw : Bool} {s : St} : evW Try.prog A0 58 (.region 4 ops draw) s = regW Try.prog A0 (draw && true) ops ops.toList (ghostsD [] s) := w_region
theorem r58_5 {ops : Array Oper} {draw : Bool} {s : St} : evW Try.prog A0 58 (.region 5 ops draw) s = regW Try.prog A0 (draw && true) ops ops.toList (ghostsD [.keep [0, 1, 4, 11, 12], .keep [0, 1, 4, 11, 12]] s) := w_region
theorem r58_6 {ops : Array Oper} {draw : Bool} {s : St} : evW Try.prog A0 58 (.region 6 ops draw) s = regW Try.prog A0 (draw && true) ops ops.toList (ghostsD [] s) := w_region
theorem r58_7 {ops : Array Oper} {draw : Bool} {s : St} : evW Try.prog A0 58 (.region 7 ops draw) s = regW Try.prog A0 (draw && true) ops ops.toList (ghostsD [.keep [0, 1, 4, 11, 12]] s) := w_region
theorem r58_8 {ops : Array Oper} {draw : Bool} {s : St} : evW Try.prog A0 58 (.region 8 ops draw) s = regW Try.prog A0 (draw && true) ops ops.toList (ghostsD [] s) := w_region
theorem r58_9 {ops : Array Oper} {draw : Bool} {s : St} : evW Try.prog A0 58 (.region 9 ops draw) s = regW Try.prog A0 (draw && true) ops ops.toList (ghostsD [] s) := w_region
theorem r58_10 {ops : Array Oper} {draw : Bool} {s : St} : evW Try.prog A0 58 (.region 10 ops draw) s = regW Try.prog A0 (draw && true) ops ops.toList (ghostsD [] s) := w_region
theorem r58_11 {ops : Array Oper} {draw : Bool} {s : St} : evW Try.prog A0 58 (.region 11 ops draw) s = regW Try.prog A0 (draw && true) ops ops.toList (ghostsD [.keep [0, 1, 4, 11, 12]] s) := w_region
theorem r59_0 {ops : Array Oper} {draw : Bool} {s : St} : evW Try.prog A0 59 (.region 0 ops draw) s = regW Try.prog A0 (draw && true) ops ops.toList (ghostsD [] s) := w_region
theorem r59_1 {ops : Array Oper} {draw : Bool} {s : St} : evW Try.prog A0 59 (.region 1 ops draw) s = regW Try.prog A0 (draw && true) ops ops.toList (ghostsD [] s) := w_region
theorem r59_2 {ops : Array Oper} {draw : Bool} {s : St} : evW Try.prog A0 59 (.region 2 ops draw) s = regW Try.prog A0 (draw && true) ops ops.toList (ghostsD [] s) := w_region
theorem r59_3 {ops : Array Oper} {draw : Bool} {s : St} : evW Try.prog A0 59 (.region 3 ops draw) s = regW Try.prog A0 (draw && true) ops ops.toList (ghostsD [.keep [0, 1, 4, 12, 13]] s) := w_region
theorem r59_4 {ops : Array Oper} {draw : Bool} {s : St} : evW Try.prog A0 59 (.region 4 ops draw) s = regW Try.prog A0 (draw && true) ops ops.toList (ghostsD [] s) := w_region
theorem r59_5 {ops : Array Oper} {draw : Bool} {s : St} : evW Try.prog A0 59 (.region 5 ops draw) s = regW Try.prog A0 (draw && true) ops ops.toList (ghostsD [.keep [0, 1, 4, 12, 13], .keep [0, 1, 4, 12, 13]] s) := w_region
theorem r59_6 {ops : Array Oper} {draw : Bool} {s : St} : evW Try.prog A0 59 (.region 6 ops draw) s = regW Try.prog A0 (draw && true) ops ops.toList (ghostsD [] s) := w_region
theorem r59_7 {ops : Array Oper} {draw : Bool} {s : St} : evW Try.prog A0 59 (.region 7 ops draw) s = regW Try.prog A0 (draw && true) ops ops.toList (ghostsD [.keep [0, 1, 4, 12, 13]] s) := w_region
theorem r59_8 {ops : Array Oper} {draw : Bool} {s : St} : evW Try.prog A0 59 (.region 8 ops draw) s = regW Try.prog A0 (draw && true) ops ops.toList (ghostsD [] s) := w_region
theorem r59_9 {ops : Array Oper} {draw : Bool} {s : St} : evW Try.prog A0 59 (.region 9 ops draw) s = regW Try.prog A0 (draw && true) ops ops.toList (ghostsD [] s) := w_region
theorem r59_10 {ops : Array Oper} {draw : Bool} {s : St} : evW Try.prog A0 59 (.region 10 ops draw) s = regW Try.prog A0 (draw && true) ops ops.toList (ghostsD [] s) := w_region
theorem r59_11 {ops : Array Oper} {draw : Bool} {s : St} : evW Try.prog A0 59 (.region 11 ops draw) s = regW Try.prog A0 (draw && true) ops ops.toList (ghostsD [] s) := w_region
theorem r59_12 {ops : Array Oper} {draw : Bool} {s : St} : evW Try.prog A0 59 (.region 12 ops draw) s = regW Try.prog A0 (draw && true) ops ops.toList (ghostsD [] s) := w_region
theorem r59_13 {ops : Array Oper} {draw : Bool} {s : St} : evW Try.prog A0 59 (.region 13 ops draw) s = regW Try.prog A0 (draw && true) ops ops.toList (ghostsD [.keep [0, 1, 4, 12, 13], .keep [0, 1, 4, 12, 13]] s) := w_region
theorem r59_14 {ops : Array Oper} {draw : Bool} {s : St} : evW Try.prog A0 59 (.region 14 ops draw) s = regW Try.prog A0 (draw && true) ops ops.toList (ghostsD [] s) := w_region
theorem r59_15 {ops : Array Oper} {draw : Bool} {s : St} : evW Try.prog A0 59 (.region 15 ops draw) s = regW Try.prog A0 (draw && true) ops ops.toList (ghostsD [.keep [0, 1, 4, 12, 13], .keep [0, 1, 4, 12, 13]] s) := w_region
theorem r59_16 {ops : Array Oper} {draw : Bool} {s : St} : evW Try.prog A0 59 (.region 16 ops draw) s = regW Try.prog A0 (draw && true) ops ops.toList (ghostsD [] s) := w_region
theorem r59_17 {ops : Array Oper} {draw : Bool} {s : St} : evW Try.prog A0 59 (.region 17 ops draw) s = regW Try.prog A0 (draw && true) ops ops.toList (ghostsD [.keep [0, 1, 4, 12, 13]] s) := w_region
theorem r59_18 {ops : Array Oper} {draw : Bool} {s : St} : evW Try.prog A0 59 (.region 18 ops draw) s = regW Try.prog A0 (draw && true) ops ops.toList (ghostsD [] s) := w_region
theorem r59_19 {ops : Array Oper} {draw : Bool} {s : St} : evW Try.prog A0 59 (.region 19 ops draw) s = regW Try.prog A0 (draw && true) ops ops.toList (ghostsD [] s) := w_region
theorem r59_20 {ops : Array Oper} {draw : Bool} {s : St} : evW Try.prog A0 59 (.region 20 ops draw) s = regW Try.prog A0 (draw && true) ops ops.toList (ghostsD [] s) := w_region
theorem r59_21 {ops : Array Oper} {draw : Bool} {s : St} : evW Try.prog A0 59 (.region 21 ops draw) s = regW Try.prog A0 (draw && true) ops ops.toList (ghostsD [.keep [0, 1, 4, 12, 13]] s) := w_region
theorem r59_22 {ops : Array Oper} {draw : Bool} {s : St} : evW Try.prog A0 59 (.region 22 ops draw) s = regW Try.prog A0 (draw && true) ops ops.toList (ghostsD [] s) := w_region
theorem r60_0 {ops : Array Oper} {draw : Bool} {s : St} : evW Try.prog A0 60 (.region 0 ops draw) s = regW Try.prog A0 (draw && true) ops ops.toList (ghostsD [] s) := w_region
theorem r60_1 {ops : Array Oper} {draw : Bool} {s : St} : evW Try.prog A0 60 (.region 1 ops draw) s = regW Try.prog A0 (draw && true) ops ops.toList (ghostsD [] s) := w_region
theorem r60_2 {ops : Array Oper} {draw : Bool} {s : St} : evW Try.prog A0 60 (.region 2 ops draw) s = regW Try.prog A0 (draw && true) ops ops.toList (ghostsD [] s) := w_region
theorem r60_3 {ops : Array Oper} {draw : Bool} {s : St} : evW Try.prog A0 60 (.region 3 ops draw) s = regW Try.prog A0 (draw && true) ops ops.toList (ghostsD [] s) := w_region
theorem r60_4 {ops : Array Oper} {draw : Bool} {s : St} : evW Try.prog A0 60 (.region 4 ops draw) s = regW Try.prog A0 (draw && true) ops ops.toList (ghostsD [] s) := w_region
theorem r60_5 {ops : Array Oper} {draw : Bool} {s : St} : evW Try.prog A0 60 (.region 5 ops draw) s = regW Try.prog A0 (draw && true) ops ops.toList (ghostsD [] s) := w_region
theorem r60_6 {ops : Array Oper} {draw : Bool} {s : St} : evW Try.prog A0 60 (.region 6 ops draw) s = regW Try.prog A0 (draw && true) ops ops.toList (ghostsD [] s) := w_region
theorem r60_7 {ops : Array Oper} {draw : Bool} {s : St} : evW Try.prog A0 60 (.region 7 ops draw) s = regW Try.prog A0 (draw && true) ops ops.toList (ghostsD [] s) := w_region
theorem r61_0 {ops : Array Oper} {draw : Bool} {s : St} : evW Try.prog A0 61 (.region 0 ops draw) s = regW Try.prog A0 (draw && true) ops ops.toList (ghostsD [] s) := w_region
theorem r61_1 {ops : Array Oper} {draw : Bool} {s : St} : evW Try.prog A0 61 (.region 1 ops draw) s = regW Try.prog A0 (draw && true) ops ops.toList (ghostsD [] s) := w_region
theorem r61_2 {ops : Array Oper} {draw : Bool} {s : St} : evW Try.prog A0 61 (.region 2 ops draw) s = regW Try.prog A0 (draw && true) ops ops.toList (ghostsD [] s) := w_region
theorem r61_3 {ops : Array Oper} {draw : Bool} {s : St} : evW Try.prog A0 61 (.region 3 ops draw) s = regW Try.prog A0 (draw && true) ops ops.toList (ghostsD [] s) := w_region
theorem r61_4 {ops : Array Oper} {draw : Bool} {s : St} : evW Try.prog A0 61 (.region 4 ops draw) s = regW Try.prog A0 (draw && true) ops ops.toList (ghostsD [] s) := w_region
theorem r61_5 {ops : Array Oper} {draw : Bool} {s : St} : evW Try.prog A0 61 (.region 5 ops draw) s = regW Try.prog A0 (draw && true) ops ops.toList (ghostsD [] s) := w_region
theorem r61_6 {ops : Array Oper} {draw : Bool} {s : St} : evW Try.prog A0 61 (.region 6 ops draw) s = regW Try.prog A0 (draw && true) ops ops.toList (ghostsD [] s) := w_region
theorem r61_7 {ops : Array Oper} {draw : Bool} {s : St} : evW Try.prog A0 61 (.region 7 ops draw) s = regW Try.prog A0 (draw && true) ops ops.toList (ghostsD [] s) := w_region
theorem r61_8 {ops : Array Oper} {draw : Bool} {s : St} : evW Try.prog A0 61 (.region 8 ops draw) s = regW Try.prog A0 (draw && true) ops ops.toList (ghostsD [] s) := w_region
theorem r61_9 {ops : Array Oper} {draw : Bool} {s : St} : evW Try.prog A0 61 (.region 9 ops draw) s = regW Try.prog A0 (draw && true) ops ops.toList (ghostsD [] s) := w_region
theorem r61_10 {ops : Array Oper} {draw : Bool} {s : St} : evW Try.prog A0 61 (.region 10 ops draw) s = regW Try.prog A0 (draw && true) ops ops.toList (ghostsD [] s) := w_region
theorem r62_0 {ops : Array Oper} {draw : Bool} {s : St} : evW Try.prog A0 62 (.region 0 ops draw) s = regW Try.prog A0 (draw && true) ops ops.toList (ghostsD [] s) := w_region
theorem r62_1 {ops : Array Oper} {draw : Bool} {s : St} : evW Try.prog A0 62 (.region 1 ops draw) s = regW Try.prog A0 (draw && true) ops ops.toList (ghostsD [.keep [0, 2, 3, 4, 10]] s) := w_region
theorem r62_2 {ops : Array Oper} {draw : Bool} {s : St} : evW Try.prog A0 62 (.region 2 ops draw) s = regW Try.prog A0 (draw && true) ops ops.toList (ghostsD [] s) := w_region
theorem r62_3 {ops : Array Oper} {draw : Bool} {s : St} : evW Try.prog A0 62 (.region 3 ops draw) s = regW Try.prog A0 (draw && true) ops ops.toList (ghostsD [] s) := w_region
theorem r62_4 {ops : Array Oper} {draw : Bool} {s : St} : evW Try.prog A0 62 (.region 4 ops draw) s = regW Try.prog A0 (draw && true) ops ops.toList (ghostsD [] s) := w_region
theorem r62_5 {ops : Array Oper} {draw : Bool} {s : St} : evW Try.prog A0 62 (.region 5 ops draw) s = regW Try.prog A0 (draw && true) ops ops.toList (ghostsD [] s) := w_region
theorem r62_6 {ops : Array Oper} {draw : Bool} {s : St} : evW Try.prog A0 62 (.region 6 ops draw) s = regW Try.prog A0 (draw && true) ops ops.toList (ghostsD [] s) := w_region
theorem r62_7 {ops : Array Oper} {draw : Bool} {s : St} : evW Try.prog A0 62 (.region 7 ops draw) s = regW Try.prog A0 (draw && true) ops ops.toList (ghostsD [] s) := w_region
theorem r63_0 {ops : Array Oper} {draw : Bool} {s : St} : evW Try.prog A0 63 (.region 0 ops draw) s = regW Try.prog A0 (draw && true) ops ops.toList (ghostsD [] s) := w_region
theorem r63_1 {ops : Array Oper} {draw : Bool} {s : St} : evW Try.prog A0 63 (.region 1 ops draw) s = regW Try.prog A0 (draw && true) ops ops.toList (ghostsD [] s) := w_region
theorem r64_0 {ops : Array Oper} {draw : Bool} {s : St} : evW Try.prog A0 64 (.region 0 ops draw) s = regW Try.prog A0 (draw && true) ops ops.toList (ghostsD [] s) := w_region
theorem r64_1 {ops : Array Oper} {draw : Bool} {s : St} : evW Try.prog A0 64 (.region 1 ops draw) s = regW Try.prog A0 (draw && true) ops ops.toList (ghostsD [] s) := w_region
theorem r64_2 {ops : Array Oper} {draw : Bool} {s : St} : evW Try.prog A0 64 (.region 2 ops draw) s = regW Try.prog A0 (draw && true) ops ops.toList (ghostsD [] s) := w_region
theorem r64_3 {ops : Array Oper} {draw : Bool} {s : St} : evW Try.prog A0 64 (.region 3 ops draw) s = regW Try.prog A0 (draw && true) ops ops.toList (ghostsD [] s) := w_region
theorem r64_4 {ops : Array Oper} {draw : Bool} {s : St} : evW Try.prog A0 64 (.region 4 ops draw) s = regW Try.prog A0 (draw && true) ops ops.toList (ghostsD [] s) := w_region
noncomputable def L5_0 : Code := (loopsOf (bodyOf Try.f5)).getD 0 .skip
def g5_0 : List Ghost := [.keep [0, 3, 4, 5, 6, 7]]
noncomputable def L6_0 : Code := (loopsOf (bodyOf Try.f6)).getD 0 .skip
def g6_0 : List Ghost := [.keep [2, 7, 9, 11, 12, 13]]
noncomputable def L8_0 : Code := (loopsOf (bodyOf Try.f8)).getD 0 .skip
def g8_0 : List Ghost := [.own 3 2, .keep [1, 3, 4]]
noncomputable def L11_0 : Code := (loopsOf (bodyOf Try.f11)).getD 0 .skip
def g11_0 : List Ghost := [.own 12 3, .keep [10, 11, 12, 35, 36, 37]]
noncomputable def L11_1 : Code := (loopsOf (bodyOf Try.f11)).getD 1 .skip
def g11_1 : List Ghost := [.own 16 1, .own 17 1, .keep [10, 11, 12, 15, 16, 17, 35, 36, 37, 72, 73, 74]]
noncomputable def L11_2 : Code := (loopsOf (bodyOf Try.f11)).getD 2 .skip
def g11_2 : List Ghost := [.own 12 3, .keep [10, 11, 12, 16, 35, 36, 37, 99, 100, 101]]
noncomputable def L12_0 : Code := (loopsOf (bodyOf Try.f12)).getD 0 .skip
def g12_0 : List Ghost := [.own 11 3, .keep [2, 9, 10, 11, 12]]
noncomputable def L13_0 : Code := (loopsOf (bodyOf Try.f13)).getD 0 .skip
def g13_0 : List Ghost := [.own 10 2, .keep [8, 10, 23, 24, 25]]
noncomputable def L14_0 : Code := (loopsOf (bodyOf Try.f14)).getD 0 .skip
def g14_0 : List Ghost := [.own 11 2, .keep [2, 9, 10, 11, 12]]
noncomputable def L15_0 : Code := (loopsOf (bodyOf Try.f15)).getD 0 .skip
def g15_0 : List Ghost := [.keep [0, 1, 5]]
noncomputable def L16_0 : Code := (loopsOf (bodyOf Try.f16)).getD 0 .skip
def g16_0 : List Ghost := [.keep [0, 1, 5]]
noncomputable def L17_0 : Code := (loopsOf (bodyOf Try.f17)).getD 0 .skip
def g17_0 : List Ghost := [.keep [0, 1, 5]]
noncomputable def L18_0 : Code := (loopsOf (bodyOf Try.f18)).getD 0 .skip
def g18_0 : List Ghost := [.own 3 1, .keep [3, 4, 9, 10]]
noncomputable def L19_0 : Code := (loopsOf (bodyOf Try.f19)).getD 0 .skip
def g19_0 : List Ghost := [.own 4 1, .keep [0, 3, 4, 5]]
noncomputable def L20_0 : Code := (loopsOf (bodyOf Try.f20)).getD 0 .skip
def g20_0 : List Ghost := [.keep [0, 3, 4, 5]]
noncomputable def L20_1 : Code := (loopsOf (bodyOf Try.f20)).getD 1 .skip
def g20_1 : List Ghost := [.keep [0, 3, 4, 5, 6]]
noncomputable def L20_2 : Code := (loopsOf (bodyOf Try.f20)).getD 2 .skip
def g20_2 : List Ghost := [.own 7 1, .keep [0, 3, 4, 7, 8]]
noncomputable def L21_0 : Code := (loopsOf (bodyOf Try.f21)).getD 0 .skip
def g21_0 : List Ghost := [.keep [2, 3, 4, 7, 8, 9]]
noncomputable def L22_0 : Code := (loopsOf (bodyOf Try.f22)).getD 0 .skip
def g22_0 : List Ghost := [.keep [0, 3, 4]]
noncomputable def L23_0 : Code := (loopsOf (bodyOf Try.f23)).getD 0 .skip
def g23_0 : List Ghost := [.keep [0, 1, 5, 6]]
noncomputable def L24_0 : Code := (loopsOf (bodyOf Try.f24)).getD 0 .skip
def g24_0 : List Ghost := [.keep [1, 3, 4]]
noncomputable def L28_0 : Code := (loopsOf (bodyOf Try.f28)).getD 0 .skip
def g28_0 : List Ghost := [.keep [3, 4, 7, 8, 9, 10, 20, 21, 22]]
noncomputable def L32_0 : Code := (loopsOf (bodyOf Try.f32)).getD 0 .skip
def g32_0 : List Ghost := [.keep [0, 1, 7, 8]]
noncomputable def L39_0 : Code := (loopsOf (bodyOf Try.f39)).getD 0 .skip
def g39_0 : List Ghost := [.keep [0, 3, 4, 5]]
noncomputable def L39_1 : Code := (loopsOf (bodyOf Try.f39)).getD 1 .skip
def g39_1 : List Ghost := [.keep [0, 3, 4, 5, 6]]
noncomputable def L39_2 : Code := (loopsOf (bodyOf Try.f39)).getD 2 .skip
def g39_2 : List Ghost := [.own 7 1, .keep [0, 3, 4, 7, 59, 60]]
noncomputable def L40_0 : Code := (loopsOf (bodyOf Try.f40)).getD 0 .skip
def g40_0 : List Ghost := [.keep [0, 1, 5]]
noncomputable def L41_0 : Code := (loopsOf (bodyOf Try.f41)).getD 0 .skip
def g41_0 : List Ghost := [.keep [0, 1, 5]]
noncomputable def L42_0 : Code := (loopsOf (bodyOf Try.f42)).getD 0 .skip
def g42_0 : List Ghost := [.own 5 2, .keep [0, 3, 5, 6, 7]]
noncomputable def L43_0 : Code := (loopsOf (bodyOf Try.f43)).getD 0 .skip
def g43_0 : List Ghost := [.keep [2, 3, 7, 8]]
noncomputable def L44_0 : Code := (loopsOf (bodyOf Try.f44)).getD 0 .skip
def g44_0 : List Ghost := [.keep [0, 7, 8, 35, 36, 37]]
noncomputable def L45_0 : Code := (loopsOf (bodyOf Try.f45)).getD 0 .skip
def g45_0 : List Ghost := [.keep [0, 1, 2, 3, 4, 10, 11]]
noncomputable def L47_0 : Code := (loopsOf (bodyOf Try.f47)).getD 0 .skip
def g47_0 : List Ghost := [.own 8 1, .keep [0, 4, 7, 8, 9]]
noncomputable def L48_0 : Code := (loopsOf (bodyOf Try.f48)).getD 0 .skip
def g48_0 : List Ghost := [.keep [0, 1, 6]]
noncomputable def L49_0 : Code := (loopsOf (bodyOf Try.f49)).getD 0 .skip
def g49_0 : List Ghost := [.own 12 1, .keep [0, 1, 2, 3, 9, 10, 12, 13, 14]]
noncomputable def L50_0 : Code := (loopsOf (bodyOf Try.f50)).getD 0 .skip
def g50_0 : List Ghost := [.keep [0, 1, 7, 8]]
noncomputable def L52_0 : Code := (loopsOf (bodyOf Try.f52)).getD 0 .skip
def g52_0 : List Ghost := [.keep [0, 1, 2, 3, 8]]
noncomputable def L52_1 : Code := (loopsOf (bodyOf Try.f52)).getD 1 .skip
def g52_1 : List Ghost := [.keep [0, 1, 2, 3, 8, 9]]
noncomputable def L53_0 : Code := (loopsOf (bodyOf Try.f53)).getD 0 .skip
def g53_0 : List Ghost := [.keep [0, 3, 8, 9, 10, 11]]
noncomputable def L53_1 : Code := (loopsOf (bodyOf Try.f53)).getD 1 .skip
def g53_1 : List Ghost := [.keep [0, 3, 8, 9, 12]]
noncomputable def L54_0 : Code := (loopsOf (bodyOf Try.f54)).getD 0 .skip
def g54_0 : List Ghost := [.keep [0, 1, 8, 9, 10, 11]]
noncomputable def L56_0 : Code := (loopsOf (bodyOf Try.f56)).getD 0 .skip
def g56_0 : List Ghost := [.keep [0, 8, 9]]
noncomputable def L57_0 : Code := (loopsOf (bodyOf Try.f57)).getD 0 .skip
def g57_0 : List Ghost := [.keep [0, 1, 2, 3, 9, 10]]
noncomputable def L57_1 : Code := (loopsOf (bodyOf Try.f57)).getD 1 .skip
def g57_1 : List Ghost := [.keep [0, 1, 2, 3, 9, 10]]
noncomputable def L57_2 : Code := (loopsOf (bodyOf Try.f57)).getD 2 .skip
def g57_2 : List Ghost := [.keep [0, 1, 2, 3, 9, 10, 11]]
noncomputable def L57_3 : Code := (loopsOf (bodyOf Try.f57)).getD 3 .skip
def g57_3 : List Ghost := [.keep [0, 1, 2, 3, 9, 10, 12]]
noncomputable def L58_0 : Code := (loopsOf (bodyOf Try.f58)).getD 0 .skip
def g58_0 : List Ghost := [.keep [0, 1, 4, 11, 12]]
noncomputable def L58_1 : Code := (loopsOf (bodyOf Try.f58)).getD 1 .skip
def g58_1 : List Ghost := [.keep [0, 1, 4, 11, 12]]
noncomputable def L58_2 : Code := (loopsOf (bodyOf Try.f58)).getD 2 .skip
def g58_2 : List Ghost := [.keep [0, 1, 4, 11, 12]]
noncomputable def L59_0 : Code := (loopsOf (bodyOf Try.f59)).getD 0 .skip
def g59_0 : List Ghost := [.keep [0, 1, 4, 12, 13]]
noncomputable def L59_1 : Code := (loopsOf (bodyOf Try.f59)).getD 1 .skip
def g59_1 : List Ghost := [.keep [0, 1, 4, 12, 13]]
noncomputable def L59_2 : Code := (loopsOf (bodyOf Try.f59)).getD 2 .skip
def g59_2 : List Ghost := [.keep [0, 1, 4, 12, 13]]
noncomputable def L59_3 : Code := (loopsOf (bodyOf Try.f59)).getD 3 .skip
def g59_3 : List Ghost := [.keep [0, 1, 4, 12, 13]]
noncomputable def L59_4 : Code := (loopsOf (bodyOf Try.f59)).getD 4 .skip
def g59_4 : List Ghost := [.keep [0, 1, 4, 12, 13]]
noncomputable def L62_0 : Code := (loopsOf (bodyOf Try.f62)).getD 0 .skip
def g62_0 : List Ghost := [.keep [0, 2, 3, 4, 10]]
