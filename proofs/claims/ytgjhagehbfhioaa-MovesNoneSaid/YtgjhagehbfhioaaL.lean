/- A part of the proof: L. No conditions of its own. -/
import Derived.Test.YtgjhagehbfhioaaProg
import Derived.KernelRfl
import Derived.Test.YtgjhagehbfhioaaT
namespace Xn
open Go Go.Ev Go.Proofs
set_option linter.unusedSimpArgs false
set_option linter.unusedVariables false
set_option linter.defProp false
def bodyOf (f : Func) : Code := f.body.getD .skip
def loopsOf : Code → List Code
  | .seq a b => loopsOf a ++ loopsOf b
  | .cond _ a b => loopsOf a ++ loopsOf b
  | .block _ b => loopsOf b
  | .loop b => b :: loopsOf b
  | _ => []
def preOf : Nat → List (Nat × List Ghost)
  | 43 => [(5, [.keep [2, 3, 7, 8]]), (10, [.keep [2, 3, 7, 8]])]
  | 24 => [(3, [.keep [1, 3, 4]]), (6, [.keep [1, 3, 4]])]
  | 44 => [(0, [.own 0 5]), (7, [.weak [35], .keep [0, 7, 8, 35, 36, 37]]), (12, [.keep [0, 7, 8, 35, 36, 37]])]
  | 28 => [(5, [.weak [7, 8, 20], .keep [3, 4, 7, 8, 9, 10, 20, 21, 22]]), (13, [.keep [3, 4, 7, 8, 9, 10, 20, 21, 22]])]
  | 31 => [(2, [.weak [8], .keep [1, 8, 9, 10]]), (7, [.keep [1, 8, 9, 10]])]
  | 32 => [(2, [.weak [0], .keep [0, 1, 7, 8]]), (7, [.keep [0, 1, 7, 8]])]
  | 39 => [(4, [.weak [0], .keep [0, 3, 4, 5]]), (8, [.weak [0], .keep [0, 3, 4, 5, 6]]), (12, [.keep [0, 3, 4, 5, 6]]), (13, [.keep [0, 3, 4, 5]]), (15, [.own 7 1, .weak [0], .keep [0, 3, 4, 7, 59, 60]]), (21, [.keep [0, 3, 4, 7, 59, 60]])]
  | 18 => [(4, [.own 3 1, .weak [4], .keep [3, 4, 9, 10]]), (10, [.keep [3, 4, 9, 10]])]
  | 52 => [(1, [.keep [0, 1, 2, 3, 8]]), (2, [.keep [0, 1, 2, 3, 8, 9]]), (4, [.keep [0, 1, 2, 3, 8, 9]])]
  | 62 => [(1, [.keep [0, 2, 3, 4, 10]])]
  | 53 => [(4, [.keep [0, 3, 8, 9, 10, 11]]), (7, [.keep [0, 3, 8, 9, 10, 11]]), (8, [.keep [0, 3, 8, 9, 12]])]
  | 56 => [(2, [.keep [0, 8, 9]])]
  | 57 => [(3, [.keep [0, 1, 2, 3, 9, 10]]), (4, [.keep [0, 1, 2, 3, 9, 10, 12]]), (5, [.keep [0, 1, 2, 3, 9, 10]]), (7, [.keep [0, 1, 2, 3, 9, 10]]), (14, [.keep [0, 1, 2, 3, 9, 10, 11]]), (18, [.keep [0, 1, 2, 3, 9, 10, 11]]), (20, [.keep [0, 1, 2, 3, 9, 10, 12]]), (24, [.keep [0, 1, 2, 3, 9, 10]])]
  | 59 => [(3, [.keep [0, 1, 4, 12, 13]]), (5, [.keep [0, 1, 4, 12, 13], .keep [0, 1, 4, 12, 13]]), (7, [.keep [0, 1, 4, 12, 13]]), (13, [.keep [0, 1, 4, 12, 13], .keep [0, 1, 4, 12, 13]]), (15, [.keep [0, 1, 4, 12, 13], .keep [0, 1, 4, 12, 13]]), (17, [.keep [0, 1, 4, 12, 13]]), (21, [.keep [0, 1, 4, 12, 13]])]
  | 58 => [(3, [.keep [0, 1, 4, 11, 12], .keep [0, 1, 4, 11, 12]]), (5, [.keep [0, 1, 4, 11, 12], .keep [0, 1, 4, 11, 12]]), (7, [.keep [0, 1, 4, 11, 12]]), (11, [.keep [0, 1, 4, 11, 12]])]
  | 54 => [(5, [.keep [0, 1, 8, 9, 10, 11]])]
  | 45 => [(2, [.keep [0, 1, 2, 3, 4, 10, 11]])]
  | 11 => [(8, [.own 12 3, .weak [10, 35], .keep [10, 11, 12, 35, 36, 37]]), (16, [.own 16 1, .own 17 1, .weak [10, 35, 72], .keep [10, 11, 12, 15, 16, 17, 35, 36, 37, 72, 73, 74]]), (22, [.keep [10, 11, 12, 15, 16, 17, 35, 36, 37, 72, 73, 74]]), (23, [.own 12 3, .weak [10, 35, 99], .keep [10, 11, 12, 16, 35, 36, 37, 99, 100, 101]]), (27, [.keep [10, 11, 12, 16, 35, 36, 37, 99, 100, 101]]), (28, [.keep [10, 11, 12, 35, 36, 37]])]
  | 50 => [(2, [.weak [0], .keep [0, 1, 7, 8]]), (7, [.keep [0, 1, 7, 8]])]
  | 13 => [(6, [.own 10 2, .weak [8, 23], .keep [8, 10, 23, 24, 25]]), (11, [.keep [8, 10, 23, 24, 25]])]
  | 16 => [(4, [.weak [0, 1], .keep [0, 1, 5]]), (8, [.keep [0, 1, 5]])]
  | 8 => [(5, [.own 3 2, .keep [1, 3, 4]]), (8, [.keep [1, 3, 4]])]
  | _ => []
def A0 : Ann := { okf := fun _ => true, keeps := fun f => [44, 47].contains f, muts := fun f => [33, 44, 45, 47, 52, 53, 54, 55, 56, 57, 58, 59, 62, 64, 65, 66, 67].contains f, ros := fun f => [].contains f, loud := fun f r => false, pre := fun f r => ((preOf f).lookup r).getD [] }
abbrev RG (f q : Nat) (g : List Ghost) (o : Array Oper) (d : Bool) (s : St) : Prop := evW Try.prog A0 f (.region q o d) s = regW Try.prog A0 (d && true) o o.toList (ghostsD g s)
theorem r43_0 {o d s} : RG 43 0 [] o d s := w_region
theorem r43_1 {o d s} : RG 43 1 [] o d s := w_region
theorem r43_2 {o d s} : RG 43 2 [] o d s := w_region
theorem r43_3 {o d s} : RG 43 3 [] o d s := w_region
theorem r43_4 {o d s} : RG 43 4 [] o d s := w_region
theorem r43_5 {o d s} : RG 43 5 [.keep [2, 3, 7, 8]] o d s := w_region
theorem r43_7 {o d s} : RG 43 7 [] o d s := w_region
theorem r43_8 {o d s} : RG 43 8 [] o d s := w_region
theorem r43_9 {o d s} : RG 43 9 [] o d s := w_region
theorem r43_6 {o d s} : RG 43 6 [] o d s := w_region
theorem r43_10 {o d s} : RG 43 10 [.keep [2, 3, 7, 8]] o d s := w_region
theorem r25_0 {o d s} : RG 25 0 [] o d s := w_region
theorem r25_1 {o d s} : RG 25 1 [] o d s := w_region
theorem r9_0 {o d s} : RG 9 0 [] o d s := w_region
theorem r9_1 {o d s} : RG 9 1 [] o d s := w_region
theorem r24_0 {o d s} : RG 24 0 [] o d s := w_region
theorem r24_1 {o d s} : RG 24 1 [] o d s := w_region
theorem r24_2 {o d s} : RG 24 2 [] o d s := w_region
theorem r24_3 {o d s} : RG 24 3 [.keep [1, 3, 4]] o d s := w_region
theorem r24_5 {o d s} : RG 24 5 [] o d s := w_region
theorem r24_4 {o d s} : RG 24 4 [] o d s := w_region
theorem r24_6 {o d s} : RG 24 6 [.keep [1, 3, 4]] o d s := w_region
theorem r51_0 {o d s} : RG 51 0 [] o d s := w_region
theorem r51_1 {o d s} : RG 51 1 [] o d s := w_region
theorem r51_2 {o d s} : RG 51 2 [] o d s := w_region
theorem r51_3 {o d s} : RG 51 3 [] o d s := w_region
theorem r51_4 {o d s} : RG 51 4 [] o d s := w_region
theorem r51_5 {o d s} : RG 51 5 [] o d s := w_region
theorem r44_0 {o d s} : RG 44 0 [.own 0 5] o d s := w_region
theorem r44_1 {o d s} : RG 44 1 [] o d s := w_region
theorem r44_2 {o d s} : RG 44 2 [] o d s := w_region
theorem r44_3 {o d s} : RG 44 3 [] o d s := w_region
theorem r44_4 {o d s} : RG 44 4 [] o d s := w_region
theorem r44_5 {o d s} : RG 44 5 [] o d s := w_region
theorem r44_6 {o d s} : RG 44 6 [] o d s := w_region
theorem r44_7 {o d s} : RG 44 7 [.weak [35], .keep [0, 7, 8, 35, 36, 37]] o d s := w_region
theorem r44_8 {o d s} : RG 44 8 [] o d s := w_region
theorem r44_9 {o d s} : RG 44 9 [] o d s := w_region
theorem r44_10 {o d s} : RG 44 10 [] o d s := w_region
theorem r44_11 {o d s} : RG 44 11 [] o d s := w_region
theorem r44_12 {o d s} : RG 44 12 [.keep [0, 7, 8, 35, 36, 37]] o d s := w_region
theorem r44_13 {o d s} : RG 44 13 [] o d s := w_region
theorem r29_0 {o d s} : RG 29 0 [] o d s := w_region
theorem r29_1 {o d s} : RG 29 1 [] o d s := w_region
theorem r28_0 {o d s} : RG 28 0 [] o d s := w_region
theorem r28_1 {o d s} : RG 28 1 [] o d s := w_region
theorem r28_2 {o d s} : RG 28 2 [] o d s := w_region
theorem r28_3 {o d s} : RG 28 3 [] o d s := w_region
theorem r28_4 {o d s} : RG 28 4 [] o d s := w_region
theorem r28_5 {o d s} : RG 28 5 [.weak [7, 8, 20], .keep [3, 4, 7, 8, 9, 10, 20, 21, 22]] o d s := w_region
theorem r28_6 {o d s} : RG 28 6 [] o d s := w_region
theorem r28_7 {o d s} : RG 28 7 [] o d s := w_region
theorem r28_8 {o d s} : RG 28 8 [] o d s := w_region
theorem r28_9 {o d s} : RG 28 9 [] o d s := w_region
theorem r28_10 {o d s} : RG 28 10 [] o d s := w_region
theorem r28_11 {o d s} : RG 28 11 [] o d s := w_region
theorem r28_12 {o d s} : RG 28 12 [] o d s := w_region
theorem r28_13 {o d s} : RG 28 13 [.keep [3, 4, 7, 8, 9, 10, 20, 21, 22]] o d s := w_region
theorem r28_14 {o d s} : RG 28 14 [] o d s := w_region
theorem r28_15 {o d s} : RG 28 15 [] o d s := w_region
theorem r31_0 {o d s} : RG 31 0 [] o d s := w_region
theorem r31_1 {o d s} : RG 31 1 [] o d s := w_region
theorem r31_2 {o d s} : RG 31 2 [.weak [8], .keep [1, 8, 9, 10]] o d s := w_region
theorem r31_3 {o d s} : RG 31 3 [] o d s := w_region
theorem r31_4 {o d s} : RG 31 4 [] o d s := w_region
theorem r31_5 {o d s} : RG 31 5 [] o d s := w_region
theorem r31_6 {o d s} : RG 31 6 [] o d s := w_region
theorem r31_7 {o d s} : RG 31 7 [.keep [1, 8, 9, 10]] o d s := w_region
theorem r30_0 {o d s} : RG 30 0 [] o d s := w_region
theorem r30_1 {o d s} : RG 30 1 [] o d s := w_region
theorem r30_2 {o d s} : RG 30 2 [] o d s := w_region
theorem r30_3 {o d s} : RG 30 3 [] o d s := w_region
theorem r30_4 {o d s} : RG 30 4 [] o d s := w_region
theorem r32_0 {o d s} : RG 32 0 [] o d s := w_region
theorem r32_1 {o d s} : RG 32 1 [] o d s := w_region
theorem r32_2 {o d s} : RG 32 2 [.weak [0], .keep [0, 1, 7, 8]] o d s := w_region
theorem r32_3 {o d s} : RG 32 3 [] o d s := w_region
theorem r32_4 {o d s} : RG 32 4 [] o d s := w_region
theorem r32_5 {o d s} : RG 32 5 [] o d s := w_region
theorem r32_6 {o d s} : RG 32 6 [] o d s := w_region
theorem r32_7 {o d s} : RG 32 7 [.keep [0, 1, 7, 8]] o d s := w_region
theorem r39_0 {o d s} : RG 39 0 [] o d s := w_region
theorem r39_1 {o d s} : RG 39 1 [] o d s := w_region
theorem r39_2 {o d s} : RG 39 2 [] o d s := w_region
theorem r39_3 {o d s} : RG 39 3 [] o d s := w_region
theorem r39_4 {o d s} : RG 39 4 [.weak [0], .keep [0, 3, 4, 5]] o d s := w_region
theorem r39_6 {o d s} : RG 39 6 [] o d s := w_region
theorem r39_7 {o d s} : RG 39 7 [] o d s := w_region
theorem r39_8 {o d s} : RG 39 8 [.weak [0], .keep [0, 3, 4, 5, 6]] o d s := w_region
theorem r39_10 {o d s} : RG 39 10 [] o d s := w_region
theorem r39_11 {o d s} : RG 39 11 [] o d s := w_region
theorem r39_9 {o d s} : RG 39 9 [] o d s := w_region
theorem r39_12 {o d s} : RG 39 12 [.keep [0, 3, 4, 5, 6]] o d s := w_region
theorem r39_5 {o d s} : RG 39 5 [] o d s := w_region
theorem r39_13 {o d s} : RG 39 13 [.keep [0, 3, 4, 5]] o d s := w_region
theorem r39_14 {o d s} : RG 39 14 [] o d s := w_region
theorem r39_15 {o d s} : RG 39 15 [.own 7 1, .weak [0], .keep [0, 3, 4, 7, 59, 60]] o d s := w_region
theorem r39_16 {o d s} : RG 39 16 [] o d s := w_region
theorem r39_17 {o d s} : RG 39 17 [] o d s := w_region
theorem r39_18 {o d s} : RG 39 18 [] o d s := w_region
theorem r39_19 {o d s} : RG 39 19 [] o d s := w_region
theorem r39_20 {o d s} : RG 39 20 [] o d s := w_region
theorem r39_21 {o d s} : RG 39 21 [.keep [0, 3, 4, 7, 59, 60]] o d s := w_region
theorem r18_0 {o d s} : RG 18 0 [] o d s := w_region
theorem r18_1 {o d s} : RG 18 1 [] o d s := w_region
theorem r18_2 {o d s} : RG 18 2 [] o d s := w_region
theorem r18_3 {o d s} : RG 18 3 [] o d s := w_region
theorem r18_4 {o d s} : RG 18 4 [.own 3 1, .weak [4], .keep [3, 4, 9, 10]] o d s := w_region
theorem r18_5 {o d s} : RG 18 5 [] o d s := w_region
theorem r18_6 {o d s} : RG 18 6 [] o d s := w_region
theorem r18_7 {o d s} : RG 18 7 [] o d s := w_region
theorem r18_8 {o d s} : RG 18 8 [] o d s := w_region
theorem r18_9 {o d s} : RG 18 9 [] o d s := w_region
theorem r18_10 {o d s} : RG 18 10 [.keep [3, 4, 9, 10]] o d s := w_region
theorem r34_0 {o d s} : RG 34 0 [] o d s := w_region
theorem r34_1 {o d s} : RG 34 1 [] o d s := w_region
theorem r61_0 {o d s} : RG 61 0 [] o d s := w_region
theorem r61_1 {o d s} : RG 61 1 [] o d s := w_region
theorem r61_2 {o d s} : RG 61 2 [] o d s := w_region
theorem r61_3 {o d s} : RG 61 3 [] o d s := w_region
theorem r61_4 {o d s} : RG 61 4 [] o d s := w_region
theorem r61_5 {o d s} : RG 61 5 [] o d s := w_region
theorem r61_6 {o d s} : RG 61 6 [] o d s := w_region
theorem r61_7 {o d s} : RG 61 7 [] o d s := w_region
theorem r61_8 {o d s} : RG 61 8 [] o d s := w_region
theorem r61_9 {o d s} : RG 61 9 [] o d s := w_region
theorem r61_10 {o d s} : RG 61 10 [] o d s := w_region
theorem r46_0 {o d s} : RG 46 0 [] o d s := w_region
theorem r46_1 {o d s} : RG 46 1 [] o d s := w_region
theorem r46_2 {o d s} : RG 46 2 [] o d s := w_region
theorem r52_0 {o d s} : RG 52 0 [] o d s := w_region
theorem r52_1 {o d s} : RG 52 1 [.keep [0, 1, 2, 3, 8]] o d s := w_region
theorem r52_3 {o d s} : RG 52 3 [] o d s := w_region
theorem r52_4 {o d s} : RG 52 4 [.keep [0, 1, 2, 3, 8, 9]] o d s := w_region
theorem r52_6 {o d s} : RG 52 6 [] o d s := w_region
theorem r52_5 {o d s} : RG 52 5 [] o d s := w_region
theorem r52_2 {o d s} : RG 52 2 [.keep [0, 1, 2, 3, 8, 9]] o d s := w_region
theorem r62_0 {o d s} : RG 62 0 [] o d s := w_region
theorem r62_1 {o d s} : RG 62 1 [.keep [0, 2, 3, 4, 10]] o d s := w_region
theorem r62_2 {o d s} : RG 62 2 [] o d s := w_region
theorem r62_3 {o d s} : RG 62 3 [] o d s := w_region
theorem r62_4 {o d s} : RG 62 4 [] o d s := w_region
theorem r62_5 {o d s} : RG 62 5 [] o d s := w_region
theorem r62_6 {o d s} : RG 62 6 [] o d s := w_region
theorem r62_7 {o d s} : RG 62 7 [] o d s := w_region
theorem r53_0 {o d s} : RG 53 0 [] o d s := w_region
theorem r53_1 {o d s} : RG 53 1 [] o d s := w_region
theorem r53_2 {o d s} : RG 53 2 [] o d s := w_region
theorem r53_3 {o d s} : RG 53 3 [] o d s := w_region
theorem r53_4 {o d s} : RG 53 4 [.keep [0, 3, 8, 9, 10, 11]] o d s := w_region
theorem r53_6 {o d s} : RG 53 6 [] o d s := w_region
theorem r53_5 {o d s} : RG 53 5 [] o d s := w_region
theorem r53_7 {o d s} : RG 53 7 [.keep [0, 3, 8, 9, 10, 11]] o d s := w_region
theorem r53_8 {o d s} : RG 53 8 [.keep [0, 3, 8, 9, 12]] o d s := w_region
theorem r53_10 {o d s} : RG 53 10 [] o d s := w_region
theorem r53_11 {o d s} : RG 53 11 [] o d s := w_region
theorem r53_9 {o d s} : RG 53 9 [] o d s := w_region
theorem r67_0 {o d s} : RG 67 0 [] o d s := w_region
theorem r67_1 {o d s} : RG 67 1 [] o d s := w_region
theorem r67_2 {o d s} : RG 67 2 [] o d s := w_region
theorem r67_3 {o d s} : RG 67 3 [] o d s := w_region
theorem r67_4 {o d s} : RG 67 4 [] o d s := w_region
theorem r66_0 {o d s} : RG 66 0 [] o d s := w_region
theorem r66_1 {o d s} : RG 66 1 [] o d s := w_region
theorem r66_2 {o d s} : RG 66 2 [] o d s := w_region
theorem r66_3 {o d s} : RG 66 3 [] o d s := w_region
theorem r66_4 {o d s} : RG 66 4 [] o d s := w_region
theorem r65_0 {o d s} : RG 65 0 [] o d s := w_region
theorem r65_1 {o d s} : RG 65 1 [] o d s := w_region
theorem r55_0 {o d s} : RG 55 0 [] o d s := w_region
theorem r55_1 {o d s} : RG 55 1 [] o d s := w_region
theorem r55_2 {o d s} : RG 55 2 [] o d s := w_region
theorem r55_3 {o d s} : RG 55 3 [] o d s := w_region
theorem r55_4 {o d s} : RG 55 4 [] o d s := w_region
theorem r55_5 {o d s} : RG 55 5 [] o d s := w_region
theorem r55_6 {o d s} : RG 55 6 [] o d s := w_region
theorem r55_7 {o d s} : RG 55 7 [] o d s := w_region
theorem r55_8 {o d s} : RG 55 8 [] o d s := w_region
theorem r55_9 {o d s} : RG 55 9 [] o d s := w_region
theorem r55_10 {o d s} : RG 55 10 [] o d s := w_region
theorem r55_11 {o d s} : RG 55 11 [] o d s := w_region
theorem r55_12 {o d s} : RG 55 12 [] o d s := w_region
theorem r55_14 {o d s} : RG 55 14 [] o d s := w_region
theorem r55_15 {o d s} : RG 55 15 [] o d s := w_region
theorem r55_16 {o d s} : RG 55 16 [] o d s := w_region
theorem r55_17 {o d s} : RG 55 17 [] o d s := w_region
theorem r55_13 {o d s} : RG 55 13 [] o d s := w_region
theorem r56_0 {o d s} : RG 56 0 [] o d s := w_region
theorem r56_1 {o d s} : RG 56 1 [] o d s := w_region
theorem r56_2 {o d s} : RG 56 2 [.keep [0, 8, 9]] o d s := w_region
theorem r56_3 {o d s} : RG 56 3 [] o d s := w_region
theorem r56_4 {o d s} : RG 56 4 [] o d s := w_region
theorem r56_5 {o d s} : RG 56 5 [] o d s := w_region
theorem r57_0 {o d s} : RG 57 0 [] o d s := w_region
theorem r57_1 {o d s} : RG 57 1 [] o d s := w_region
theorem r57_2 {o d s} : RG 57 2 [] o d s := w_region
theorem r57_3 {o d s} : RG 57 3 [.keep [0, 1, 2, 3, 9, 10]] o d s := w_region
theorem r57_5 {o d s} : RG 57 5 [.keep [0, 1, 2, 3, 9, 10]] o d s := w_region
theorem r57_6 {o d s} : RG 57 6 [] o d s := w_region
theorem r57_7 {o d s} : RG 57 7 [.keep [0, 1, 2, 3, 9, 10]] o d s := w_region
theorem r57_8 {o d s} : RG 57 8 [] o d s := w_region
theorem r57_9 {o d s} : RG 57 9 [] o d s := w_region
theorem r57_10 {o d s} : RG 57 10 [] o d s := w_region
theorem r57_11 {o d s} : RG 57 11 [] o d s := w_region
theorem r57_12 {o d s} : RG 57 12 [] o d s := w_region
theorem r57_13 {o d s} : RG 57 13 [] o d s := w_region
theorem r57_14 {o d s} : RG 57 14 [.keep [0, 1, 2, 3, 9, 10, 11]] o d s := w_region
theorem r57_16 {o d s} : RG 57 16 [] o d s := w_region
theorem r57_17 {o d s} : RG 57 17 [] o d s := w_region
theorem r57_15 {o d s} : RG 57 15 [] o d s := w_region
theorem r57_18 {o d s} : RG 57 18 [.keep [0, 1, 2, 3, 9, 10, 11]] o d s := w_region
theorem r57_19 {o d s} : RG 57 19 [] o d s := w_region
theorem r57_20 {o d s} : RG 57 20 [.keep [0, 1, 2, 3, 9, 10, 12]] o d s := w_region
theorem r57_22 {o d s} : RG 57 22 [] o d s := w_region
theorem r57_23 {o d s} : RG 57 23 [] o d s := w_region
theorem r57_21 {o d s} : RG 57 21 [] o d s := w_region
theorem r57_4 {o d s} : RG 57 4 [.keep [0, 1, 2, 3, 9, 10, 12]] o d s := w_region
theorem r57_24 {o d s} : RG 57 24 [.keep [0, 1, 2, 3, 9, 10]] o d s := w_region
theorem r59_0 {o d s} : RG 59 0 [] o d s := w_region
theorem r59_1 {o d s} : RG 59 1 [] o d s := w_region
theorem r59_2 {o d s} : RG 59 2 [] o d s := w_region
theorem r59_3 {o d s} : RG 59 3 [.keep [0, 1, 4, 12, 13]] o d s := w_region
theorem r59_4 {o d s} : RG 59 4 [] o d s := w_region
theorem r59_5 {o d s} : RG 59 5 [.keep [0, 1, 4, 12, 13], .keep [0, 1, 4, 12, 13]] o d s := w_region
theorem r59_6 {o d s} : RG 59 6 [] o d s := w_region
theorem r59_7 {o d s} : RG 59 7 [.keep [0, 1, 4, 12, 13]] o d s := w_region
theorem r59_8 {o d s} : RG 59 8 [] o d s := w_region
theorem r59_9 {o d s} : RG 59 9 [] o d s := w_region
theorem r59_10 {o d s} : RG 59 10 [] o d s := w_region
theorem r59_11 {o d s} : RG 59 11 [] o d s := w_region
theorem r59_12 {o d s} : RG 59 12 [] o d s := w_region
theorem r59_13 {o d s} : RG 59 13 [.keep [0, 1, 4, 12, 13], .keep [0, 1, 4, 12, 13]] o d s := w_region
theorem r59_14 {o d s} : RG 59 14 [] o d s := w_region
theorem r59_15 {o d s} : RG 59 15 [.keep [0, 1, 4, 12, 13], .keep [0, 1, 4, 12, 13]] o d s := w_region
theorem r59_16 {o d s} : RG 59 16 [] o d s := w_region
theorem r59_17 {o d s} : RG 59 17 [.keep [0, 1, 4, 12, 13]] o d s := w_region
theorem r59_18 {o d s} : RG 59 18 [] o d s := w_region
theorem r59_19 {o d s} : RG 59 19 [] o d s := w_region
theorem r59_20 {o d s} : RG 59 20 [] o d s := w_region
theorem r59_21 {o d s} : RG 59 21 [.keep [0, 1, 4, 12, 13]] o d s := w_region
theorem r59_22 {o d s} : RG 59 22 [] o d s := w_region
theorem r58_0 {o d s} : RG 58 0 [] o d s := w_region
theorem r58_1 {o d s} : RG 58 1 [] o d s := w_region
theorem r58_2 {o d s} : RG 58 2 [] o d s := w_region
theorem r58_3 {o d s} : RG 58 3 [.keep [0, 1, 4, 11, 12], .keep [0, 1, 4, 11, 12]] o d s := w_region
theorem r58_4 {o d s} : RG 58 4 [] o d s := w_region
theorem r58_5 {o d s} : RG 58 5 [.keep [0, 1, 4, 11, 12], .keep [0, 1, 4, 11, 12]] o d s := w_region
theorem r58_6 {o d s} : RG 58 6 [] o d s := w_region
theorem r58_7 {o d s} : RG 58 7 [.keep [0, 1, 4, 11, 12]] o d s := w_region
theorem r58_8 {o d s} : RG 58 8 [] o d s := w_region
theorem r58_9 {o d s} : RG 58 9 [] o d s := w_region
theorem r58_10 {o d s} : RG 58 10 [] o d s := w_region
theorem r58_11 {o d s} : RG 58 11 [.keep [0, 1, 4, 11, 12]] o d s := w_region
theorem r63_0 {o d s} : RG 63 0 [] o d s := w_region
theorem r63_1 {o d s} : RG 63 1 [] o d s := w_region
theorem r64_0 {o d s} : RG 64 0 [] o d s := w_region
theorem r64_1 {o d s} : RG 64 1 [] o d s := w_region
theorem r64_2 {o d s} : RG 64 2 [] o d s := w_region
theorem r64_3 {o d s} : RG 64 3 [] o d s := w_region
theorem r64_4 {o d s} : RG 64 4 [] o d s := w_region
theorem r54_0 {o d s} : RG 54 0 [] o d s := w_region
theorem r54_1 {o d s} : RG 54 1 [] o d s := w_region
theorem r54_2 {o d s} : RG 54 2 [] o d s := w_region
theorem r54_3 {o d s} : RG 54 3 [] o d s := w_region
theorem r54_4 {o d s} : RG 54 4 [] o d s := w_region
theorem r54_5 {o d s} : RG 54 5 [.keep [0, 1, 8, 9, 10, 11]] o d s := w_region
theorem r54_7 {o d s} : RG 54 7 [] o d s := w_region
theorem r54_8 {o d s} : RG 54 8 [] o d s := w_region
theorem r54_9 {o d s} : RG 54 9 [] o d s := w_region
theorem r54_10 {o d s} : RG 54 10 [] o d s := w_region
theorem r54_6 {o d s} : RG 54 6 [] o d s := w_region
theorem r45_0 {o d s} : RG 45 0 [] o d s := w_region
theorem r45_1 {o d s} : RG 45 1 [] o d s := w_region
theorem r45_2 {o d s} : RG 45 2 [.keep [0, 1, 2, 3, 4, 10, 11]] o d s := w_region
theorem r45_3 {o d s} : RG 45 3 [] o d s := w_region
theorem r45_4 {o d s} : RG 45 4 [] o d s := w_region
theorem r45_5 {o d s} : RG 45 5 [] o d s := w_region
theorem r45_6 {o d s} : RG 45 6 [] o d s := w_region
theorem r45_7 {o d s} : RG 45 7 [] o d s := w_region
theorem r45_8 {o d s} : RG 45 8 [] o d s := w_region
theorem r45_9 {o d s} : RG 45 9 [] o d s := w_region
theorem r45_10 {o d s} : RG 45 10 [] o d s := w_region
theorem r45_11 {o d s} : RG 45 11 [] o d s := w_region
theorem r45_12 {o d s} : RG 45 12 [] o d s := w_region
theorem r45_13 {o d s} : RG 45 13 [] o d s := w_region
theorem r45_14 {o d s} : RG 45 14 [] o d s := w_region
theorem r45_15 {o d s} : RG 45 15 [] o d s := w_region
theorem r45_16 {o d s} : RG 45 16 [] o d s := w_region
theorem r45_17 {o d s} : RG 45 17 [] o d s := w_region
theorem r45_18 {o d s} : RG 45 18 [] o d s := w_region
theorem r45_19 {o d s} : RG 45 19 [] o d s := w_region
theorem r45_20 {o d s} : RG 45 20 [] o d s := w_region
theorem r45_21 {o d s} : RG 45 21 [] o d s := w_region
theorem r45_22 {o d s} : RG 45 22 [] o d s := w_region
theorem r45_23 {o d s} : RG 45 23 [] o d s := w_region
theorem r45_24 {o d s} : RG 45 24 [] o d s := w_region
theorem r45_25 {o d s} : RG 45 25 [] o d s := w_region
theorem r45_26 {o d s} : RG 45 26 [] o d s := w_region
theorem r45_27 {o d s} : RG 45 27 [] o d s := w_region
theorem r45_28 {o d s} : RG 45 28 [] o d s := w_region
theorem r45_29 {o d s} : RG 45 29 [] o d s := w_region
theorem r45_30 {o d s} : RG 45 30 [] o d s := w_region
theorem r33_0 {o d s} : RG 33 0 [] o d s := w_region
theorem r33_1 {o d s} : RG 33 1 [] o d s := w_region
theorem r11_0 {o d s} : RG 11 0 [] o d s := w_region
theorem r11_1 {o d s} : RG 11 1 [] o d s := w_region
theorem r11_2 {o d s} : RG 11 2 [] o d s := w_region
theorem r11_3 {o d s} : RG 11 3 [] o d s := w_region
theorem r11_4 {o d s} : RG 11 4 [] o d s := w_region
theorem r11_5 {o d s} : RG 11 5 [] o d s := w_region
theorem r11_6 {o d s} : RG 11 6 [] o d s := w_region
theorem r11_7 {o d s} : RG 11 7 [] o d s := w_region
theorem r11_8 {o d s} : RG 11 8 [.own 12 3, .weak [10, 35], .keep [10, 11, 12, 35, 36, 37]] o d s := w_region
theorem r11_9 {o d s} : RG 11 9 [] o d s := w_region
theorem r11_10 {o d s} : RG 11 10 [] o d s := w_region
theorem r11_11 {o d s} : RG 11 11 [] o d s := w_region
theorem r11_12 {o d s} : RG 11 12 [] o d s := w_region
theorem r11_13 {o d s} : RG 11 13 [] o d s := w_region
theorem r11_14 {o d s} : RG 11 14 [] o d s := w_region
theorem r11_15 {o d s} : RG 11 15 [] o d s := w_region
theorem r11_16 {o d s} : RG 11 16 [.own 16 1, .own 17 1, .weak [10, 35, 72], .keep [10, 11, 12, 15, 16, 17, 35, 36, 37, 72, 73, 74]] o d s := w_region
theorem r11_17 {o d s} : RG 11 17 [] o d s := w_region
theorem r11_18 {o d s} : RG 11 18 [] o d s := w_region
theorem r11_19 {o d s} : RG 11 19 [] o d s := w_region
theorem r11_20 {o d s} : RG 11 20 [] o d s := w_region
theorem r11_21 {o d s} : RG 11 21 [] o d s := w_region
theorem r11_22 {o d s} : RG 11 22 [.keep [10, 11, 12, 15, 16, 17, 35, 36, 37, 72, 73, 74]] o d s := w_region
theorem r11_23 {o d s} : RG 11 23 [.own 12 3, .weak [10, 35, 99], .keep [10, 11, 12, 16, 35, 36, 37, 99, 100, 101]] o d s := w_region
theorem r11_24 {o d s} : RG 11 24 [] o d s := w_region
theorem r11_25 {o d s} : RG 11 25 [] o d s := w_region
theorem r11_26 {o d s} : RG 11 26 [] o d s := w_region
theorem r11_27 {o d s} : RG 11 27 [.keep [10, 11, 12, 16, 35, 36, 37, 99, 100, 101]] o d s := w_region
theorem r11_28 {o d s} : RG 11 28 [.keep [10, 11, 12, 35, 36, 37]] o d s := w_region
theorem r11_29 {o d s} : RG 11 29 [] o d s := w_region
theorem r38_0 {o d s} : RG 38 0 [] o d s := w_region
theorem r38_1 {o d s} : RG 38 1 [] o d s := w_region
theorem r50_0 {o d s} : RG 50 0 [] o d s := w_region
theorem r50_1 {o d s} : RG 50 1 [] o d s := w_region
theorem r50_2 {o d s} : RG 50 2 [.weak [0], .keep [0, 1, 7, 8]] o d s := w_region
theorem r50_3 {o d s} : RG 50 3 [] o d s := w_region
theorem r50_4 {o d s} : RG 50 4 [] o d s := w_region
theorem r50_5 {o d s} : RG 50 5 [] o d s := w_region
theorem r50_6 {o d s} : RG 50 6 [] o d s := w_region
theorem r50_7 {o d s} : RG 50 7 [.keep [0, 1, 7, 8]] o d s := w_region
theorem r37_0 {o d s} : RG 37 0 [] o d s := w_region
theorem r37_1 {o d s} : RG 37 1 [] o d s := w_region
theorem r13_0 {o d s} : RG 13 0 [] o d s := w_region
theorem r13_1 {o d s} : RG 13 1 [] o d s := w_region
theorem r13_2 {o d s} : RG 13 2 [] o d s := w_region
theorem r13_3 {o d s} : RG 13 3 [] o d s := w_region
theorem r13_4 {o d s} : RG 13 4 [] o d s := w_region
theorem r13_5 {o d s} : RG 13 5 [] o d s := w_region
theorem r13_6 {o d s} : RG 13 6 [.own 10 2, .weak [8, 23], .keep [8, 10, 23, 24, 25]] o d s := w_region
theorem r13_7 {o d s} : RG 13 7 [] o d s := w_region
theorem r13_8 {o d s} : RG 13 8 [] o d s := w_region
theorem r13_9 {o d s} : RG 13 9 [] o d s := w_region
theorem r13_10 {o d s} : RG 13 10 [] o d s := w_region
theorem r13_11 {o d s} : RG 13 11 [.keep [8, 10, 23, 24, 25]] o d s := w_region
theorem r16_0 {o d s} : RG 16 0 [] o d s := w_region
theorem r16_1 {o d s} : RG 16 1 [] o d s := w_region
theorem r16_2 {o d s} : RG 16 2 [] o d s := w_region
theorem r16_3 {o d s} : RG 16 3 [] o d s := w_region
theorem r16_4 {o d s} : RG 16 4 [.weak [0, 1], .keep [0, 1, 5]] o d s := w_region
theorem r16_6 {o d s} : RG 16 6 [] o d s := w_region
theorem r16_7 {o d s} : RG 16 7 [] o d s := w_region
theorem r16_5 {o d s} : RG 16 5 [] o d s := w_region
theorem r16_8 {o d s} : RG 16 8 [.keep [0, 1, 5]] o d s := w_region
theorem r8_0 {o d s} : RG 8 0 [] o d s := w_region
theorem r8_1 {o d s} : RG 8 1 [] o d s := w_region
theorem r8_2 {o d s} : RG 8 2 [] o d s := w_region
theorem r8_3 {o d s} : RG 8 3 [] o d s := w_region
theorem r8_4 {o d s} : RG 8 4 [] o d s := w_region
theorem r8_5 {o d s} : RG 8 5 [.own 3 2, .keep [1, 3, 4]] o d s := w_region
theorem r8_7 {o d s} : RG 8 7 [] o d s := w_region
theorem r8_6 {o d s} : RG 8 6 [] o d s := w_region
theorem r8_8 {o d s} : RG 8 8 [.keep [1, 3, 4]] o d s := w_region
theorem r8_9 {o d s} : RG 8 9 [] o d s := w_region
theorem r8_10 {o d s} : RG 8 10 [] o d s := w_region
def bs := And.intro @w_seq (And.intro @ghosts_nil (And.intro @regW_some (And.intro @ops_move (And.intro @ops_assign (And.intro @ops_bin (And.intro @ops_load (And.intro @ops_indexAddr (And.intro @ops_len (And.intro @ops_store (And.intro @ops_call (And.intro @opsP_some (And.intro @opsQ_none (And.intro @opsQ_some (And.intro @opsQ_loud (And.intro @ops_nil (And.intro @doneW_some (And.intro @seqW_normal (And.intro @seqW_ret (And.intro @seqW_exit (And.intro @w_cond (And.intro @w_block (And.intro @condW_true (And.intro @condW_false (And.intro @evalO_tmp (And.intro @evalO_const (And.intro @evalO_func (And.intro @ofVal_int (And.intro @ofVal_bool (And.intro @ofVal_nil (And.intro @ofVal_str (And.intro @set8 (And.intro @getD8 (And.intro @List.set_cons_succ.{0} (And.intro @List.set_cons_zero.{0} (And.intro @List.getD_cons_succ.{0} (And.intro @List.getD_cons_zero.{0} (And.intro @binD_add (And.intro @binD_sub (And.intro @binD_mul (And.intro @binD_lss (And.intro @binD_leq (And.intro @binD_gtr (And.intro @binD_geq (And.intro @binD_eql (And.intro @binD_neq (And.intro @boolD_bv (And.intro @Option.map_some.{0, 0} (And.intro @blockW_normal (And.intro @blockW_ret (And.intro @blockW_exit (And.intro @blockW_other (And.intro @Bool.false_and (And.intro @Bool.and_false (And.intro @Bool.and_true (And.intro @Bool.true_and (And.intro @Bool.not_true (And.intro @Bool.not_false (And.intro @decide_true (And.intro @decide_false (And.intro @ops_guard (And.intro @opsG_true (And.intro @opsG_false (And.intro @wantT_some (And.intro @yield_bv (And.intro @yield_undef (And.intro @putD_some (And.intro @putD_none (And.intro @beq_true' (And.intro @beq_false' (And.intro @List.getElem?_toArray.{0} (And.intro @List.getElem?_cons_succ.{0} (And.intro @List.getElem?_cons_zero.{0} (And.intro @Option.bind_some.{0, 0} (And.intro @Option.bind_none.{0, 0} (And.intro @Option.map_none.{0, 0} (And.intro @ops_pick (And.intro @List.length_cons.{0} (And.intro @List.length_nil.{0} (And.intro @List.cons_append.{0} (And.intro @List.nil_append.{0} (And.intro @ldOb_arr (And.intro @ldOb_frz (And.intro @callV_fn (And.intro @pickD_true (And.intro @pickD_false (And.intro @ops_un (And.intro @unD_not (And.intro @ops_max (And.intro @ops_min (And.intro @ops_bs (And.intro @ops_append (And.intro @ops_make (And.intro @ops_slice (And.intro @ops_extract (And.intro @ops_fieldAddr (And.intro @ops_field (And.intro @ops_build (And.intro @ops_alloc (And.intro @ops_box (And.intro @ops_index (And.intro @ops_conv (And.intro @boxD_leaf (And.intro @boxD_agg (And.intro @boxD_str (And.intro @boxD_bool (And.intro @boxD_lst (And.intro @boxD_ref (And.intro @if_true.{1} (And.intro @if_false.{1} (And.intro @evW_skip (And.intro @evW_exit (And.intro @evW_ret (And.intro @callV_func (And.intro @List.map_cons.{0, 0} (And.intro @List.map_nil.{0, 0} (@Wp_some))))))))))))))))))))))))))))))))))))))))))))))))))))))))))))))))))))))))))))))))))))))))))))))))))))))))))))))))))))
def rs43 := And.intro @r43_0 (And.intro @r43_1 (And.intro @r43_2 (And.intro @r43_3 (And.intro @r43_4 (And.intro @r43_5 (And.intro @r43_7 (And.intro @r43_8 (And.intro @r43_9 (And.intro @r43_6 (@r43_10))))))))))
def rs25 := And.intro @r25_0 (@r25_1)
def rs9 := And.intro @r9_0 (@r9_1)
def rs24 := And.intro @r24_0 (And.intro @r24_1 (And.intro @r24_2 (And.intro @r24_3 (And.intro @r24_5 (And.intro @r24_4 (@r24_6))))))
def rs51 := And.intro @r51_0 (And.intro @r51_1 (And.intro @r51_2 (And.intro @r51_3 (And.intro @r51_4 (@r51_5)))))
def rs44 := And.intro @r44_0 (And.intro @r44_1 (And.intro @r44_2 (And.intro @r44_3 (And.intro @r44_4 (And.intro @r44_5 (And.intro @r44_6 (And.intro @r44_7 (And.intro @r44_8 (And.intro @r44_9 (And.intro @r44_10 (And.intro @r44_11 (And.intro @r44_12 (@r44_13)))))))))))))
def rs29 := And.intro @r29_0 (@r29_1)
def rs28 := And.intro @r28_0 (And.intro @r28_1 (And.intro @r28_2 (And.intro @r28_3 (And.intro @r28_4 (And.intro @r28_5 (And.intro @r28_6 (And.intro @r28_7 (And.intro @r28_8 (And.intro @r28_9 (And.intro @r28_10 (And.intro @r28_11 (And.intro @r28_12 (And.intro @r28_13 (And.intro @r28_14 (@r28_15)))))))))))))))
def rs31 := And.intro @r31_0 (And.intro @r31_1 (And.intro @r31_2 (And.intro @r31_3 (And.intro @r31_4 (And.intro @r31_5 (And.intro @r31_6 (@r31_7)))))))
def rs30 := And.intro @r30_0 (And.intro @r30_1 (And.intro @r30_2 (And.intro @r30_3 (@r30_4))))
def rs32 := And.intro @r32_0 (And.intro @r32_1 (And.intro @r32_2 (And.intro @r32_3 (And.intro @r32_4 (And.intro @r32_5 (And.intro @r32_6 (@r32_7)))))))
def rs39 := And.intro @r39_0 (And.intro @r39_1 (And.intro @r39_2 (And.intro @r39_3 (And.intro @r39_4 (And.intro @r39_6 (And.intro @r39_7 (And.intro @r39_8 (And.intro @r39_10 (And.intro @r39_11 (And.intro @r39_9 (And.intro @r39_12 (And.intro @r39_5 (And.intro @r39_13 (And.intro @r39_14 (And.intro @r39_15 (And.intro @r39_16 (And.intro @r39_17 (And.intro @r39_18 (And.intro @r39_19 (And.intro @r39_20 (@r39_21)))))))))))))))))))))
def rs18 := And.intro @r18_0 (And.intro @r18_1 (And.intro @r18_2 (And.intro @r18_3 (And.intro @r18_4 (And.intro @r18_5 (And.intro @r18_6 (And.intro @r18_7 (And.intro @r18_8 (And.intro @r18_9 (@r18_10))))))))))
def rs34 := And.intro @r34_0 (@r34_1)
def rs61 := And.intro @r61_0 (And.intro @r61_1 (And.intro @r61_2 (And.intro @r61_3 (And.intro @r61_4 (And.intro @r61_5 (And.intro @r61_6 (And.intro @r61_7 (And.intro @r61_8 (And.intro @r61_9 (@r61_10))))))))))
def rs46 := And.intro @r46_0 (And.intro @r46_1 (@r46_2))
def rs52 := And.intro @r52_0 (And.intro @r52_1 (And.intro @r52_3 (And.intro @r52_4 (And.intro @r52_6 (And.intro @r52_5 (@r52_2))))))
def rs62 := And.intro @r62_0 (And.intro @r62_1 (And.intro @r62_2 (And.intro @r62_3 (And.intro @r62_4 (And.intro @r62_5 (And.intro @r62_6 (@r62_7)))))))
def rs53 := And.intro @r53_0 (And.intro @r53_1 (And.intro @r53_2 (And.intro @r53_3 (And.intro @r53_4 (And.intro @r53_6 (And.intro @r53_5 (And.intro @r53_7 (And.intro @r53_8 (And.intro @r53_10 (And.intro @r53_11 (@r53_9)))))))))))
def rs67 := And.intro @r67_0 (And.intro @r67_1 (And.intro @r67_2 (And.intro @r67_3 (@r67_4))))
def rs66 := And.intro @r66_0 (And.intro @r66_1 (And.intro @r66_2 (And.intro @r66_3 (@r66_4))))
def rs65 := And.intro @r65_0 (@r65_1)
def rs55 := And.intro @r55_0 (And.intro @r55_1 (And.intro @r55_2 (And.intro @r55_3 (And.intro @r55_4 (And.intro @r55_5 (And.intro @r55_6 (And.intro @r55_7 (And.intro @r55_8 (And.intro @r55_9 (And.intro @r55_10 (And.intro @r55_11 (And.intro @r55_12 (And.intro @r55_14 (And.intro @r55_15 (And.intro @r55_16 (And.intro @r55_17 (@r55_13)))))))))))))))))
def rs56 := And.intro @r56_0 (And.intro @r56_1 (And.intro @r56_2 (And.intro @r56_3 (And.intro @r56_4 (@r56_5)))))
def rs57 := And.intro @r57_0 (And.intro @r57_1 (And.intro @r57_2 (And.intro @r57_3 (And.intro @r57_5 (And.intro @r57_6 (And.intro @r57_7 (And.intro @r57_8 (And.intro @r57_9 (And.intro @r57_10 (And.intro @r57_11 (And.intro @r57_12 (And.intro @r57_13 (And.intro @r57_14 (And.intro @r57_16 (And.intro @r57_17 (And.intro @r57_15 (And.intro @r57_18 (And.intro @r57_19 (And.intro @r57_20 (And.intro @r57_22 (And.intro @r57_23 (And.intro @r57_21 (And.intro @r57_4 (@r57_24))))))))))))))))))))))))
def rs59 := And.intro @r59_0 (And.intro @r59_1 (And.intro @r59_2 (And.intro @r59_3 (And.intro @r59_4 (And.intro @r59_5 (And.intro @r59_6 (And.intro @r59_7 (And.intro @r59_8 (And.intro @r59_9 (And.intro @r59_10 (And.intro @r59_11 (And.intro @r59_12 (And.intro @r59_13 (And.intro @r59_14 (And.intro @r59_15 (And.intro @r59_16 (And.intro @r59_17 (And.intro @r59_18 (And.intro @r59_19 (And.intro @r59_20 (And.intro @r59_21 (@r59_22))))))))))))))))))))))
def rs58 := And.intro @r58_0 (And.intro @r58_1 (And.intro @r58_2 (And.intro @r58_3 (And.intro @r58_4 (And.intro @r58_5 (And.intro @r58_6 (And.intro @r58_7 (And.intro @r58_8 (And.intro @r58_9 (And.intro @r58_10 (@r58_11)))))))))))
def rs63 := And.intro @r63_0 (@r63_1)
def rs64 := And.intro @r64_0 (And.intro @r64_1 (And.intro @r64_2 (And.intro @r64_3 (@r64_4))))
def rs54 := And.intro @r54_0 (And.intro @r54_1 (And.intro @r54_2 (And.intro @r54_3 (And.intro @r54_4 (And.intro @r54_5 (And.intro @r54_7 (And.intro @r54_8 (And.intro @r54_9 (And.intro @r54_10 (@r54_6))))))))))
def rs45 := And.intro @r45_0 (And.intro @r45_1 (And.intro @r45_2 (And.intro @r45_3 (And.intro @r45_4 (And.intro @r45_5 (And.intro @r45_6 (And.intro @r45_7 (And.intro @r45_8 (And.intro @r45_9 (And.intro @r45_10 (And.intro @r45_11 (And.intro @r45_12 (And.intro @r45_13 (And.intro @r45_14 (And.intro @r45_15 (And.intro @r45_16 (And.intro @r45_17 (And.intro @r45_18 (And.intro @r45_19 (And.intro @r45_20 (And.intro @r45_21 (And.intro @r45_22 (And.intro @r45_23 (And.intro @r45_24 (And.intro @r45_25 (And.intro @r45_26 (And.intro @r45_27 (And.intro @r45_28 (And.intro @r45_29 (@r45_30))))))))))))))))))))))))))))))
def rs33 := And.intro @r33_0 (@r33_1)
def rs11 := And.intro @r11_0 (And.intro @r11_1 (And.intro @r11_2 (And.intro @r11_3 (And.intro @r11_4 (And.intro @r11_5 (And.intro @r11_6 (And.intro @r11_7 (And.intro @r11_8 (And.intro @r11_9 (And.intro @r11_10 (And.intro @r11_11 (And.intro @r11_12 (And.intro @r11_13 (And.intro @r11_14 (And.intro @r11_15 (And.intro @r11_16 (And.intro @r11_17 (And.intro @r11_18 (And.intro @r11_19 (And.intro @r11_20 (And.intro @r11_21 (And.intro @r11_22 (And.intro @r11_23 (And.intro @r11_24 (And.intro @r11_25 (And.intro @r11_26 (And.intro @r11_27 (And.intro @r11_28 (@r11_29)))))))))))))))))))))))))))))
def rs38 := And.intro @r38_0 (@r38_1)
def rs50 := And.intro @r50_0 (And.intro @r50_1 (And.intro @r50_2 (And.intro @r50_3 (And.intro @r50_4 (And.intro @r50_5 (And.intro @r50_6 (@r50_7)))))))
def rs37 := And.intro @r37_0 (@r37_1)
def rs13 := And.intro @r13_0 (And.intro @r13_1 (And.intro @r13_2 (And.intro @r13_3 (And.intro @r13_4 (And.intro @r13_5 (And.intro @r13_6 (And.intro @r13_7 (And.intro @r13_8 (And.intro @r13_9 (And.intro @r13_10 (@r13_11)))))))))))
def rs16 := And.intro @r16_0 (And.intro @r16_1 (And.intro @r16_2 (And.intro @r16_3 (And.intro @r16_4 (And.intro @r16_6 (And.intro @r16_7 (And.intro @r16_5 (@r16_8))))))))
def rs8 := And.intro @r8_0 (And.intro @r8_1 (And.intro @r8_2 (And.intro @r8_3 (And.intro @r8_4 (And.intro @r8_5 (And.intro @r8_7 (And.intro @r8_6 (And.intro @r8_8 (And.intro @r8_9 (@r8_10))))))))))
theorem a25 : aggT Try.prog 25 = some true := by kernel_rfl
theorem z25 : szOf Try.prog 25 = some 4 := by kernel_rfl
theorem a23 : aggT Try.prog 23 = some false := by kernel_rfl
theorem u23 : Try.prog.underlying 23 = some (.slice 25) := Try.underlying23
theorem u26 : Try.prog.underlying 26 = some (.slice 46) := Try.underlying26
theorem z46 : szOf Try.prog 46 = some 2 := by kernel_rfl
theorem b46 : bytesOf Try.prog 46 = some 16 := by kernel_rfl
theorem zc46 : zeroCs Try.prog 46 = some [.v (.int .i64 (0 : Int)), .v (.int .i64 (0 : Int))] := by kernel_rfl
theorem a26 : aggT Try.prog 26 = some false := by kernel_rfl
theorem u53 : Try.prog.underlying 53 = some (.slice 59) := Try.underlying53
theorem z59 : szOf Try.prog 59 = some 5 := by kernel_rfl
theorem a3 : aggT Try.prog 3 = some false := by kernel_rfl
theorem a9 : aggT Try.prog 9 = some false := by kernel_rfl
theorem a22 : aggT Try.prog 22 = some false := by kernel_rfl
theorem u22 : Try.prog.underlying 22 = some (.slice 9) := Try.underlying22
theorem z9 : szOf Try.prog 9 = some 1 := by kernel_rfl
theorem b9 : bytesOf Try.prog 9 = some 16 := by kernel_rfl
theorem zc9 : zeroCs Try.prog 9 = some [.v (.string ByteArray.empty)] := by kernel_rfl
theorem b59 : bytesOf Try.prog 59 = some 80 := by kernel_rfl
theorem zc59 : zeroCs Try.prog 59 = some [.v (.int .i64 (0 : Int)), .v (.int .i64 (0 : Int)), .v (.string ByteArray.empty), .lst true 0 [], .lst true 0 []] := by kernel_rfl
theorem u38 : Try.prog.underlying 38 = some (.slice 3) := Try.underlying38
theorem z3 : szOf Try.prog 3 = some 1 := by kernel_rfl
theorem b3 : bytesOf Try.prog 3 = some 8 := by kernel_rfl
theorem zc3 : zeroCs Try.prog 3 = some [.v (.int .i64 (0 : Int))] := by kernel_rfl
theorem z38 : szOf Try.prog 38 = some 1 := by kernel_rfl
theorem u70 : Try.prog.underlying 70 = some (.slice 4) := Try.underlying70
theorem z4 : szOf Try.prog 4 = some 1 := by kernel_rfl
theorem b4 : bytesOf Try.prog 4 = some 1 := by kernel_rfl
theorem zc4 : zeroCs Try.prog 4 = some [.v (.bool false)] := by kernel_rfl
theorem a46 : aggT Try.prog 46 = some true := by kernel_rfl
theorem a4 : aggT Try.prog 4 = some false := by kernel_rfl
theorem a59 : aggT Try.prog 59 = some true := by kernel_rfl
theorem a38 : aggT Try.prog 38 = some false := by kernel_rfl
theorem u29 : Try.prog.underlying 29 = some (.slice 44) := Try.underlying29
theorem z44 : szOf Try.prog 44 = some 3 := by kernel_rfl
theorem b44 : bytesOf Try.prog 44 = some 24 := by kernel_rfl
theorem zc44 : zeroCs Try.prog 44 = some [.v (.int .i64 (0 : Int)), .v (.int .i64 (0 : Int)), .v (.int .i64 (0 : Int))] := by kernel_rfl
theorem a44 : aggT Try.prog 44 = some true := by kernel_rfl
theorem z89 : szOf Try.prog 89 = some 1 := by kernel_rfl
theorem a89 : aggT Try.prog 89 = some false := by kernel_rfl
theorem varlv_4_0_4 {c0 c1 c2 c3 : Pv} : lkOb (some (.var [.p c0, .p c1, .p c2, .p c3])) 0 4 = some (.p (.agg [c0, c1, c2, c3])) := rfl
theorem faP_25_3 {id o : Nat} : fieldAddrD Try.prog 25 (.ptr id o) 3 = some (.ptr id (o + 3)) := by kernel_rfl
theorem varld_4_0_3 {c0 c1 c2 c3 : Dv} : ldOb (some (.var [c0, c1, c2, c3])) (0 + 3) = some c3 := rfl
theorem idxL_23 {full : Bool} {l : List Node} {i : Int} (h0 : 0 ≤ i) (h1 : i < (l.length : Int)) : idxD Try.prog 23 (.p (.lst full l.length (encL en_Node l))) (.p (.v (.int .i64 i))) = some (.p (.iptr (encL en_Node l) (i.toNat * 4))) := idx_lst u23 z25 (by decide) en_Node_len h0 h1
theorem lk_frz_25 {l : List Node} {i : Int} {v : Node} (h : rd l i = some v) : lkOb (some (.frz (encL en_Node l))) (i.toNat * 4) 4 = some (.p (.agg [.v (.int .i64 v.Kind), .v (.string v.Text), .lst false v.Gaps.length (encL en_str v.Gaps), .lst false v.Kids.length (encL en_Node v.Kids)])) := (lkOb_frz en_Node_len h).trans (by rw [en_Node_eq])
theorem bu_46_0_1 {p0_0 : Int} {p1_0 : Int} : buildD Try.prog 46 [(0, .p (.v (.int .i64 p0_0))), (1, .p (.v (.int .i64 p1_0)))] = some (.p (.agg [.v (.int .i64 p0_0), .v (.int .i64 p1_0)])) := by kernel_rfl
theorem bs_26_1 {p0_0 : Int} {p0_1 : Int} {H : List Ob} : bsD Try.prog H 26 1 [(0, .p (.agg [.v (.int .i64 p0_0), .v (.int .i64 p0_1)]))] = some (.p (.lst true 1 [.v (.int .i64 p0_0), .v (.int .i64 p0_1)]), none) := by kernel_rfl
theorem ap_26_26 {H : List Ob} {id off esz n m : Nat} {full : Bool} {new : List Pv} : appendD Try.prog H #[26, 26] (.ref id off n esz) (.p (.lst full m new)) = apOb H id off n m esz 2 16 new H[id]? := appendD_ap u26 u26 z46 b46 zc46 ⟨by decide, by decide, rfl⟩
theorem varld_1_0 {c0 : Dv} : ldOb (some (.var [c0])) 0 = some c0 := rfl
theorem faP_25_0 {id o : Nat} : fieldAddrD Try.prog 25 (.ptr id o) 0 = some (.ptr id (o + 0)) := by kernel_rfl
theorem varld_4_0_0 {c0 c1 c2 c3 : Dv} : ldOb (some (.var [c0, c1, c2, c3])) (0 + 0) = some c0 := rfl
theorem faP_25_1 {id o : Nat} : fieldAddrD Try.prog 25 (.ptr id o) 1 = some (.ptr id (o + 1)) := by kernel_rfl
theorem varld_4_0_1 {c0 c1 c2 c3 : Dv} : ldOb (some (.var [c0, c1, c2, c3])) (0 + 1) = some c1 := rfl
theorem faP_25_2 {id o : Nat} : fieldAddrD Try.prog 25 (.ptr id o) 2 = some (.ptr id (o + 2)) := by kernel_rfl
theorem varld_4_0_2 {c0 c1 c2 c3 : Dv} : ldOb (some (.var [c0, c1, c2, c3])) (0 + 2) = some c2 := rfl
theorem mk_22 {H : List Ob} {n : Int} (h0 : 0 ≤ n) (h1 : n * 16 ≤ 140737488355328) : makeD Try.prog H 22 (.p (.v (.int .i64 n))) (.p (.v (.int .i64 n))) = some (.ref H.length 0 (List.replicate n.toNat (ByteArray.empty)).length 1, H ++ [.arr (encL en_str (List.replicate n.toNat (ByteArray.empty)))]) := make_enc u22 z9 b9 (by rw [en_str_eq]; exact zc9) ⟨by decide, by decide, en_str_len _⟩ h0 h1
theorem cp_22 {H : List Ob} {t2 id n : Nat} {x y : List ByteArray} {full : Bool} (hid : H[id]? = some (.arr (encL en_str x))) (hn : n = x.length) : copyD Try.prog H #[22, t2] (.ref id 0 n 1) (.p (.lst full y.length (encL en_str y))) = some (.p (.v (.int .i64 ((Nat.min y.length x.length : Nat) : Int))), H.set id (.arr (encL en_str (cpL x y)))) := copy_enc u22 z9 (by decide) en_str_len hid hn
theorem bu_59_0_1_2_3 {p0_0 : Int} {p1_0 : Int} {p2_0 : ByteArray} {p3_0f : Bool} {p3_0n : Nat} {p3_0c : List Pv} : buildD Try.prog 59 [(0, .p (.v (.int .i64 p0_0))), (1, .p (.v (.int .i64 p1_0))), (2, .p (.v (.string p2_0))), (3, .p (.lst p3_0f p3_0n p3_0c))] = some (.p (.agg [.v (.int .i64 p0_0), .v (.int .i64 p1_0), .v (.string p2_0), .lst p3_0f p3_0n p3_0c, .lst true 0 []])) := by kernel_rfl
theorem bs_53_1 {p0_0 : Int} {p0_1 : Int} {p0_2 : ByteArray} {p0_3f : Bool} {p0_3n : Nat} {p0_3c : List Pv} {p0_4f : Bool} {p0_4n : Nat} {p0_4c : List Pv} {H : List Ob} : bsD Try.prog H 53 1 [(0, .p (.agg [.v (.int .i64 p0_0), .v (.int .i64 p0_1), .v (.string p0_2), .lst p0_3f p0_3n p0_3c, .lst p0_4f p0_4n p0_4c]))] = some (.p (.lst true 1 [.v (.int .i64 p0_0), .v (.int .i64 p0_1), .v (.string p0_2), .lst false p0_3n (wks p0_3c), .lst false p0_4n (wks p0_4c)]), none) := by kernel_rfl
theorem ap_53_53 {H : List Ob} {id off esz n m : Nat} {full : Bool} {new : List Pv} : appendD Try.prog H #[53, 53] (.ref id off n esz) (.p (.lst full m new)) = apOb H id off n m esz 5 80 new H[id]? := appendD_ap u53 u53 z59 b59 zc59 ⟨by decide, by decide, rfl⟩
theorem mk_38 {H : List Ob} {n : Int} (h0 : 0 ≤ n) (h1 : n * 8 ≤ 140737488355328) : makeD Try.prog H 38 (.p (.v (.int .i64 n))) (.p (.v (.int .i64 n))) = some (.ref H.length 0 (List.replicate n.toNat ((0 : Int))).length 1, H ++ [.arr (encL en_i64 (List.replicate n.toNat ((0 : Int))))]) := make_enc u38 z3 b3 (by rw [en_i64_eq]; exact zc3) ⟨by decide, by decide, en_i64_len _⟩ h0 h1
theorem al_25 {H : List Ob} : allocD Try.prog 25 H = some (.ptr H.length 0, some (H ++ [.var [iv (0 : Int), .p (.v (.string ByteArray.empty)), .p (.lst true 0 []), .p (.lst true 0 [])]])) := by kernel_rfl
theorem sa_4_0_4 {H : List Ob} {id : Nat} {c0 c1 c2 c3 : Dv} {d0 d1 d2 d3 : Pv} : staOb H id 0 4 [d0, d1, d2, d3] (some (.var [c0, c1, c2, c3])) = some (H.set id (.var [(.p d0), (.p d1), (.p d2), (.p d3)])) := by simp [staOb, setAt]
theorem idxR_38 {id m : Nat} {i : Int} (h0 : 0 ≤ i) (h1 : i < (m : Int)) : idxD Try.prog 38 (.ref id 0 m 1) (.p (.v (.int .i64 i))) = some (.ptr id (i.toNat * 1)) := idx_ref u38 z3 (by decide) h0 h1
theorem idxR_53 {id m : Nat} {i : Int} (h0 : 0 ≤ i) (h1 : i < (m : Int)) : idxD Try.prog 53 (.ref id 0 m 5) (.p (.v (.int .i64 i))) = some (.ptr id (i.toNat * 5)) := idx_ref u53 z59 (by decide) h0 h1
theorem faP_59_4 {id o : Nat} : fieldAddrD Try.prog 59 (.ptr id o) 4 = some (.ptr id (o + 4)) := by kernel_rfl
theorem mk_70 {H : List Ob} {n : Int} (h0 : 0 ≤ n) (h1 : n * 1 ≤ 140737488355328) : makeD Try.prog H 70 (.p (.v (.int .i64 n))) (.p (.v (.int .i64 n))) = some (.ref H.length 0 (List.replicate n.toNat (false)).length 1, H ++ [.arr (encL en_bool (List.replicate n.toNat (false)))]) := make_enc u70 z4 b4 (by rw [en_bool_eq]; exact zc4) ⟨by decide, by decide, en_bool_len _⟩ h0 h1
theorem idxL_26 {full : Bool} {l : List Pair} {i : Int} (h0 : 0 ≤ i) (h1 : i < (l.length : Int)) : idxD Try.prog 26 (.p (.lst full l.length (encL en_Pair l))) (.p (.v (.int .i64 i))) = some (.p (.iptr (encL en_Pair l) (i.toNat * 2))) := idx_lst u26 z46 (by decide) en_Pair_len h0 h1
theorem lk_frz_46 {l : List Pair} {i : Int} {v : Pair} (h : rd l i = some v) : lkOb (some (.frz (encL en_Pair l))) (i.toNat * 2) 2 = some (.p (.agg [.v (.int .i64 v.Old), .v (.int .i64 v.New)])) := (lkOb_frz en_Pair_len h).trans (by rw [en_Pair_eq])
theorem al_46 {H : List Ob} : allocD Try.prog 46 H = some (.ptr H.length 0, some (H ++ [.var [iv (0 : Int), iv (0 : Int)]])) := by kernel_rfl
theorem sa_2_0_2 {H : List Ob} {id : Nat} {c0 c1 : Dv} {d0 d1 : Pv} : staOb H id 0 2 [d0, d1] (some (.var [c0, c1])) = some (H.set id (.var [(.p d0), (.p d1)])) := by simp [staOb, setAt]
theorem faP_46_0 {id o : Nat} : fieldAddrD Try.prog 46 (.ptr id o) 0 = some (.ptr id (o + 0)) := by kernel_rfl
theorem varld_2_0_0 {c0 c1 : Dv} : ldOb (some (.var [c0, c1])) (0 + 0) = some c0 := rfl
theorem faP_46_1 {id o : Nat} : fieldAddrD Try.prog 46 (.ptr id o) 1 = some (.ptr id (o + 1)) := by kernel_rfl
theorem varld_2_0_1 {c0 c1 : Dv} : ldOb (some (.var [c0, c1])) (0 + 1) = some c1 := rfl
theorem idxR_70 {id m : Nat} {i : Int} (h0 : 0 ≤ i) (h1 : i < (m : Int)) : idxD Try.prog 70 (.ref id 0 m 1) (.p (.v (.int .i64 i))) = some (.ptr id (i.toNat * 1)) := idx_ref u70 z4 (by decide) h0 h1
theorem ce_4_x {l : List Bool} {i : Int} {v : Bool} (h : rd l i = some v) : (encL en_bool l)[i.toNat * 1]? = some (.v (.bool v)) := (encL_cell en_bool_len h (k := 0) (by decide)).trans (by rw [en_bool_eq]; rfl)
theorem idxL_53 {full : Bool} {l : List Row} {i : Int} (h0 : 0 ≤ i) (h1 : i < (l.length : Int)) : idxD Try.prog 53 (.p (.lst full l.length (encL en_Row l))) (.p (.v (.int .i64 i))) = some (.p (.iptr (encL en_Row l) (i.toNat * 5))) := idx_lst u53 z59 (by decide) en_Row_len h0 h1
theorem faI_59_1 {cs : List Pv} {o : Nat} : fieldAddrD Try.prog 59 (.p (.iptr cs o)) 1 = some (.p (.iptr cs (o + 1))) := by kernel_rfl
theorem ce_59__1 {l : List Row} {i : Int} {v : Row} (h : rd l i = some v) : (encL en_Row l)[i.toNat * 5 + 1]? = some (.v (.int .i64 v.Kind)) := (encL_cell en_Row_len h (k := 1) (by decide)).trans (by rw [en_Row_eq]; rfl)
theorem lk_frz_59 {l : List Row} {i : Int} {v : Row} (h : rd l i = some v) : lkOb (some (.frz (encL en_Row l))) (i.toNat * 5) 5 = some (.p (.agg [.v (.int .i64 v.Parent), .v (.int .i64 v.Kind), .v (.string v.Text), .lst false v.Gaps.length (encL en_str v.Gaps), .lst false v.Kids.length (encL en_i64 v.Kids)])) := (lkOb_frz en_Row_len h).trans (by rw [en_Row_eq])
theorem al_59 {H : List Ob} : allocD Try.prog 59 H = some (.ptr H.length 0, some (H ++ [.var [iv (0 : Int), iv (0 : Int), .p (.v (.string ByteArray.empty)), .p (.lst true 0 []), .p (.lst true 0 [])]])) := by kernel_rfl
theorem sa_5_0_5 {H : List Ob} {id : Nat} {c0 c1 c2 c3 c4 : Dv} {d0 d1 d2 d3 d4 : Pv} : staOb H id 0 5 [d0, d1, d2, d3, d4] (some (.var [c0, c1, c2, c3, c4])) = some (H.set id (.var [(.p d0), (.p d1), (.p d2), (.p d3), (.p d4)])) := by simp [staOb, setAt]
theorem rold_1_0 {c0 : Dv} : ldOb (some (.ro [c0])) 0 = some c0 := rfl
theorem ex_2_0 {c0 c1 : Pv} : extractD (.p (.tup [c0, c1])) 0 = some (.p c0) := rfl
theorem ex_2_1 {c0 c1 : Pv} : extractD (.p (.tup [c0, c1])) 1 = some (.p c1) := rfl
theorem faP_59_0 {id o : Nat} : fieldAddrD Try.prog 59 (.ptr id o) 0 = some (.ptr id (o + 0)) := by kernel_rfl
theorem varld_5_0_0 {c0 c1 c2 c3 c4 : Dv} : ldOb (some (.var [c0, c1, c2, c3, c4])) (0 + 0) = some c0 := rfl
theorem faI_59_0 {cs : List Pv} {o : Nat} : fieldAddrD Try.prog 59 (.p (.iptr cs o)) 0 = some (.p (.iptr cs (o + 0))) := by kernel_rfl
theorem ce_59__0 {l : List Row} {i : Int} {v : Row} (h : rd l i = some v) : (encL en_Row l)[i.toNat * 5 + 0]? = some (.v (.int .i64 v.Parent)) := (encL_cell en_Row_len h (k := 0) (by decide)).trans (by rw [en_Row_eq]; rfl)
theorem varld_5_0_4 {c0 c1 c2 c3 c4 : Dv} : ldOb (some (.var [c0, c1, c2, c3, c4])) (0 + 4) = some c4 := rfl
theorem idxL_38 {full : Bool} {l : List Int} {i : Int} (h0 : 0 ≤ i) (h1 : i < (l.length : Int)) : idxD Try.prog 38 (.p (.lst full l.length (encL en_i64 l))) (.p (.v (.int .i64 i))) = some (.p (.iptr (encL en_i64 l) (i.toNat * 1))) := idx_lst u38 z3 (by decide) en_i64_len h0 h1
theorem ce_3_x {l : List Int} {i : Int} {v : Int} (h : rd l i = some v) : (encL en_i64 l)[i.toNat * 1]? = some (.v (.int .i64 v)) := (encL_cell en_i64_len h (k := 0) (by decide)).trans (by rw [en_i64_eq]; rfl)
theorem faI_59_4 {cs : List Pv} {o : Nat} : fieldAddrD Try.prog 59 (.p (.iptr cs o)) 4 = some (.p (.iptr cs (o + 4))) := by kernel_rfl
theorem ce_59__4 {l : List Row} {i : Int} {v : Row} (h : rd l i = some v) : (encL en_Row l)[i.toNat * 5 + 4]? = some (.lst false v.Kids.length (encL en_i64 v.Kids)) := (encL_cell en_Row_len h (k := 4) (by decide)).trans (by rw [en_Row_eq]; rfl)
theorem bs_38_1 {p0_0 : Int} {H : List Ob} : bsD Try.prog H 38 1 [(0, .p (.v (.int .i64 p0_0)))] = some (.p (.lst true 1 [.v (.int .i64 p0_0)]), none) := by kernel_rfl
theorem ap_38_38 {H : List Ob} {id off esz n m : Nat} {full : Bool} {new : List Pv} : appendD Try.prog H #[38, 38] (.ref id off n esz) (.p (.lst full m new)) = apOb H id off n m esz 1 8 new H[id]? := appendD_ap u38 u38 z3 b3 zc3 ⟨by decide, by decide, rfl⟩
theorem slo_38 {H : List Ob} {full : Bool} {l : List Int} {a : Int} (h0 : 0 ≤ a) (h1 : a ≤ (l.length : Int)) : sliceD Try.prog H 38 (.p (.lst full l.length (encL en_i64 l))) (some (.p (.v (.int .i64 a)))) none none = some (.p (.lst full (l.drop a.toNat).length (encL en_i64 (l.drop a.toNat)))) := slo_enc u38 z3 (by decide) en_i64_len h0 h1
theorem bu_44_0_1_2 {p0_0 : Int} {p1_0 : Int} {p2_0 : Int} : buildD Try.prog 44 [(0, .p (.v (.int .i64 p0_0))), (1, .p (.v (.int .i64 p1_0))), (2, .p (.v (.int .i64 p2_0)))] = some (.p (.agg [.v (.int .i64 p0_0), .v (.int .i64 p1_0), .v (.int .i64 p2_0)])) := by kernel_rfl
theorem bs_29_1 {p0_0 : Int} {p0_1 : Int} {p0_2 : Int} {H : List Ob} : bsD Try.prog H 29 1 [(0, .p (.agg [.v (.int .i64 p0_0), .v (.int .i64 p0_1), .v (.int .i64 p0_2)]))] = some (.p (.lst true 1 [.v (.int .i64 p0_0), .v (.int .i64 p0_1), .v (.int .i64 p0_2)]), none) := by kernel_rfl
theorem ap_29_29 {H : List Ob} {id off esz n m : Nat} {full : Bool} {new : List Pv} : appendD Try.prog H #[29, 29] (.ref id off n esz) (.p (.lst full m new)) = apOb H id off n m esz 3 24 new H[id]? := appendD_ap u29 u29 z44 b44 zc44 ⟨by decide, by decide, rfl⟩
theorem faP_44_1 {id o : Nat} : fieldAddrD Try.prog 44 (.ptr id o) 1 = some (.ptr id (o + 1)) := by kernel_rfl
theorem varld_3_0_1 {c0 c1 c2 : Dv} : ldOb (some (.var [c0, c1, c2])) (0 + 1) = some c1 := rfl
theorem cv_3_74 {x : Int} : convD Try.prog 3 74 (.p (.v (.int .i64 x))) = some (.p (.v (.int .u64 (IntKind.wrap .u64 x)))) := by kernel_rfl
theorem cv_88_5 {x : Int} : convD Try.prog 88 5 (.p (.v (.int .u64 x))) = some (.p (.v (.int .u8 (IntKind.wrap .u8 x)))) := by kernel_rfl
theorem cv_5_3 {x : Int} : convD Try.prog 5 3 (.p (.v (.int .u8 x))) = some (.p (.v (.int .i64 (IntKind.wrap .i64 x)))) := by kernel_rfl
theorem idxR_29 {id m : Nat} {i : Int} (h0 : 0 ≤ i) (h1 : i < (m : Int)) : idxD Try.prog 29 (.ref id 0 m 3) (.p (.v (.int .i64 i))) = some (.ptr id (i.toNat * 3)) := idx_ref u29 z44 (by decide) h0 h1
theorem lk_arr_44 {l : List Move} {i : Int} {v : Move} (h : rd l i = some v) : lkOb (some (.arr (encL en_Move l))) (i.toNat * 3) 3 = some (.p (.agg [.v (.int .i64 v.Kind), .v (.int .i64 v.Old), .v (.int .i64 v.New)])) := (lkOb_arr en_Move_len h).trans (by rw [en_Move_eq])
theorem al_3 {H : List Ob} : allocD Try.prog 3 H = some (.ptr H.length 0, some (H ++ [.var [iv (0 : Int)]])) := by kernel_rfl
theorem sv_1_0_1 {H : List Ob} {id : Nat} {c0 : Dv} {d0 : Dv} : stdOb H id 0 d0 (some (.var [c0])) = some (H.set id (.var [d0])) := rfl
theorem cv_3_89 {x : Int} : convD Try.prog 3 89 (.p (.v (.int .i64 x))) = some (.p (.v (.int .u64 (IntKind.wrap .u64 x)))) := by kernel_rfl
theorem al_89 {H : List Ob} : allocD Try.prog 89 H = some (.ptr H.length 0, some (H ++ [.var [.p (.v (.int .u64 (0 : Int)))]])) := by kernel_rfl
theorem cv_74_3 {x : Int} : convD Try.prog 74 3 (.p (.v (.int .u64 x))) = some (.p (.v (.int .i64 (IntKind.wrap .i64 x)))) := by kernel_rfl
theorem rold_2_0_0 {c0 c1 : Dv} : ldOb (some (.ro [c0, c1])) (0 + 0) = some c0 := rfl
theorem idxL_29 {full : Bool} {l : List Move} {i : Int} (h0 : 0 ≤ i) (h1 : i < (l.length : Int)) : idxD Try.prog 29 (.p (.lst full l.length (encL en_Move l))) (.p (.v (.int .i64 i))) = some (.p (.iptr (encL en_Move l) (i.toNat * 3))) := idx_lst u29 z44 (by decide) en_Move_len h0 h1
theorem lk_frz_44 {l : List Move} {i : Int} {v : Move} (h : rd l i = some v) : lkOb (some (.frz (encL en_Move l))) (i.toNat * 3) 3 = some (.p (.agg [.v (.int .i64 v.Kind), .v (.int .i64 v.Old), .v (.int .i64 v.New)])) := (lkOb_frz en_Move_len h).trans (by rw [en_Move_eq])
theorem varlv_2_0_2 {c0 c1 : Pv} : lkOb (some (.var [.p c0, .p c1])) 0 2 = some (.p (.agg [c0, c1])) := rfl
theorem eqA_46 (a0 b0 : Int)(a1 b1 : Int) : pureRun Try.prog (Op.equalIn 10000 46 (.agg #[.int .i64 a0, .int .i64 a1]) (.agg #[.int .i64 b0, .int .i64 b1])) = some (decide (a0 = b0 ∧ a1 = b1)) := by
  refine (pr_equal_struct (d := 9999) Try.underlying46 (by kernel_rfl)).trans ?_
  refine (pr_cons (by decide) rfl rfl (pr_equal_int Try.underlying3) (pr_cons (by decide) rfl rfl (pr_equal_int Try.underlying3) pr_nil)).trans ?_
  simp only [Bool.decide_and, Bool.and_true]
theorem neq_46 {a0 b0 : Int}{a1 b1 : Int} {xo yo : Operand} : binD Try.prog .neq 46 xo yo (.p (.agg [.v (.int .i64 a0), .v (.int .i64 a1)])) (.p (.agg [.v (.int .i64 b0), .v (.int .i64 b1)])) = some (.p (.v (.bool (!decide (a0 = b0 ∧ a1 = b1))))) := binD_neq_agg rfl rfl (by kernel_rfl) (eqA_46 a0 b0 a1 b1)
end Xn

