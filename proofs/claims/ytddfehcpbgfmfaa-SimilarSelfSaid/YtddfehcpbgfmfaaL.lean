/- A part of the proof: L. No conditions of its own. -/
import Derived.Test.YtddfehcpbgfmfaaProg
import Derived.KernelRfl
import Derived.Test.YtddfehcpbgfmfaaT
namespace Xn
open Go Go.Ev Go.Proofs
set_option linter.unusedSimpArgs false
set_option linter.unusedVariables false
set_option linter.defProp false
def bodyOf (f : Func) : Code := f.body.getD .skip
def loopsOf : Code → List Code
  | .seq a b => loopsOf a ++ loopsOf b
  | .cond _ a b => loopsOf a ++ loopsOf b
  | .block _ b => loopsOf b
  | .loop b => b :: loopsOf b
  | _ => []
def dynOf : Nat → List (Nat × List (Nat × Nat))
  | 12 => [(5, [(2, 5), (2, 6), (2, 7), (5, 6), (5, 7), (5, 8), (6, 7)]), (11, [(3, 7), (5, 7)])]
  | 31 => [(1, [(2, 5)])]
  | 41 => [(1, [(1, 8), (3, 8), (5, 8), (6, 8)])]
  | _ => []
def preOf : Nat → List (Nat × List Ghost)
  | 39 => [(5, [.keep [2, 3, 7, 8]]), (10, [.keep [2, 3, 7, 8]])]
  | 17 => [(3, [.keep [1, 3, 4]]), (6, [.keep [1, 3, 4]])]
  | 40 => [(5, [.weak [17], .keep [1, 4, 7, 17, 18, 19]]), (12, [.keep [1, 4, 7, 17, 18, 19]])]
  | 41 => [(3, [.ownC 3 3 4, .weak [15], .keep [2, 3, 15, 16, 17]]), (7, [.keep [2, 3, 15, 16, 17]])]
  | 23 => [(3, [.weak [7], .keep [3, 7, 8, 9]]), (7, [.keep [3, 7, 8, 9]])]
  | 10 => [(8, [.weak [43], .keep [3, 4, 16, 17, 18, 43, 44, 45]]), (13, [.keep [3, 4, 16, 17, 18, 43, 44, 45]])]
  | 44 => [(0, [.own 0 5]), (7, [.weak [35], .keep [0, 7, 8, 35, 36, 37]]), (12, [.keep [0, 7, 8, 35, 36, 37]])]
  | 28 => [(4, [.weak [0, 1, 14], .keep [0, 1, 7, 8, 14, 15, 16]]), (11, [.keep [0, 1, 7, 8, 14, 15, 16]])]
  | 29 => [(4, [.weak [3], .keep [3, 4, 5]]), (10, [.keep [3, 4, 5]])]
  | 32 => [(3, [.weak [0], .keep [0, 2, 3, 9, 16, 17, 18]]), (7, [.weak [0], .keep [0, 2, 3, 9, 12, 16, 17, 18]]), (10, [.keep [0, 2, 3, 9, 12, 16, 17, 18]]), (11, [.keep [0, 2, 3, 9, 16, 17, 18]])]
  | 48 => [(1, [.keep [0, 1, 2, 3, 8]]), (2, [.keep [0, 1, 2, 3, 8, 9]]), (4, [.keep [0, 1, 2, 3, 8, 9]])]
  | 58 => [(1, [.keep [0, 2, 3, 4, 10]])]
  | 49 => [(4, [.keep [0, 3, 8, 9, 10, 11]]), (7, [.keep [0, 3, 8, 9, 10, 11]]), (8, [.keep [0, 3, 8, 9, 12]])]
  | 52 => [(2, [.keep [0, 8, 9]])]
  | 53 => [(3, [.keep [0, 1, 2, 3, 9, 10]]), (4, [.keep [0, 1, 2, 3, 9, 10, 12]]), (5, [.keep [0, 1, 2, 3, 9, 10]]), (7, [.keep [0, 1, 2, 3, 9, 10]]), (14, [.keep [0, 1, 2, 3, 9, 10, 11]]), (18, [.keep [0, 1, 2, 3, 9, 10, 11]]), (20, [.keep [0, 1, 2, 3, 9, 10, 12]]), (24, [.keep [0, 1, 2, 3, 9, 10]])]
  | 55 => [(3, [.keep [0, 1, 4, 12, 13]]), (5, [.keep [0, 1, 4, 12, 13], .keep [0, 1, 4, 12, 13]]), (7, [.keep [0, 1, 4, 12, 13]]), (13, [.keep [0, 1, 4, 12, 13], .keep [0, 1, 4, 12, 13]]), (15, [.keep [0, 1, 4, 12, 13], .keep [0, 1, 4, 12, 13]]), (17, [.keep [0, 1, 4, 12, 13]]), (21, [.keep [0, 1, 4, 12, 13]])]
  | 54 => [(3, [.keep [0, 1, 4, 11, 12], .keep [0, 1, 4, 11, 12]]), (5, [.keep [0, 1, 4, 11, 12], .keep [0, 1, 4, 11, 12]]), (7, [.keep [0, 1, 4, 11, 12]]), (11, [.keep [0, 1, 4, 11, 12]])]
  | 50 => [(5, [.keep [0, 1, 8, 9, 10, 11]])]
  | 45 => [(2, [.keep [0, 1, 2, 3, 4, 10, 11]])]
  | 12 => [(9, [.weak [8, 9, 10, 11, 48], .keep [8, 9, 10, 11, 12, 13, 14, 15, 48, 49, 50]]), (13, [.keep [8, 9, 10, 11, 12, 13, 14, 15, 48, 49, 50]]), (16, [.weak [8, 9, 10, 11], .keep [8, 9, 10, 11, 12, 13, 14, 15, 18]]), (22, [.weak [8, 9, 10, 11, 22], .keep [8, 9, 10, 11, 12, 13, 14, 15, 18, 19, 20, 21, 22, 23]]), (28, [.keep [8, 9, 10, 11, 12, 13, 14, 15, 18, 19, 20, 21, 22, 23]]), (30, [.keep [8, 9, 10, 11, 12, 13, 14, 15, 18]])]
  | 14 => [(4, [.weak [0, 1], .keep [0, 1, 5]]), (8, [.keep [0, 1, 5]])]
  | 38 => [(5, [.keep [2, 4, 7, 8]]), (11, [.keep [2, 4, 7, 8]])]
  | 7 => [(6, [.own 6 2, .keep [1, 2, 5, 6, 7]]), (9, [.keep [1, 2, 5, 6, 7]])]
  | 43 => [(0, [.own 0 5]), (5, [.own 8 1, .keep [0, 4, 7, 8, 9]]), (9, [.keep [0, 4, 7, 8, 9]])]
  | 42 => [(1, [.weak [0], .keep [0, 1]]), (3, [.keep [0, 1]])]
  | 25 => [(5, [.weak [0, 1, 2], .keep [0, 1, 2, 3, 4, 12, 13]]), (9, [.keep [0, 1, 2, 3, 4, 12, 13]])]
  | 35 => [(2, [.weak [0], .keep [0, 1, 2, 7]]), (6, [.keep [0, 1, 2, 7]])]
  | 15 => [(4, [.weak [2, 7, 8], .keep [2, 7, 8, 9]]), (11, [.keep [2, 7, 8, 9]])]
  | 37 => [(5, [.weak [0, 1, 2], .keep [0, 1, 2, 3, 9, 10, 11, 12]]), (13, [.keep [0, 1, 2, 3, 9, 10, 11, 12]])]
  | 36 => [(4, [.own 5 2, .weak [0], .keep [0, 3, 5, 6, 7]]), (10, [.keep [0, 3, 5, 6, 7]])]
  | 13 => [(9, [.freeze 10, .keep [8, 9, 10]]), (10, [.weak [8, 9, 10], .keep [8, 9, 10, 11]]), (16, [.keep [8, 9, 10, 11]])]
  | 16 => [(2, [.weak [0], .keep [0, 3, 5]]), (6, [.keep [0, 3, 5]])]
  | 5 => [(9, [.weak [2, 7], .keep [2, 3, 4, 7, 9]]), (13, [.keep [2, 3, 4, 7, 9]]), (14, [.weak [2, 7], .keep [2, 3, 4, 7, 10]]), (20, [.keep [2, 3, 4, 7, 10]])]
  | 6 => [(5, [.own 11 2, .weak [2], .keep [2, 3, 4, 5, 6, 11, 12]]), (8, [.keep [2, 3, 4, 5, 6, 11, 12]])]
  | _ => []
def A0 : Ann := { okf := fun _ => true, keeps := fun f => [30, 43, 44].contains f, muts := fun f => [31, 33, 43, 44, 45, 48, 49, 50, 51, 52, 53, 54, 55, 58, 60, 61, 62, 63].contains f, ros := fun f => [32].contains f, loud := fun f r => false, pre := fun f r => ((preOf f).lookup r).getD [], clone := fun f => if f == 30 then some 2 else none, dyn := fun f q => (dynOf f).lookup q }
theorem clones : CloneOk Try.prog A0 := by
  intro f sz h call oa cap
  simp only [A0] at h
  split at h
  · rename_i hf
    obtain rfl := Option.some.inj h
    obtain rfl : f = 30 := by simpa using hf
    refine ⟨1, ?_⟩
    cases oa with
    | none => left; kernel_rfl
    | some a => right; kernel_rfl
  cases h
abbrev RG (f q : Nat) (g : List Ghost) (o : Array Oper) (d : Bool) (s : St) : Prop := evW Try.prog A0 f (.region q o d) s = regW Try.prog A0 (d && true) o o.toList (ghostsD g s)
abbrev RY (f q : Nat) (g : List Ghost) (y : List (Nat × Nat)) (o : Array Oper) (s : St) : Prop := evW Try.prog A0 f (.region q o true) s = regY Try.prog A0 (true && true) o y o.toList (ghostsD g s)
theorem r39_0 {o d s} : RG 39 0 [] o d s := w_region
theorem r39_1 {o d s} : RG 39 1 [] o d s := w_region
theorem r39_2 {o d s} : RG 39 2 [] o d s := w_region
theorem r39_3 {o d s} : RG 39 3 [] o d s := w_region
theorem r39_4 {o d s} : RG 39 4 [] o d s := w_region
theorem r39_5 {o d s} : RG 39 5 [.keep [2, 3, 7, 8]] o d s := w_region
theorem r39_7 {o d s} : RG 39 7 [] o d s := w_region
theorem r39_8 {o d s} : RG 39 8 [] o d s := w_region
theorem r39_9 {o d s} : RG 39 9 [] o d s := w_region
theorem r39_6 {o d s} : RG 39 6 [] o d s := w_region
theorem r39_10 {o d s} : RG 39 10 [.keep [2, 3, 7, 8]] o d s := w_region
theorem r19_0 {o d s} : RG 19 0 [] o d s := w_region
theorem r19_1 {o d s} : RG 19 1 [] o d s := w_region
theorem r8_0 {o d s} : RG 8 0 [] o d s := w_region
theorem r8_1 {o d s} : RG 8 1 [] o d s := w_region
theorem r17_0 {o d s} : RG 17 0 [] o d s := w_region
theorem r17_1 {o d s} : RG 17 1 [] o d s := w_region
theorem r17_2 {o d s} : RG 17 2 [] o d s := w_region
theorem r17_3 {o d s} : RG 17 3 [.keep [1, 3, 4]] o d s := w_region
theorem r17_5 {o d s} : RG 17 5 [] o d s := w_region
theorem r17_4 {o d s} : RG 17 4 [] o d s := w_region
theorem r17_6 {o d s} : RG 17 6 [.keep [1, 3, 4]] o d s := w_region
theorem r40_0 {o d s} : RG 40 0 [] o d s := w_region
theorem r40_1 {o d s} : RG 40 1 [] o d s := w_region
theorem r40_2 {o d s} : RG 40 2 [] o d s := w_region
theorem r40_3 {o d s} : RG 40 3 [] o d s := w_region
theorem r40_4 {o d s} : RG 40 4 [] o d s := w_region
theorem r40_5 {o d s} : RG 40 5 [.weak [17], .keep [1, 4, 7, 17, 18, 19]] o d s := w_region
theorem r40_6 {o d s} : RG 40 6 [] o d s := w_region
theorem r40_7 {o d s} : RG 40 7 [] o d s := w_region
theorem r40_8 {o d s} : RG 40 8 [] o d s := w_region
theorem r40_9 {o d s} : RG 40 9 [] o d s := w_region
theorem r40_10 {o d s} : RG 40 10 [] o d s := w_region
theorem r40_11 {o d s} : RG 40 11 [] o d s := w_region
theorem r40_12 {o d s} : RG 40 12 [.keep [1, 4, 7, 17, 18, 19]] o d s := w_region
theorem r47_0 {o d s} : RG 47 0 [] o d s := w_region
theorem r47_1 {o d s} : RG 47 1 [] o d s := w_region
theorem r47_2 {o d s} : RG 47 2 [] o d s := w_region
theorem r47_3 {o d s} : RG 47 3 [] o d s := w_region
theorem r47_4 {o d s} : RG 47 4 [] o d s := w_region
theorem r47_5 {o d s} : RG 47 5 [] o d s := w_region
theorem r41_0 {o d s} : RG 41 0 [] o d s := w_region
theorem r41_1 {o s} : RY 41 1 [] [(1, 8), (3, 8), (5, 8), (6, 8)] o s := w_regionY rfl
theorem r41_2 {o d s} : RG 41 2 [] o d s := w_region
theorem r41_3 {o d s} : RG 41 3 [.ownC 3 3 4, .weak [15], .keep [2, 3, 15, 16, 17]] o d s := w_region
theorem r41_4 {o d s} : RG 41 4 [] o d s := w_region
theorem r41_5 {o d s} : RG 41 5 [] o d s := w_region
theorem r41_6 {o d s} : RG 41 6 [] o d s := w_region
theorem r41_7 {o d s} : RG 41 7 [.keep [2, 3, 15, 16, 17]] o d s := w_region
theorem r22_0 {o d s} : RG 22 0 [] o d s := w_region
theorem r22_1 {o d s} : RG 22 1 [] o d s := w_region
theorem r22_2 {o d s} : RG 22 2 [] o d s := w_region
theorem r22_3 {o d s} : RG 22 3 [] o d s := w_region
theorem r22_4 {o d s} : RG 22 4 [] o d s := w_region
theorem r22_5 {o d s} : RG 22 5 [] o d s := w_region
theorem r22_6 {o d s} : RG 22 6 [] o d s := w_region
theorem r23_0 {o d s} : RG 23 0 [] o d s := w_region
theorem r23_1 {o d s} : RG 23 1 [] o d s := w_region
theorem r23_2 {o d s} : RG 23 2 [] o d s := w_region
theorem r23_3 {o d s} : RG 23 3 [.weak [7], .keep [3, 7, 8, 9]] o d s := w_region
theorem r23_4 {o d s} : RG 23 4 [] o d s := w_region
theorem r23_5 {o d s} : RG 23 5 [] o d s := w_region
theorem r23_6 {o d s} : RG 23 6 [] o d s := w_region
theorem r23_7 {o d s} : RG 23 7 [.keep [3, 7, 8, 9]] o d s := w_region
theorem r24_0 {o d s} : RG 24 0 [] o d s := w_region
theorem r24_1 {o d s} : RG 24 1 [] o d s := w_region
theorem r10_0 {o d s} : RG 10 0 [] o d s := w_region
theorem r10_1 {o d s} : RG 10 1 [] o d s := w_region
theorem r10_2 {o d s} : RG 10 2 [] o d s := w_region
theorem r10_3 {o d s} : RG 10 3 [] o d s := w_region
theorem r10_4 {o d s} : RG 10 4 [] o d s := w_region
theorem r10_5 {o d s} : RG 10 5 [] o d s := w_region
theorem r10_6 {o d s} : RG 10 6 [] o d s := w_region
theorem r10_7 {o d s} : RG 10 7 [] o d s := w_region
theorem r10_8 {o d s} : RG 10 8 [.weak [43], .keep [3, 4, 16, 17, 18, 43, 44, 45]] o d s := w_region
theorem r10_9 {o d s} : RG 10 9 [] o d s := w_region
theorem r10_10 {o d s} : RG 10 10 [] o d s := w_region
theorem r10_11 {o d s} : RG 10 11 [] o d s := w_region
theorem r10_12 {o d s} : RG 10 12 [] o d s := w_region
theorem r10_13 {o d s} : RG 10 13 [.keep [3, 4, 16, 17, 18, 43, 44, 45]] o d s := w_region
theorem r44_0 {o d s} : RG 44 0 [.own 0 5] o d s := w_region
theorem r44_1 {o d s} : RG 44 1 [] o d s := w_region
theorem r44_2 {o d s} : RG 44 2 [] o d s := w_region
theorem r44_3 {o d s} : RG 44 3 [] o d s := w_region
theorem r44_4 {o d s} : RG 44 4 [] o d s := w_region
theorem r44_5 {o d s} : RG 44 5 [] o d s := w_region
theorem r44_6 {o d s} : RG 44 6 [] o d s := w_region
theorem r44_7 {o d s} : RG 44 7 [.weak [35], .keep [0, 7, 8, 35, 36, 37]] o d s := w_region
theorem r44_8 {o d s} : RG 44 8 [] o d s := w_region
theorem r44_9 {o d s} : RG 44 9 [] o d s := w_region
theorem r44_10 {o d s} : RG 44 10 [] o d s := w_region
theorem r44_11 {o d s} : RG 44 11 [] o d s := w_region
theorem r44_12 {o d s} : RG 44 12 [.keep [0, 7, 8, 35, 36, 37]] o d s := w_region
theorem r44_13 {o d s} : RG 44 13 [] o d s := w_region
theorem r27_0 {o d s} : RG 27 0 [] o d s := w_region
theorem r27_1 {o d s} : RG 27 1 [] o d s := w_region
theorem r28_0 {o d s} : RG 28 0 [] o d s := w_region
theorem r28_1 {o d s} : RG 28 1 [] o d s := w_region
theorem r28_2 {o d s} : RG 28 2 [] o d s := w_region
theorem r28_3 {o d s} : RG 28 3 [] o d s := w_region
theorem r28_4 {o d s} : RG 28 4 [.weak [0, 1, 14], .keep [0, 1, 7, 8, 14, 15, 16]] o d s := w_region
theorem r28_5 {o d s} : RG 28 5 [] o d s := w_region
theorem r28_6 {o d s} : RG 28 6 [] o d s := w_region
theorem r28_7 {o d s} : RG 28 7 [] o d s := w_region
theorem r28_8 {o d s} : RG 28 8 [] o d s := w_region
theorem r28_9 {o d s} : RG 28 9 [] o d s := w_region
theorem r28_10 {o d s} : RG 28 10 [] o d s := w_region
theorem r28_11 {o d s} : RG 28 11 [.keep [0, 1, 7, 8, 14, 15, 16]] o d s := w_region
theorem r29_0 {o d s} : RG 29 0 [] o d s := w_region
theorem r29_1 {o d s} : RG 29 1 [] o d s := w_region
theorem r29_2 {o d s} : RG 29 2 [] o d s := w_region
theorem r29_3 {o d s} : RG 29 3 [] o d s := w_region
theorem r29_4 {o d s} : RG 29 4 [.weak [3], .keep [3, 4, 5]] o d s := w_region
theorem r29_6 {o d s} : RG 29 6 [] o d s := w_region
theorem r29_7 {o d s} : RG 29 7 [] o d s := w_region
theorem r29_8 {o d s} : RG 29 8 [] o d s := w_region
theorem r29_9 {o d s} : RG 29 9 [] o d s := w_region
theorem r29_5 {o d s} : RG 29 5 [] o d s := w_region
theorem r29_10 {o d s} : RG 29 10 [.keep [3, 4, 5]] o d s := w_region
theorem r30_0 {o d s} : RG 30 0 [] o d s := w_region
theorem r30_1 {o d s} : RG 30 1 [] o d s := w_region
theorem r30_2 {o d s} : RG 30 2 [] o d s := w_region
theorem r30_3 {o d s} : RG 30 3 [] o d s := w_region
theorem r32_0 {o d s} : RG 32 0 [] o d s := w_region
theorem r32_1 {o d s} : RG 32 1 [] o d s := w_region
theorem r32_2 {o d s} : RG 32 2 [] o d s := w_region
theorem r32_3 {o d s} : RG 32 3 [.weak [0], .keep [0, 2, 3, 9, 16, 17, 18]] o d s := w_region
theorem r32_4 {o d s} : RG 32 4 [] o d s := w_region
theorem r32_5 {o d s} : RG 32 5 [] o d s := w_region
theorem r32_6 {o d s} : RG 32 6 [] o d s := w_region
theorem r32_7 {o d s} : RG 32 7 [.weak [0], .keep [0, 2, 3, 9, 12, 16, 17, 18]] o d s := w_region
theorem r32_9 {o d s} : RG 32 9 [] o d s := w_region
theorem r32_8 {o d s} : RG 32 8 [] o d s := w_region
theorem r32_10 {o d s} : RG 32 10 [.keep [0, 2, 3, 9, 12, 16, 17, 18]] o d s := w_region
theorem r32_11 {o d s} : RG 32 11 [.keep [0, 2, 3, 9, 16, 17, 18]] o d s := w_region
theorem r31_0 {o d s} : RG 31 0 [] o d s := w_region
theorem r31_1 {o s} : RY 31 1 [] [(2, 5)] o s := w_regionY rfl
theorem r34_0 {o d s} : RG 34 0 [] o d s := w_region
theorem r34_1 {o d s} : RG 34 1 [] o d s := w_region
theorem r57_0 {o d s} : RG 57 0 [] o d s := w_region
theorem r57_1 {o d s} : RG 57 1 [] o d s := w_region
theorem r57_2 {o d s} : RG 57 2 [] o d s := w_region
theorem r57_3 {o d s} : RG 57 3 [] o d s := w_region
theorem r57_4 {o d s} : RG 57 4 [] o d s := w_region
theorem r57_5 {o d s} : RG 57 5 [] o d s := w_region
theorem r57_6 {o d s} : RG 57 6 [] o d s := w_region
theorem r57_7 {o d s} : RG 57 7 [] o d s := w_region
theorem r57_8 {o d s} : RG 57 8 [] o d s := w_region
theorem r57_9 {o d s} : RG 57 9 [] o d s := w_region
theorem r57_10 {o d s} : RG 57 10 [] o d s := w_region
theorem r46_0 {o d s} : RG 46 0 [] o d s := w_region
theorem r46_1 {o d s} : RG 46 1 [] o d s := w_region
theorem r46_2 {o d s} : RG 46 2 [] o d s := w_region
theorem r48_0 {o d s} : RG 48 0 [] o d s := w_region
theorem r48_1 {o d s} : RG 48 1 [.keep [0, 1, 2, 3, 8]] o d s := w_region
theorem r48_3 {o d s} : RG 48 3 [] o d s := w_region
theorem r48_4 {o d s} : RG 48 4 [.keep [0, 1, 2, 3, 8, 9]] o d s := w_region
theorem r48_6 {o d s} : RG 48 6 [] o d s := w_region
theorem r48_5 {o d s} : RG 48 5 [] o d s := w_region
theorem r48_2 {o d s} : RG 48 2 [.keep [0, 1, 2, 3, 8, 9]] o d s := w_region
theorem r58_0 {o d s} : RG 58 0 [] o d s := w_region
theorem r58_1 {o d s} : RG 58 1 [.keep [0, 2, 3, 4, 10]] o d s := w_region
theorem r58_2 {o d s} : RG 58 2 [] o d s := w_region
theorem r58_3 {o d s} : RG 58 3 [] o d s := w_region
theorem r58_4 {o d s} : RG 58 4 [] o d s := w_region
theorem r58_5 {o d s} : RG 58 5 [] o d s := w_region
theorem r58_6 {o d s} : RG 58 6 [] o d s := w_region
theorem r58_7 {o d s} : RG 58 7 [] o d s := w_region
theorem r49_0 {o d s} : RG 49 0 [] o d s := w_region
theorem r49_1 {o d s} : RG 49 1 [] o d s := w_region
theorem r49_2 {o d s} : RG 49 2 [] o d s := w_region
theorem r49_3 {o d s} : RG 49 3 [] o d s := w_region
theorem r49_4 {o d s} : RG 49 4 [.keep [0, 3, 8, 9, 10, 11]] o d s := w_region
theorem r49_6 {o d s} : RG 49 6 [] o d s := w_region
theorem r49_5 {o d s} : RG 49 5 [] o d s := w_region
theorem r49_7 {o d s} : RG 49 7 [.keep [0, 3, 8, 9, 10, 11]] o d s := w_region
theorem r49_8 {o d s} : RG 49 8 [.keep [0, 3, 8, 9, 12]] o d s := w_region
theorem r49_10 {o d s} : RG 49 10 [] o d s := w_region
theorem r49_11 {o d s} : RG 49 11 [] o d s := w_region
theorem r49_9 {o d s} : RG 49 9 [] o d s := w_region
theorem r63_0 {o d s} : RG 63 0 [] o d s := w_region
theorem r63_1 {o d s} : RG 63 1 [] o d s := w_region
theorem r63_2 {o d s} : RG 63 2 [] o d s := w_region
theorem r63_3 {o d s} : RG 63 3 [] o d s := w_region
theorem r63_4 {o d s} : RG 63 4 [] o d s := w_region
theorem r62_0 {o d s} : RG 62 0 [] o d s := w_region
theorem r62_1 {o d s} : RG 62 1 [] o d s := w_region
theorem r62_2 {o d s} : RG 62 2 [] o d s := w_region
theorem r62_3 {o d s} : RG 62 3 [] o d s := w_region
theorem r62_4 {o d s} : RG 62 4 [] o d s := w_region
theorem r61_0 {o d s} : RG 61 0 [] o d s := w_region
theorem r61_1 {o d s} : RG 61 1 [] o d s := w_region
theorem r51_0 {o d s} : RG 51 0 [] o d s := w_region
theorem r51_1 {o d s} : RG 51 1 [] o d s := w_region
theorem r51_2 {o d s} : RG 51 2 [] o d s := w_region
theorem r51_3 {o d s} : RG 51 3 [] o d s := w_region
theorem r51_4 {o d s} : RG 51 4 [] o d s := w_region
theorem r51_5 {o d s} : RG 51 5 [] o d s := w_region
theorem r51_6 {o d s} : RG 51 6 [] o d s := w_region
theorem r51_7 {o d s} : RG 51 7 [] o d s := w_region
theorem r51_8 {o d s} : RG 51 8 [] o d s := w_region
theorem r51_9 {o d s} : RG 51 9 [] o d s := w_region
theorem r51_10 {o d s} : RG 51 10 [] o d s := w_region
theorem r51_11 {o d s} : RG 51 11 [] o d s := w_region
theorem r51_12 {o d s} : RG 51 12 [] o d s := w_region
theorem r51_14 {o d s} : RG 51 14 [] o d s := w_region
theorem r51_15 {o d s} : RG 51 15 [] o d s := w_region
theorem r51_16 {o d s} : RG 51 16 [] o d s := w_region
theorem r51_17 {o d s} : RG 51 17 [] o d s := w_region
theorem r51_13 {o d s} : RG 51 13 [] o d s := w_region
theorem r52_0 {o d s} : RG 52 0 [] o d s := w_region
theorem r52_1 {o d s} : RG 52 1 [] o d s := w_region
theorem r52_2 {o d s} : RG 52 2 [.keep [0, 8, 9]] o d s := w_region
theorem r52_3 {o d s} : RG 52 3 [] o d s := w_region
theorem r52_4 {o d s} : RG 52 4 [] o d s := w_region
theorem r52_5 {o d s} : RG 52 5 [] o d s := w_region
theorem r53_0 {o d s} : RG 53 0 [] o d s := w_region
theorem r53_1 {o d s} : RG 53 1 [] o d s := w_region
theorem r53_2 {o d s} : RG 53 2 [] o d s := w_region
theorem r53_3 {o d s} : RG 53 3 [.keep [0, 1, 2, 3, 9, 10]] o d s := w_region
theorem r53_5 {o d s} : RG 53 5 [.keep [0, 1, 2, 3, 9, 10]] o d s := w_region
theorem r53_6 {o d s} : RG 53 6 [] o d s := w_region
theorem r53_7 {o d s} : RG 53 7 [.keep [0, 1, 2, 3, 9, 10]] o d s := w_region
theorem r53_8 {o d s} : RG 53 8 [] o d s := w_region
theorem r53_9 {o d s} : RG 53 9 [] o d s := w_region
theorem r53_10 {o d s} : RG 53 10 [] o d s := w_region
theorem r53_11 {o d s} : RG 53 11 [] o d s := w_region
theorem r53_12 {o d s} : RG 53 12 [] o d s := w_region
theorem r53_13 {o d s} : RG 53 13 [] o d s := w_region
theorem r53_14 {o d s} : RG 53 14 [.keep [0, 1, 2, 3, 9, 10, 11]] o d s := w_region
theorem r53_16 {o d s} : RG 53 16 [] o d s := w_region
theorem r53_17 {o d s} : RG 53 17 [] o d s := w_region
theorem r53_15 {o d s} : RG 53 15 [] o d s := w_region
theorem r53_18 {o d s} : RG 53 18 [.keep [0, 1, 2, 3, 9, 10, 11]] o d s := w_region
theorem r53_19 {o d s} : RG 53 19 [] o d s := w_region
theorem r53_20 {o d s} : RG 53 20 [.keep [0, 1, 2, 3, 9, 10, 12]] o d s := w_region
theorem r53_22 {o d s} : RG 53 22 [] o d s := w_region
theorem r53_23 {o d s} : RG 53 23 [] o d s := w_region
theorem r53_21 {o d s} : RG 53 21 [] o d s := w_region
theorem r53_4 {o d s} : RG 53 4 [.keep [0, 1, 2, 3, 9, 10, 12]] o d s := w_region
theorem r53_24 {o d s} : RG 53 24 [.keep [0, 1, 2, 3, 9, 10]] o d s := w_region
theorem r55_0 {o d s} : RG 55 0 [] o d s := w_region
theorem r55_1 {o d s} : RG 55 1 [] o d s := w_region
theorem r55_2 {o d s} : RG 55 2 [] o d s := w_region
theorem r55_3 {o d s} : RG 55 3 [.keep [0, 1, 4, 12, 13]] o d s := w_region
theorem r55_4 {o d s} : RG 55 4 [] o d s := w_region
theorem r55_5 {o d s} : RG 55 5 [.keep [0, 1, 4, 12, 13], .keep [0, 1, 4, 12, 13]] o d s := w_region
theorem r55_6 {o d s} : RG 55 6 [] o d s := w_region
theorem r55_7 {o d s} : RG 55 7 [.keep [0, 1, 4, 12, 13]] o d s := w_region
theorem r55_8 {o d s} : RG 55 8 [] o d s := w_region
theorem r55_9 {o d s} : RG 55 9 [] o d s := w_region
theorem r55_10 {o d s} : RG 55 10 [] o d s := w_region
theorem r55_11 {o d s} : RG 55 11 [] o d s := w_region
theorem r55_12 {o d s} : RG 55 12 [] o d s := w_region
theorem r55_13 {o d s} : RG 55 13 [.keep [0, 1, 4, 12, 13], .keep [0, 1, 4, 12, 13]] o d s := w_region
theorem r55_14 {o d s} : RG 55 14 [] o d s := w_region
theorem r55_15 {o d s} : RG 55 15 [.keep [0, 1, 4, 12, 13], .keep [0, 1, 4, 12, 13]] o d s := w_region
theorem r55_16 {o d s} : RG 55 16 [] o d s := w_region
theorem r55_17 {o d s} : RG 55 17 [.keep [0, 1, 4, 12, 13]] o d s := w_region
theorem r55_18 {o d s} : RG 55 18 [] o d s := w_region
theorem r55_19 {o d s} : RG 55 19 [] o d s := w_region
theorem r55_20 {o d s} : RG 55 20 [] o d s := w_region
theorem r55_21 {o d s} : RG 55 21 [.keep [0, 1, 4, 12, 13]] o d s := w_region
theorem r55_22 {o d s} : RG 55 22 [] o d s := w_region
theorem r54_0 {o d s} : RG 54 0 [] o d s := w_region
theorem r54_1 {o d s} : RG 54 1 [] o d s := w_region
theorem r54_2 {o d s} : RG 54 2 [] o d s := w_region
theorem r54_3 {o d s} : RG 54 3 [.keep [0, 1, 4, 11, 12], .keep [0, 1, 4, 11, 12]] o d s := w_region
theorem r54_4 {o d s} : RG 54 4 [] o d s := w_region
theorem r54_5 {o d s} : RG 54 5 [.keep [0, 1, 4, 11, 12], .keep [0, 1, 4, 11, 12]] o d s := w_region
theorem r54_6 {o d s} : RG 54 6 [] o d s := w_region
theorem r54_7 {o d s} : RG 54 7 [.keep [0, 1, 4, 11, 12]] o d s := w_region
theorem r54_8 {o d s} : RG 54 8 [] o d s := w_region
theorem r54_9 {o d s} : RG 54 9 [] o d s := w_region
theorem r54_10 {o d s} : RG 54 10 [] o d s := w_region
theorem r54_11 {o d s} : RG 54 11 [.keep [0, 1, 4, 11, 12]] o d s := w_region
theorem r59_0 {o d s} : RG 59 0 [] o d s := w_region
theorem r59_1 {o d s} : RG 59 1 [] o d s := w_region
theorem r60_0 {o d s} : RG 60 0 [] o d s := w_region
theorem r60_1 {o d s} : RG 60 1 [] o d s := w_region
theorem r60_2 {o d s} : RG 60 2 [] o d s := w_region
theorem r60_3 {o d s} : RG 60 3 [] o d s := w_region
theorem r60_4 {o d s} : RG 60 4 [] o d s := w_region
theorem r50_0 {o d s} : RG 50 0 [] o d s := w_region
theorem r50_1 {o d s} : RG 50 1 [] o d s := w_region
theorem r50_2 {o d s} : RG 50 2 [] o d s := w_region
theorem r50_3 {o d s} : RG 50 3 [] o d s := w_region
theorem r50_4 {o d s} : RG 50 4 [] o d s := w_region
theorem r50_5 {o d s} : RG 50 5 [.keep [0, 1, 8, 9, 10, 11]] o d s := w_region
theorem r50_7 {o d s} : RG 50 7 [] o d s := w_region
theorem r50_8 {o d s} : RG 50 8 [] o d s := w_region
theorem r50_9 {o d s} : RG 50 9 [] o d s := w_region
theorem r50_10 {o d s} : RG 50 10 [] o d s := w_region
theorem r50_6 {o d s} : RG 50 6 [] o d s := w_region
theorem r45_0 {o d s} : RG 45 0 [] o d s := w_region
theorem r45_1 {o d s} : RG 45 1 [] o d s := w_region
theorem r45_2 {o d s} : RG 45 2 [.keep [0, 1, 2, 3, 4, 10, 11]] o d s := w_region
theorem r45_3 {o d s} : RG 45 3 [] o d s := w_region
theorem r45_4 {o d s} : RG 45 4 [] o d s := w_region
theorem r45_5 {o d s} : RG 45 5 [] o d s := w_region
theorem r45_6 {o d s} : RG 45 6 [] o d s := w_region
theorem r45_7 {o d s} : RG 45 7 [] o d s := w_region
theorem r45_8 {o d s} : RG 45 8 [] o d s := w_region
theorem r45_9 {o d s} : RG 45 9 [] o d s := w_region
theorem r45_10 {o d s} : RG 45 10 [] o d s := w_region
theorem r45_11 {o d s} : RG 45 11 [] o d s := w_region
theorem r45_12 {o d s} : RG 45 12 [] o d s := w_region
theorem r45_13 {o d s} : RG 45 13 [] o d s := w_region
theorem r45_14 {o d s} : RG 45 14 [] o d s := w_region
theorem r45_15 {o d s} : RG 45 15 [] o d s := w_region
theorem r45_16 {o d s} : RG 45 16 [] o d s := w_region
theorem r45_17 {o d s} : RG 45 17 [] o d s := w_region
theorem r45_18 {o d s} : RG 45 18 [] o d s := w_region
theorem r45_19 {o d s} : RG 45 19 [] o d s := w_region
theorem r45_20 {o d s} : RG 45 20 [] o d s := w_region
theorem r45_21 {o d s} : RG 45 21 [] o d s := w_region
theorem r45_22 {o d s} : RG 45 22 [] o d s := w_region
theorem r45_23 {o d s} : RG 45 23 [] o d s := w_region
theorem r45_24 {o d s} : RG 45 24 [] o d s := w_region
theorem r45_25 {o d s} : RG 45 25 [] o d s := w_region
theorem r45_26 {o d s} : RG 45 26 [] o d s := w_region
theorem r45_27 {o d s} : RG 45 27 [] o d s := w_region
theorem r45_28 {o d s} : RG 45 28 [] o d s := w_region
theorem r45_29 {o d s} : RG 45 29 [] o d s := w_region
theorem r45_30 {o d s} : RG 45 30 [] o d s := w_region
theorem r33_0 {o d s} : RG 33 0 [] o d s := w_region
theorem r33_1 {o d s} : RG 33 1 [] o d s := w_region
theorem r12_0 {o d s} : RG 12 0 [] o d s := w_region
theorem r12_1 {o d s} : RG 12 1 [] o d s := w_region
theorem r12_2 {o d s} : RG 12 2 [] o d s := w_region
theorem r12_3 {o d s} : RG 12 3 [] o d s := w_region
theorem r12_4 {o d s} : RG 12 4 [] o d s := w_region
theorem r12_5 {o s} : RY 12 5 [] [(2, 5), (2, 6), (2, 7), (5, 6), (5, 7), (5, 8), (6, 7)] o s := w_regionY rfl
theorem r12_6 {o d s} : RG 12 6 [] o d s := w_region
theorem r12_7 {o d s} : RG 12 7 [] o d s := w_region
theorem r12_8 {o d s} : RG 12 8 [] o d s := w_region
theorem r12_9 {o d s} : RG 12 9 [.weak [8, 9, 10, 11, 48], .keep [8, 9, 10, 11, 12, 13, 14, 15, 48, 49, 50]] o d s := w_region
theorem r12_10 {o d s} : RG 12 10 [] o d s := w_region
theorem r12_11 {o s} : RY 12 11 [] [(3, 7), (5, 7)] o s := w_regionY rfl
theorem r12_12 {o d s} : RG 12 12 [] o d s := w_region
theorem r12_13 {o d s} : RG 12 13 [.keep [8, 9, 10, 11, 12, 13, 14, 15, 48, 49, 50]] o d s := w_region
theorem r12_14 {o d s} : RG 12 14 [] o d s := w_region
theorem r12_15 {o d s} : RG 12 15 [] o d s := w_region
theorem r12_16 {o d s} : RG 12 16 [.weak [8, 9, 10, 11], .keep [8, 9, 10, 11, 12, 13, 14, 15, 18]] o d s := w_region
theorem r12_18 {o d s} : RG 12 18 [] o d s := w_region
theorem r12_19 {o d s} : RG 12 19 [] o d s := w_region
theorem r12_20 {o d s} : RG 12 20 [] o d s := w_region
theorem r12_21 {o d s} : RG 12 21 [] o d s := w_region
theorem r12_22 {o d s} : RG 12 22 [.weak [8, 9, 10, 11, 22], .keep [8, 9, 10, 11, 12, 13, 14, 15, 18, 19, 20, 21, 22, 23]] o d s := w_region
theorem r12_24 {o d s} : RG 12 24 [] o d s := w_region
theorem r12_25 {o d s} : RG 12 25 [] o d s := w_region
theorem r12_26 {o d s} : RG 12 26 [] o d s := w_region
theorem r12_27 {o d s} : RG 12 27 [] o d s := w_region
theorem r12_23 {o d s} : RG 12 23 [] o d s := w_region
theorem r12_28 {o d s} : RG 12 28 [.keep [8, 9, 10, 11, 12, 13, 14, 15, 18, 19, 20, 21, 22, 23]] o d s := w_region
theorem r12_29 {o d s} : RG 12 29 [] o d s := w_region
theorem r12_17 {o d s} : RG 12 17 [] o d s := w_region
theorem r12_30 {o d s} : RG 12 30 [.keep [8, 9, 10, 11, 12, 13, 14, 15, 18]] o d s := w_region
theorem r12_31 {o d s} : RG 12 31 [] o d s := w_region
theorem r14_0 {o d s} : RG 14 0 [] o d s := w_region
theorem r14_1 {o d s} : RG 14 1 [] o d s := w_region
theorem r14_2 {o d s} : RG 14 2 [] o d s := w_region
theorem r14_3 {o d s} : RG 14 3 [] o d s := w_region
theorem r14_4 {o d s} : RG 14 4 [.weak [0, 1], .keep [0, 1, 5]] o d s := w_region
theorem r14_6 {o d s} : RG 14 6 [] o d s := w_region
theorem r14_7 {o d s} : RG 14 7 [] o d s := w_region
theorem r14_5 {o d s} : RG 14 5 [] o d s := w_region
theorem r14_8 {o d s} : RG 14 8 [.keep [0, 1, 5]] o d s := w_region
theorem r38_0 {o d s} : RG 38 0 [] o d s := w_region
theorem r38_1 {o d s} : RG 38 1 [] o d s := w_region
theorem r38_2 {o d s} : RG 38 2 [] o d s := w_region
theorem r38_3 {o d s} : RG 38 3 [] o d s := w_region
theorem r38_4 {o d s} : RG 38 4 [] o d s := w_region
theorem r38_5 {o d s} : RG 38 5 [.keep [2, 4, 7, 8]] o d s := w_region
theorem r38_7 {o d s} : RG 38 7 [] o d s := w_region
theorem r38_8 {o d s} : RG 38 8 [] o d s := w_region
theorem r38_9 {o d s} : RG 38 9 [] o d s := w_region
theorem r38_10 {o d s} : RG 38 10 [] o d s := w_region
theorem r38_6 {o d s} : RG 38 6 [] o d s := w_region
theorem r38_11 {o d s} : RG 38 11 [.keep [2, 4, 7, 8]] o d s := w_region
theorem r18_0 {o d s} : RG 18 0 [] o d s := w_region
theorem r18_1 {o d s} : RG 18 1 [] o d s := w_region
theorem r18_2 {o d s} : RG 18 2 [] o d s := w_region
theorem r18_3 {o d s} : RG 18 3 [] o d s := w_region
theorem r18_4 {o d s} : RG 18 4 [] o d s := w_region
theorem r7_0 {o d s} : RG 7 0 [] o d s := w_region
theorem r7_1 {o d s} : RG 7 1 [] o d s := w_region
theorem r7_2 {o d s} : RG 7 2 [] o d s := w_region
theorem r7_3 {o d s} : RG 7 3 [] o d s := w_region
theorem r7_4 {o d s} : RG 7 4 [] o d s := w_region
theorem r7_5 {o d s} : RG 7 5 [] o d s := w_region
theorem r7_6 {o d s} : RG 7 6 [.own 6 2, .keep [1, 2, 5, 6, 7]] o d s := w_region
theorem r7_8 {o d s} : RG 7 8 [] o d s := w_region
theorem r7_7 {o d s} : RG 7 7 [] o d s := w_region
theorem r7_9 {o d s} : RG 7 9 [.keep [1, 2, 5, 6, 7]] o d s := w_region
theorem r7_10 {o d s} : RG 7 10 [] o d s := w_region
theorem r7_11 {o d s} : RG 7 11 [] o d s := w_region
theorem r7_12 {o d s} : RG 7 12 [] o d s := w_region
theorem r7_13 {o d s} : RG 7 13 [] o d s := w_region
theorem r7_14 {o d s} : RG 7 14 [] o d s := w_region
theorem r7_15 {o d s} : RG 7 15 [] o d s := w_region
theorem r7_16 {o d s} : RG 7 16 [] o d s := w_region
def bs := And.intro @w_seq (And.intro @ghosts_nil (And.intro @regW_some (And.intro @regY_some (And.intro @doneY_some (And.intro @ops_move (And.intro @ops_assign (And.intro @ops_bin (And.intro @ops_load (And.intro @ops_indexAddr (And.intro @ops_len (And.intro @ops_store (And.intro @ops_call (And.intro @opsP_some (And.intro @opsQ_none (And.intro @opsQ_some (And.intro @opsQ_loud (And.intro @ops_nil (And.intro @doneW_some (And.intro @seqW_normal (And.intro @seqW_ret (And.intro @seqW_exit (And.intro @w_cond (And.intro @w_block (And.intro @condW_true (And.intro @condW_false (And.intro @evalO_tmp (And.intro @evalO_const (And.intro @evalO_func (And.intro @ofVal_int (And.intro @ofVal_bool (And.intro @ofVal_nil (And.intro @ofVal_str (And.intro @set8 (And.intro @getD8 (And.intro @List.set_cons_succ.{0} (And.intro @List.set_cons_zero.{0} (And.intro @List.getD_cons_succ.{0} (And.intro @List.getD_cons_zero.{0} (And.intro @binN_tmp (And.intro @binN_int (And.intro @binN_bool (And.intro @binN_str (And.intro @binD_add (And.intro @binD_sub (And.intro @binD_mul (And.intro @binD_lss (And.intro @binD_leq (And.intro @binD_gtr (And.intro @binD_geq (And.intro @binD_eql (And.intro @binD_neq (And.intro @boolD_bv (And.intro @Option.map_some.{0, 0} (And.intro @blockW_normal (And.intro @blockW_ret (And.intro @blockW_exit (And.intro @blockW_other (And.intro @Bool.false_and (And.intro @Bool.and_false (And.intro @Bool.and_true (And.intro @Bool.true_and (And.intro @Bool.not_true (And.intro @Bool.not_false (And.intro @decide_true (And.intro @decide_false (And.intro @ops_guard (And.intro @opsG_true (And.intro @opsG_false (And.intro @wantT_some (And.intro @yield_bv (And.intro @yield_undef (And.intro @putD_some (And.intro @putD_none (And.intro @beq_true' (And.intro @beq_false' (And.intro @List.getElem?_toArray.{0} (And.intro @List.getElem?_cons_succ.{0} (And.intro @List.getElem?_cons_zero.{0} (And.intro @Option.bind_some.{0, 0} (And.intro @Option.bind_none.{0, 0} (And.intro @Option.map_none.{0, 0} (And.intro @ops_pick (And.intro @List.length_cons.{0} (And.intro @List.length_nil.{0} (And.intro @List.cons_append.{0} (And.intro @List.nil_append.{0} (And.intro @ldOb_arr (And.intro @ldOb_frz (And.intro @callV_fn (And.intro @pickD_true (And.intro @pickD_false (And.intro @ops_un (And.intro @unD_not (And.intro @ops_max (And.intro @ops_min (And.intro @ops_bs (And.intro @ops_append (And.intro @ops_make (And.intro @ops_slice (And.intro @ops_extract (And.intro @ops_fieldAddr (And.intro @ops_field (And.intro @ops_build (And.intro @ops_alloc (And.intro @ops_box (And.intro @ops_index (And.intro @ops_conv (And.intro @boxD_leaf (And.intro @boxD_agg (And.intro @boxD_str (And.intro @boxD_bool (And.intro @boxD_lst (And.intro @boxD_ref (And.intro @if_true.{1} (And.intro @if_false.{1} (And.intro @evW_skip (And.intro @evW_exit (And.intro @evW_ret (And.intro @callV_func (And.intro @List.map_cons.{0, 0} (And.intro @List.map_nil.{0, 0} (@Wp_some))))))))))))))))))))))))))))))))))))))))))))))))))))))))))))))))))))))))))))))))))))))))))))))))))))))))))))))))))))))))))
def rs39 := And.intro @r39_0 (And.intro @r39_1 (And.intro @r39_2 (And.intro @r39_3 (And.intro @r39_4 (And.intro @r39_5 (And.intro @r39_7 (And.intro @r39_8 (And.intro @r39_9 (And.intro @r39_6 (@r39_10))))))))))
def rs19 := And.intro @r19_0 (@r19_1)
def rs8 := And.intro @r8_0 (@r8_1)
def rs17 := And.intro @r17_0 (And.intro @r17_1 (And.intro @r17_2 (And.intro @r17_3 (And.intro @r17_5 (And.intro @r17_4 (@r17_6))))))
def rs40 := And.intro @r40_0 (And.intro @r40_1 (And.intro @r40_2 (And.intro @r40_3 (And.intro @r40_4 (And.intro @r40_5 (And.intro @r40_6 (And.intro @r40_7 (And.intro @r40_8 (And.intro @r40_9 (And.intro @r40_10 (And.intro @r40_11 (@r40_12))))))))))))
def rs47 := And.intro @r47_0 (And.intro @r47_1 (And.intro @r47_2 (And.intro @r47_3 (And.intro @r47_4 (@r47_5)))))
def rs41 := And.intro @r41_0 (And.intro @r41_1 (And.intro @r41_2 (And.intro @r41_3 (And.intro @r41_4 (And.intro @r41_5 (And.intro @r41_6 (@r41_7)))))))
def rs22 := And.intro @r22_0 (And.intro @r22_1 (And.intro @r22_2 (And.intro @r22_3 (And.intro @r22_4 (And.intro @r22_5 (@r22_6))))))
def rs23 := And.intro @r23_0 (And.intro @r23_1 (And.intro @r23_2 (And.intro @r23_3 (And.intro @r23_4 (And.intro @r23_5 (And.intro @r23_6 (@r23_7)))))))
def rs24 := And.intro @r24_0 (@r24_1)
def rs10 := And.intro @r10_0 (And.intro @r10_1 (And.intro @r10_2 (And.intro @r10_3 (And.intro @r10_4 (And.intro @r10_5 (And.intro @r10_6 (And.intro @r10_7 (And.intro @r10_8 (And.intro @r10_9 (And.intro @r10_10 (And.intro @r10_11 (And.intro @r10_12 (@r10_13)))))))))))))
def rs44 := And.intro @r44_0 (And.intro @r44_1 (And.intro @r44_2 (And.intro @r44_3 (And.intro @r44_4 (And.intro @r44_5 (And.intro @r44_6 (And.intro @r44_7 (And.intro @r44_8 (And.intro @r44_9 (And.intro @r44_10 (And.intro @r44_11 (And.intro @r44_12 (@r44_13)))))))))))))
def rs27 := And.intro @r27_0 (@r27_1)
def rs28 := And.intro @r28_0 (And.intro @r28_1 (And.intro @r28_2 (And.intro @r28_3 (And.intro @r28_4 (And.intro @r28_5 (And.intro @r28_6 (And.intro @r28_7 (And.intro @r28_8 (And.intro @r28_9 (And.intro @r28_10 (@r28_11)))))))))))
def rs29 := And.intro @r29_0 (And.intro @r29_1 (And.intro @r29_2 (And.intro @r29_3 (And.intro @r29_4 (And.intro @r29_6 (And.intro @r29_7 (And.intro @r29_8 (And.intro @r29_9 (And.intro @r29_5 (@r29_10))))))))))
def rs30 := And.intro @r30_0 (And.intro @r30_1 (And.intro @r30_2 (@r30_3)))
def rs32 := And.intro @r32_0 (And.intro @r32_1 (And.intro @r32_2 (And.intro @r32_3 (And.intro @r32_4 (And.intro @r32_5 (And.intro @r32_6 (And.intro @r32_7 (And.intro @r32_9 (And.intro @r32_8 (And.intro @r32_10 (@r32_11)))))))))))
def rs31 := And.intro @r31_0 (@r31_1)
def rs34 := And.intro @r34_0 (@r34_1)
def rs57 := And.intro @r57_0 (And.intro @r57_1 (And.intro @r57_2 (And.intro @r57_3 (And.intro @r57_4 (And.intro @r57_5 (And.intro @r57_6 (And.intro @r57_7 (And.intro @r57_8 (And.intro @r57_9 (@r57_10))))))))))
def rs46 := And.intro @r46_0 (And.intro @r46_1 (@r46_2))
def rs48 := And.intro @r48_0 (And.intro @r48_1 (And.intro @r48_3 (And.intro @r48_4 (And.intro @r48_6 (And.intro @r48_5 (@r48_2))))))
def rs58 := And.intro @r58_0 (And.intro @r58_1 (And.intro @r58_2 (And.intro @r58_3 (And.intro @r58_4 (And.intro @r58_5 (And.intro @r58_6 (@r58_7)))))))
def rs49 := And.intro @r49_0 (And.intro @r49_1 (And.intro @r49_2 (And.intro @r49_3 (And.intro @r49_4 (And.intro @r49_6 (And.intro @r49_5 (And.intro @r49_7 (And.intro @r49_8 (And.intro @r49_10 (And.intro @r49_11 (@r49_9)))))))))))
def rs63 := And.intro @r63_0 (And.intro @r63_1 (And.intro @r63_2 (And.intro @r63_3 (@r63_4))))
def rs62 := And.intro @r62_0 (And.intro @r62_1 (And.intro @r62_2 (And.intro @r62_3 (@r62_4))))
def rs61 := And.intro @r61_0 (@r61_1)
def rs51 := And.intro @r51_0 (And.intro @r51_1 (And.intro @r51_2 (And.intro @r51_3 (And.intro @r51_4 (And.intro @r51_5 (And.intro @r51_6 (And.intro @r51_7 (And.intro @r51_8 (And.intro @r51_9 (And.intro @r51_10 (And.intro @r51_11 (And.intro @r51_12 (And.intro @r51_14 (And.intro @r51_15 (And.intro @r51_16 (And.intro @r51_17 (@r51_13)))))))))))))))))
def rs52 := And.intro @r52_0 (And.intro @r52_1 (And.intro @r52_2 (And.intro @r52_3 (And.intro @r52_4 (@r52_5)))))
def rs53 := And.intro @r53_0 (And.intro @r53_1 (And.intro @r53_2 (And.intro @r53_3 (And.intro @r53_5 (And.intro @r53_6 (And.intro @r53_7 (And.intro @r53_8 (And.intro @r53_9 (And.intro @r53_10 (And.intro @r53_11 (And.intro @r53_12 (And.intro @r53_13 (And.intro @r53_14 (And.intro @r53_16 (And.intro @r53_17 (And.intro @r53_15 (And.intro @r53_18 (And.intro @r53_19 (And.intro @r53_20 (And.intro @r53_22 (And.intro @r53_23 (And.intro @r53_21 (And.intro @r53_4 (@r53_24))))))))))))))))))))))))
def rs55 := And.intro @r55_0 (And.intro @r55_1 (And.intro @r55_2 (And.intro @r55_3 (And.intro @r55_4 (And.intro @r55_5 (And.intro @r55_6 (And.intro @r55_7 (And.intro @r55_8 (And.intro @r55_9 (And.intro @r55_10 (And.intro @r55_11 (And.intro @r55_12 (And.intro @r55_13 (And.intro @r55_14 (And.intro @r55_15 (And.intro @r55_16 (And.intro @r55_17 (And.intro @r55_18 (And.intro @r55_19 (And.intro @r55_20 (And.intro @r55_21 (@r55_22))))))))))))))))))))))
def rs54 := And.intro @r54_0 (And.intro @r54_1 (And.intro @r54_2 (And.intro @r54_3 (And.intro @r54_4 (And.intro @r54_5 (And.intro @r54_6 (And.intro @r54_7 (And.intro @r54_8 (And.intro @r54_9 (And.intro @r54_10 (@r54_11)))))))))))
def rs59 := And.intro @r59_0 (@r59_1)
def rs60 := And.intro @r60_0 (And.intro @r60_1 (And.intro @r60_2 (And.intro @r60_3 (@r60_4))))
def rs50 := And.intro @r50_0 (And.intro @r50_1 (And.intro @r50_2 (And.intro @r50_3 (And.intro @r50_4 (And.intro @r50_5 (And.intro @r50_7 (And.intro @r50_8 (And.intro @r50_9 (And.intro @r50_10 (@r50_6))))))))))
def rs45 := And.intro @r45_0 (And.intro @r45_1 (And.intro @r45_2 (And.intro @r45_3 (And.intro @r45_4 (And.intro @r45_5 (And.intro @r45_6 (And.intro @r45_7 (And.intro @r45_8 (And.intro @r45_9 (And.intro @r45_10 (And.intro @r45_11 (And.intro @r45_12 (And.intro @r45_13 (And.intro @r45_14 (And.intro @r45_15 (And.intro @r45_16 (And.intro @r45_17 (And.intro @r45_18 (And.intro @r45_19 (And.intro @r45_20 (And.intro @r45_21 (And.intro @r45_22 (And.intro @r45_23 (And.intro @r45_24 (And.intro @r45_25 (And.intro @r45_26 (And.intro @r45_27 (And.intro @r45_28 (And.intro @r45_29 (@r45_30))))))))))))))))))))))))))))))
def rs33 := And.intro @r33_0 (@r33_1)
def rs12 := And.intro @r12_0 (And.intro @r12_1 (And.intro @r12_2 (And.intro @r12_3 (And.intro @r12_4 (And.intro @r12_5 (And.intro @r12_6 (And.intro @r12_7 (And.intro @r12_8 (And.intro @r12_9 (And.intro @r12_10 (And.intro @r12_11 (And.intro @r12_12 (And.intro @r12_13 (And.intro @r12_14 (And.intro @r12_15 (And.intro @r12_16 (And.intro @r12_18 (And.intro @r12_19 (And.intro @r12_20 (And.intro @r12_21 (And.intro @r12_22 (And.intro @r12_24 (And.intro @r12_25 (And.intro @r12_26 (And.intro @r12_27 (And.intro @r12_23 (And.intro @r12_28 (And.intro @r12_29 (And.intro @r12_17 (And.intro @r12_30 (@r12_31)))))))))))))))))))))))))))))))
def rs14 := And.intro @r14_0 (And.intro @r14_1 (And.intro @r14_2 (And.intro @r14_3 (And.intro @r14_4 (And.intro @r14_6 (And.intro @r14_7 (And.intro @r14_5 (@r14_8))))))))
def rs38 := And.intro @r38_0 (And.intro @r38_1 (And.intro @r38_2 (And.intro @r38_3 (And.intro @r38_4 (And.intro @r38_5 (And.intro @r38_7 (And.intro @r38_8 (And.intro @r38_9 (And.intro @r38_10 (And.intro @r38_6 (@r38_11)))))))))))
def rs18 := And.intro @r18_0 (And.intro @r18_1 (And.intro @r18_2 (And.intro @r18_3 (@r18_4))))
def rs7 := And.intro @r7_0 (And.intro @r7_1 (And.intro @r7_2 (And.intro @r7_3 (And.intro @r7_4 (And.intro @r7_5 (And.intro @r7_6 (And.intro @r7_8 (And.intro @r7_7 (And.intro @r7_9 (And.intro @r7_10 (And.intro @r7_11 (And.intro @r7_12 (And.intro @r7_13 (And.intro @r7_14 (And.intro @r7_15 (@r7_16))))))))))))))))
theorem a25 : aggT Try.prog 25 = some true := by kernel_rfl
theorem z25 : szOf Try.prog 25 = some 4 := by kernel_rfl
theorem a23 : aggT Try.prog 23 = some false := by kernel_rfl
theorem u23 : Try.prog.underlying 23 = some (.slice 25) := Try.underlying23
theorem u26 : Try.prog.underlying 26 = some (.slice 39) := Try.underlying26
theorem z39 : szOf Try.prog 39 = some 2 := by kernel_rfl
theorem b39 : bytesOf Try.prog 39 = some 16 := by kernel_rfl
theorem zc39 : zeroCs Try.prog 39 = some [.v (.int .i64 (0 : Int)), .v (.int .i64 (0 : Int))] := by kernel_rfl
theorem a3 : aggT Try.prog 3 = some false := by kernel_rfl
theorem a9 : aggT Try.prog 9 = some false := by kernel_rfl
theorem a22 : aggT Try.prog 22 = some false := by kernel_rfl
theorem u22 : Try.prog.underlying 22 = some (.slice 9) := Try.underlying22
theorem z9 : szOf Try.prog 9 = some 1 := by kernel_rfl
theorem b9 : bytesOf Try.prog 9 = some 16 := by kernel_rfl
theorem zc9 : zeroCs Try.prog 9 = some [.v (.string ByteArray.empty)] := by kernel_rfl
theorem b25 : bytesOf Try.prog 25 = some 72 := by kernel_rfl
theorem zc25 : zeroCs Try.prog 25 = some [.v (.int .i64 (0 : Int)), .v (.string ByteArray.empty), .lst true 0 [], .lst true 0 []] := by kernel_rfl
theorem z23 : szOf Try.prog 23 = some 1 := by kernel_rfl
theorem a39 : aggT Try.prog 39 = some true := by kernel_rfl
theorem u49 : Try.prog.underlying 49 = some (.slice 58) := Try.underlying49
theorem z58 : szOf Try.prog 58 = some 5 := by kernel_rfl
theorem b58 : bytesOf Try.prog 58 = some 80 := by kernel_rfl
theorem zc58 : zeroCs Try.prog 58 = some [.v (.int .i64 (0 : Int)), .v (.int .i64 (0 : Int)), .v (.string ByteArray.empty), .lst true 0 [], .lst true 0 []] := by kernel_rfl
theorem u52 : Try.prog.underlying 52 = some (.slice 3) := Try.underlying52
theorem z3 : szOf Try.prog 3 = some 1 := by kernel_rfl
theorem b3 : bytesOf Try.prog 3 = some 8 := by kernel_rfl
theorem zc3 : zeroCs Try.prog 3 = some [.v (.int .i64 (0 : Int))] := by kernel_rfl
theorem z52 : szOf Try.prog 52 = some 1 := by kernel_rfl
theorem u54 : Try.prog.underlying 54 = some (.slice 4) := Try.underlying54
theorem z4 : szOf Try.prog 4 = some 1 := by kernel_rfl
theorem b4 : bytesOf Try.prog 4 = some 1 := by kernel_rfl
theorem zc4 : zeroCs Try.prog 4 = some [.v (.bool false)] := by kernel_rfl
theorem a4 : aggT Try.prog 4 = some false := by kernel_rfl
theorem z54 : szOf Try.prog 54 = some 1 := by kernel_rfl
theorem z26 : szOf Try.prog 26 = some 1 := by kernel_rfl
theorem a54 : aggT Try.prog 54 = some false := by kernel_rfl
theorem a52 : aggT Try.prog 52 = some false := by kernel_rfl
theorem a26 : aggT Try.prog 26 = some false := by kernel_rfl
theorem z87 : szOf Try.prog 87 = some 1 := by kernel_rfl
theorem a87 : aggT Try.prog 87 = some false := by kernel_rfl
theorem varlv_4_0_4 {c0 c1 c2 c3 : Pv} : lkOb (some (.var [.p c0, .p c1, .p c2, .p c3])) 0 4 = some (.p (.agg [c0, c1, c2, c3])) := rfl
theorem faP_25_3 {id o : Nat} : fieldAddrD Try.prog 25 (.ptr id o) 3 = some (.ptr id (o + 3)) := by kernel_rfl
theorem varld_4_0_3 {c0 c1 c2 c3 : Dv} : ldOb (some (.var [c0, c1, c2, c3])) (0 + 3) = some c3 := rfl
theorem idxL_23 {full : Bool} {l : List Node} {i : Int} (h0 : 0 ≤ i) (h1 : i < (l.length : Int)) : idxD Try.prog 23 (.p (.lst full l.length (encL en_Node l))) (.p (.v (.int .i64 i))) = some (.p (.iptr (encL en_Node l) (i.toNat * 4))) := idx_lst u23 z25 (by decide) en_Node_len h0 h1
theorem lk_frz_25 {l : List Node} {i : Int} {v : Node} (h : rd l i = some v) : lkOb (some (.frz (encL en_Node l))) (i.toNat * 4) 4 = some (.p (.agg [.v (.int .i64 v.Kind), .v (.string v.Text), .lst false v.Gaps.length (encL en_str v.Gaps), .lst false v.Kids.length (encL en_Node v.Kids)])) := (lkOb_frz en_Node_len h).trans (by rw [en_Node_eq])
theorem bu_39_0_1 {p0_0 : Int} {p1_0 : Int} : buildD Try.prog 39 [(0, .p (.v (.int .i64 p0_0))), (1, .p (.v (.int .i64 p1_0)))] = some (.p (.agg [.v (.int .i64 p0_0), .v (.int .i64 p1_0)])) := by kernel_rfl
theorem bs_26_1 {p0_0 : Int} {p0_1 : Int} {H : List Ob} : bsD Try.prog H 26 1 [(0, .p (.agg [.v (.int .i64 p0_0), .v (.int .i64 p0_1)]))] = some (.p (.lst true 1 [.v (.int .i64 p0_0), .v (.int .i64 p0_1)]), none) := by kernel_rfl
theorem ap_26_26 {H : List Ob} {id off esz n m : Nat} {full : Bool} {new : List Pv} : appendD Try.prog H #[26, 26] (.ref id off n esz) (.p (.lst full m new)) = apOb H id off n m esz 2 16 new H[id]? := appendD_ap u26 u26 z39 b39 zc39 ⟨by decide, by decide, rfl⟩
theorem al_25 {H : List Ob} : allocD Try.prog 25 H = some (.ptr H.length 0, some (H ++ [.var [iv (0 : Int), .p (.v (.string ByteArray.empty)), .p (.lst true 0 []), .p (.lst true 0 [])]])) := by kernel_rfl
theorem bu_25_  : buildD Try.prog 25 [] = some (.p (.agg [.v (.int .i64 (0 : Int)), .v (.string ByteArray.empty), .lst true 0 [], .lst true 0 []])) := by kernel_rfl
theorem sa_4_0_4 {H : List Ob} {id : Nat} {c0 c1 c2 c3 : Dv} {d0 d1 d2 d3 : Pv} : staOb H id 0 4 [d0, d1, d2, d3] (some (.var [c0, c1, c2, c3])) = some (H.set id (.var [(.p d0), (.p d1), (.p d2), (.p d3)])) := by simp [staOb, setAt]
theorem ex_3_0 {c0 c1 c2 : Pv} : extractD (.p (.tup [c0, c1, c2])) 0 = some (.p c0) := rfl
theorem ex_3_1 {c0 c1 c2 : Pv} : extractD (.p (.tup [c0, c1, c2])) 1 = some (.p c1) := rfl
theorem ex_3_2 {c0 c1 c2 : Pv} : extractD (.p (.tup [c0, c1, c2])) 2 = some (.p c2) := rfl
theorem faP_25_0 {id o : Nat} : fieldAddrD Try.prog 25 (.ptr id o) 0 = some (.ptr id (o + 0)) := by kernel_rfl
theorem varld_4_0_0 {c0 c1 c2 c3 : Dv} : ldOb (some (.var [c0, c1, c2, c3])) (0 + 0) = some c0 := rfl
theorem faP_25_1 {id o : Nat} : fieldAddrD Try.prog 25 (.ptr id o) 1 = some (.ptr id (o + 1)) := by kernel_rfl
theorem varld_4_0_1 {c0 c1 c2 c3 : Dv} : ldOb (some (.var [c0, c1, c2, c3])) (0 + 1) = some c1 := rfl
theorem faP_25_2 {id o : Nat} : fieldAddrD Try.prog 25 (.ptr id o) 2 = some (.ptr id (o + 2)) := by kernel_rfl
theorem varld_4_0_2 {c0 c1 c2 c3 : Dv} : ldOb (some (.var [c0, c1, c2, c3])) (0 + 2) = some c2 := rfl
theorem mk_22 {H : List Ob} {n : Int} (h0 : 0 ≤ n) (h1 : n * 16 ≤ 140737488355328) : makeD Try.prog H 22 (.p (.v (.int .i64 n))) (.p (.v (.int .i64 n))) = some (.ref H.length 0 (List.replicate n.toNat (ByteArray.empty)).length 1, H ++ [.arr (encL en_str (List.replicate n.toNat (ByteArray.empty)))]) := make_enc u22 z9 b9 (by rw [en_str_eq]; exact zc9) ⟨by decide, by decide, en_str_len _⟩ h0 h1
theorem cp_22 {H : List Ob} {t2 id n : Nat} {x y : List ByteArray} {full : Bool} (hid : H[id]? = some (.arr (encL en_str x))) (hn : n = x.length) : copyD Try.prog H #[22, t2] (.ref id 0 n 1) (.p (.lst full y.length (encL en_str y))) = some (.p (.v (.int .i64 ((Nat.min y.length x.length : Nat) : Int))), H.set id (.arr (encL en_str (cpL x y)))) := copy_enc u22 z9 (by decide) en_str_len hid hn
theorem bu_25_0_1_2 {p0_0 : Int} {p1_0 : ByteArray} {p2_0f : Bool} {p2_0n : Nat} {p2_0c : List Pv} : buildD Try.prog 25 [(0, .p (.v (.int .i64 p0_0))), (1, .p (.v (.string p1_0))), (2, .p (.lst p2_0f p2_0n p2_0c))] = some (.p (.agg [.v (.int .i64 p0_0), .v (.string p1_0), .lst p2_0f p2_0n p2_0c, .lst true 0 []])) := by kernel_rfl
theorem bs_23_1 {p0_0 : Int} {p0_1 : ByteArray} {p0_2f : Bool} {p0_2n : Nat} {p0_2c : List Pv} {p0_3f : Bool} {p0_3n : Nat} {p0_3c : List Pv} {H : List Ob} : bsD Try.prog H 23 1 [(0, .p (.agg [.v (.int .i64 p0_0), .v (.string p0_1), .lst p0_2f p0_2n p0_2c, .lst p0_3f p0_3n p0_3c]))] = some (.p (.lst true 1 [.v (.int .i64 p0_0), .v (.string p0_1), .lst false p0_2n (wks p0_2c), .lst false p0_3n (wks p0_3c)]), none) := by kernel_rfl
theorem ap_23_23 {H : List Ob} {id off esz n m : Nat} {full : Bool} {new : List Pv} : appendD Try.prog H #[23, 23] (.ref id off n esz) (.p (.lst full m new)) = apOb H id off n m esz 4 72 new H[id]? := appendD_ap u23 u23 z25 b25 zc25 ⟨by decide, by decide, rfl⟩
theorem sg_4_0_3_r {H : List Ob} {id : Nat} {c0 c1 c2 c3 : Dv} {i0 o0 n0 e0 : Nat} : stgOb H id (0 + 3) 1 [.ref i0 o0 n0 e0] (some (.var [c0, c1, c2, c3])) = some (H.set id (.var [c0, c1, c2, .ref i0 o0 n0 e0])) := by simp [stgOb, setAt]
theorem varlg_pppr {c0 c1 c2 : Pv} {i3 o3 n3 e3 : Nat} : lkOb (some (.var [.p c0, .p c1, .p c2, .ref i3 o3 n3 e3])) 0 4 = some (.agg [.p c0, .p c1, .p c2, .ref i3 o3 n3 e3]) := rfl
theorem sg_4_0_pppr {H : List Ob} {id : Nat} {c0 c1 c2 c3 : Dv} {d0 d1 d2 : Pv} {i3 o3 n3 e3 : Nat} : stgOb H id 0 4 [.p d0, .p d1, .p d2, .ref i3 o3 n3 e3] (some (.var [c0, c1, c2, c3])) = some (H.set id (.var [.p d0, .p d1, .p d2, .ref i3 o3 n3 e3])) := by simp [stgOb, setAt]
theorem ex_2_0 {c0 c1 : Pv} : extractD (.p (.tup [c0, c1])) 0 = some (.p c0) := rfl
theorem ex_2_1 {c0 c1 : Pv} : extractD (.p (.tup [c0, c1])) 1 = some (.p c1) := rfl
theorem idxL_26 {full : Bool} {l : List Pair} {i : Int} (h0 : 0 ≤ i) (h1 : i < (l.length : Int)) : idxD Try.prog 26 (.p (.lst full l.length (encL en_Pair l))) (.p (.v (.int .i64 i))) = some (.p (.iptr (encL en_Pair l) (i.toNat * 2))) := idx_lst u26 z39 (by decide) en_Pair_len h0 h1
theorem lk_frz_39 {l : List Pair} {i : Int} {v : Pair} (h : rd l i = some v) : lkOb (some (.frz (encL en_Pair l))) (i.toNat * 2) 2 = some (.p (.agg [.v (.int .i64 v.Old), .v (.int .i64 v.New)])) := (lkOb_frz en_Pair_len h).trans (by rw [en_Pair_eq])
theorem al_39 {H : List Ob} : allocD Try.prog 39 H = some (.ptr H.length 0, some (H ++ [.var [iv (0 : Int), iv (0 : Int)]])) := by kernel_rfl
theorem sa_2_0_2 {H : List Ob} {id : Nat} {c0 c1 : Dv} {d0 d1 : Pv} : staOb H id 0 2 [d0, d1] (some (.var [c0, c1])) = some (H.set id (.var [(.p d0), (.p d1)])) := by simp [staOb, setAt]
theorem faP_39_0 {id o : Nat} : fieldAddrD Try.prog 39 (.ptr id o) 0 = some (.ptr id (o + 0)) := by kernel_rfl
theorem varld_2_0_0 {c0 c1 : Dv} : ldOb (some (.var [c0, c1])) (0 + 0) = some c0 := rfl
theorem faP_39_1 {id o : Nat} : fieldAddrD Try.prog 39 (.ptr id o) 1 = some (.ptr id (o + 1)) := by kernel_rfl
theorem varld_2_0_1 {c0 c1 : Dv} : ldOb (some (.var [c0, c1])) (0 + 1) = some c1 := rfl
theorem bu_58_0_1_2_3 {p0_0 : Int} {p1_0 : Int} {p2_0 : ByteArray} {p3_0f : Bool} {p3_0n : Nat} {p3_0c : List Pv} : buildD Try.prog 58 [(0, .p (.v (.int .i64 p0_0))), (1, .p (.v (.int .i64 p1_0))), (2, .p (.v (.string p2_0))), (3, .p (.lst p3_0f p3_0n p3_0c))] = some (.p (.agg [.v (.int .i64 p0_0), .v (.int .i64 p1_0), .v (.string p2_0), .lst p3_0f p3_0n p3_0c, .lst true 0 []])) := by kernel_rfl
theorem bs_49_1 {p0_0 : Int} {p0_1 : Int} {p0_2 : ByteArray} {p0_3f : Bool} {p0_3n : Nat} {p0_3c : List Pv} {p0_4f : Bool} {p0_4n : Nat} {p0_4c : List Pv} {H : List Ob} : bsD Try.prog H 49 1 [(0, .p (.agg [.v (.int .i64 p0_0), .v (.int .i64 p0_1), .v (.string p0_2), .lst p0_3f p0_3n p0_3c, .lst p0_4f p0_4n p0_4c]))] = some (.p (.lst true 1 [.v (.int .i64 p0_0), .v (.int .i64 p0_1), .v (.string p0_2), .lst false p0_3n (wks p0_3c), .lst false p0_4n (wks p0_4c)]), none) := by kernel_rfl
theorem ap_49_49 {H : List Ob} {id off esz n m : Nat} {full : Bool} {new : List Pv} : appendD Try.prog H #[49, 49] (.ref id off n esz) (.p (.lst full m new)) = apOb H id off n m esz 5 80 new H[id]? := appendD_ap u49 u49 z58 b58 zc58 ⟨by decide, by decide, rfl⟩
theorem mk_52 {H : List Ob} {n : Int} (h0 : 0 ≤ n) (h1 : n * 8 ≤ 140737488355328) : makeD Try.prog H 52 (.p (.v (.int .i64 n))) (.p (.v (.int .i64 n))) = some (.ref H.length 0 (List.replicate n.toNat ((0 : Int))).length 1, H ++ [.arr (encL en_i64 (List.replicate n.toNat ((0 : Int))))]) := make_enc u52 z3 b3 (by rw [en_i64_eq]; exact zc3) ⟨by decide, by decide, en_i64_len _⟩ h0 h1
theorem idxR_52 {id m : Nat} {i : Int} (h0 : 0 ≤ i) (h1 : i < (m : Int)) : idxD Try.prog 52 (.ref id 0 m 1) (.p (.v (.int .i64 i))) = some (.ptr id (i.toNat * 1)) := idx_ref u52 z3 (by decide) h0 h1
theorem idxR_49 {id m : Nat} {i : Int} (h0 : 0 ≤ i) (h1 : i < (m : Int)) : idxD Try.prog 49 (.ref id 0 m 5) (.p (.v (.int .i64 i))) = some (.ptr id (i.toNat * 5)) := idx_ref u49 z58 (by decide) h0 h1
theorem faP_58_4 {id o : Nat} : fieldAddrD Try.prog 58 (.ptr id o) 4 = some (.ptr id (o + 4)) := by kernel_rfl
theorem mk_54 {H : List Ob} {n : Int} (h0 : 0 ≤ n) (h1 : n * 1 ≤ 140737488355328) : makeD Try.prog H 54 (.p (.v (.int .i64 n))) (.p (.v (.int .i64 n))) = some (.ref H.length 0 (List.replicate n.toNat (false)).length 1, H ++ [.arr (encL en_bool (List.replicate n.toNat (false)))]) := make_enc u54 z4 b4 (by rw [en_bool_eq]; exact zc4) ⟨by decide, by decide, en_bool_len _⟩ h0 h1
theorem idxR_54 {id m : Nat} {i : Int} (h0 : 0 ≤ i) (h1 : i < (m : Int)) : idxD Try.prog 54 (.ref id 0 m 1) (.p (.v (.int .i64 i))) = some (.ptr id (i.toNat * 1)) := idx_ref u54 z4 (by decide) h0 h1
theorem ce_4_x {l : List Bool} {i : Int} {v : Bool} (h : rd l i = some v) : (encL en_bool l)[i.toNat * 1]? = some (.v (.bool v)) := (encL_cell en_bool_len h (k := 0) (by decide)).trans (by rw [en_bool_eq]; rfl)
theorem idxL_49 {full : Bool} {l : List Row} {i : Int} (h0 : 0 ≤ i) (h1 : i < (l.length : Int)) : idxD Try.prog 49 (.p (.lst full l.length (encL en_Row l))) (.p (.v (.int .i64 i))) = some (.p (.iptr (encL en_Row l) (i.toNat * 5))) := idx_lst u49 z58 (by decide) en_Row_len h0 h1
theorem faI_58_1 {cs : List Pv} {o : Nat} : fieldAddrD Try.prog 58 (.p (.iptr cs o)) 1 = some (.p (.iptr cs (o + 1))) := by kernel_rfl
theorem ce_58__1 {l : List Row} {i : Int} {v : Row} (h : rd l i = some v) : (encL en_Row l)[i.toNat * 5 + 1]? = some (.v (.int .i64 v.Kind)) := (encL_cell en_Row_len h (k := 1) (by decide)).trans (by rw [en_Row_eq]; rfl)
theorem ce_3_x {l : List Int} {i : Int} {v : Int} (h : rd l i = some v) : (encL en_i64 l)[i.toNat * 1]? = some (.v (.int .i64 v)) := (encL_cell en_i64_len h (k := 0) (by decide)).trans (by rw [en_i64_eq]; rfl)
theorem faI_58_0 {cs : List Pv} {o : Nat} : fieldAddrD Try.prog 58 (.p (.iptr cs o)) 0 = some (.p (.iptr cs (o + 0))) := by kernel_rfl
theorem ce_58__0 {l : List Row} {i : Int} {v : Row} (h : rd l i = some v) : (encL en_Row l)[i.toNat * 5 + 0]? = some (.v (.int .i64 v.Parent)) := (encL_cell en_Row_len h (k := 0) (by decide)).trans (by rw [en_Row_eq]; rfl)
theorem al_54 {H : List Ob} : allocD Try.prog 54 H = some (.ptr H.length 0, some (H ++ [.var [.p (.lst true 0 [])]])) := by kernel_rfl
theorem sg_1_0_r {H : List Ob} {id : Nat} {c0 : Dv} {i0 o0 n0 e0 : Nat} : stgOb H id 0 1 [.ref i0 o0 n0 e0] (some (.var [c0])) = some (H.set id (.var [.ref i0 o0 n0 e0])) := by simp [stgOb, setAt]
theorem bs_26_0 {H : List Ob} : bsD Try.prog H 26 0 [] = some (.p (.lst true 0 []), none) := by kernel_rfl
theorem apn_26_26 {H : List Ob} {m : Nat} {full : Bool} {new : List Pv} : appendD Try.prog H #[26, 26] (.p (.lst true 0 [])) (.p (.lst full m new)) = apN H m 2 16 new := appendD_apn u26 u26 z39 b39 zc39 ⟨by decide, by decide, rfl⟩
theorem al_26 {H : List Ob} : allocD Try.prog 26 H = some (.ptr H.length 0, some (H ++ [.var [.p (.lst true 0 [])]])) := by kernel_rfl
theorem varld_1_0 {c0 : Dv} : ldOb (some (.var [c0])) 0 = some c0 := rfl
theorem faI_58_4 {cs : List Pv} {o : Nat} : fieldAddrD Try.prog 58 (.p (.iptr cs o)) 4 = some (.p (.iptr cs (o + 4))) := by kernel_rfl
theorem ce_58__4 {l : List Row} {i : Int} {v : Row} (h : rd l i = some v) : (encL en_Row l)[i.toNat * 5 + 4]? = some (.lst false v.Kids.length (encL en_i64 v.Kids)) := (encL_cell en_Row_len h (k := 4) (by decide)).trans (by rw [en_Row_eq]; rfl)
theorem idxL_52 {full : Bool} {l : List Int} {i : Int} (h0 : 0 ≤ i) (h1 : i < (l.length : Int)) : idxD Try.prog 52 (.p (.lst full l.length (encL en_i64 l))) (.p (.v (.int .i64 i))) = some (.p (.iptr (encL en_i64 l) (i.toNat * 1))) := idx_lst u52 z3 (by decide) en_i64_len h0 h1
theorem idxR_26 {id m : Nat} {i : Int} (h0 : 0 ≤ i) (h1 : i < (m : Int)) : idxD Try.prog 26 (.ref id 0 m 2) (.p (.v (.int .i64 i))) = some (.ptr id (i.toNat * 2)) := idx_ref u26 z39 (by decide) h0 h1
theorem lk_roa_39 {l : List Pair} {i : Int} {v : Pair} (h : rd l i = some v) : lkOb (some (.roa (encL en_Pair l))) (i.toNat * 2) 2 = some (.p (.agg [.v (.int .i64 v.Old), .v (.int .i64 v.New)])) := (lkOb_roa en_Pair_len h).trans (by rw [en_Pair_eq])
theorem cv_3_73 {x : Int} : convD Try.prog 3 73 (.p (.v (.int .i64 x))) = some (.p (.v (.int .u64 (IntKind.wrap .u64 x)))) := by kernel_rfl
theorem cv_86_5 {x : Int} : convD Try.prog 86 5 (.p (.v (.int .u64 x))) = some (.p (.v (.int .u8 (IntKind.wrap .u8 x)))) := by kernel_rfl
theorem cv_5_3 {x : Int} : convD Try.prog 5 3 (.p (.v (.int .u8 x))) = some (.p (.v (.int .i64 (IntKind.wrap .i64 x)))) := by kernel_rfl
theorem lk_arr_39 {l : List Pair} {i : Int} {v : Pair} (h : rd l i = some v) : lkOb (some (.arr (encL en_Pair l))) (i.toNat * 2) 2 = some (.p (.agg [.v (.int .i64 v.Old), .v (.int .i64 v.New)])) := (lkOb_arr en_Pair_len h).trans (by rw [en_Pair_eq])
theorem al_3 {H : List Ob} : allocD Try.prog 3 H = some (.ptr H.length 0, some (H ++ [.var [iv (0 : Int)]])) := by kernel_rfl
theorem sv_1_0_1 {H : List Ob} {id : Nat} {c0 : Dv} {d0 : Dv} : stdOb H id 0 d0 (some (.var [c0])) = some (H.set id (.var [d0])) := rfl
theorem cv_3_87 {x : Int} : convD Try.prog 3 87 (.p (.v (.int .i64 x))) = some (.p (.v (.int .u64 (IntKind.wrap .u64 x)))) := by kernel_rfl
theorem al_87 {H : List Ob} : allocD Try.prog 87 H = some (.ptr H.length 0, some (H ++ [.var [.p (.v (.int .u64 (0 : Int)))]])) := by kernel_rfl
theorem cv_73_3 {x : Int} : convD Try.prog 73 3 (.p (.v (.int .u64 x))) = some (.p (.v (.int .i64 (IntKind.wrap .i64 x)))) := by kernel_rfl
theorem eqA_39 (a0 b0 : Int)(a1 b1 : Int) : pureRun Try.prog (Op.equalIn 10000 39 (.agg #[.int .i64 a0, .int .i64 a1]) (.agg #[.int .i64 b0, .int .i64 b1])) = some (decide (a0 = b0 ∧ a1 = b1)) := by
  refine (pr_equal_struct (d := 9999) Try.underlying39 (by kernel_rfl)).trans ?_
  refine (pr_cons (by decide) rfl rfl (pr_equal_int Try.underlying3) (pr_cons (by decide) rfl rfl (pr_equal_int Try.underlying3) pr_nil)).trans ?_
  simp only [Bool.decide_and, Bool.and_true]
theorem neq_39 {a0 b0 : Int}{a1 b1 : Int} {xo yo : Operand} : binD Try.prog .neq 39 xo yo (.p (.agg [.v (.int .i64 a0), .v (.int .i64 a1)])) (.p (.agg [.v (.int .i64 b0), .v (.int .i64 b1)])) = some (.p (.v (.bool (!decide (a0 = b0 ∧ a1 = b1))))) := binD_neq_agg rfl rfl (by kernel_rfl) (eqA_39 a0 b0 a1 b1)
end Xn

