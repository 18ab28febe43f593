/- A part of the proof: L. No conditions of its own. -/
import Derived.Test.YtddfehcpbgfmfaaProg
import Derived.KernelRfl
import Derived.Test.YtddfehcpbgfmfaaT
namespace Xn
open Go Go.Ev Go.Proofs
set_option linter.unusedSimpArgs false
set_option linter.unusedVariables false
set_option linter.defProp false
def bodyOf (f : Func) : Code := f.body.getD .skip
def loopsOf : Code → List Code
  | .seq a b => loopsOf a ++ loopsOf b
  | .cond _ a b => loopsOf a ++ loopsOf b
  | .block _ b => loopsOf b
  | .loop b => b :: loopsOf b
  | _ => []
def dynOf : Nat → List (Nat × List (Nat × Nat))
  | 12 => [(5, [(2, 5), (2, 6), (2, 7), (5, 6), (5, 7), (5, 8), (6, 7)]), (11, [(3, 7), (5, 7)])]
  | 31 => [(1, [(2, 5)])]
  | 41 => [(1, [(1, 8), (3, 8), (5, 8), (6, 8)])]
  | _ => []
def preOf : Nat → List (Nat × List Ghost)
  | 39 => [(5, [.keep [2, 3, 7, 8]]), (10, [.keep [2, 3, 7, 8]])]
  | 40 => [(5, [.weak [17], .keep [1, 4, 7, 17, 18, 19]]), (12, [.keep [1, 4, 7, 17, 18, 19]])]
  | 41 => [(3, [.ownC 3 3 4, .weak [15], .keep [2, 3, 15, 16, 17]]), (7, [.keep [2, 3, 15, 16, 17]])]
  | 23 => [(3, [.weak [7], .keep [3, 7, 8, 9]]), (7, [.keep [3, 7, 8, 9]])]
  | 10 => [(8, [.weak [43], .keep [3, 4, 16, 17, 18, 43, 44, 45]]), (13, [.keep [3, 4, 16, 17, 18, 43, 44, 45]])]
  | 6 => [(5, [.own 11 2, .weak [2], .keep [2, 3, 4, 5, 6, 11, 12]]), (8, [.keep [2, 3, 4, 5, 6, 11, 12]])]
  | 43 => [(0, [.own 0 5]), (5, [.own 8 1, .keep [0, 4, 7, 8, 9]]), (9, [.keep [0, 4, 7, 8, 9]])]
  | 42 => [(1, [.weak [0], .keep [0, 1]]), (3, [.keep [0, 1]])]
  | 25 => [(5, [.weak [0, 1, 2], .keep [0, 1, 2, 3, 4, 12, 13]]), (9, [.keep [0, 1, 2, 3, 4, 12, 13]])]
  | 44 => [(0, [.own 0 5]), (7, [.weak [35], .keep [0, 7, 8, 35, 36, 37]]), (12, [.keep [0, 7, 8, 35, 36, 37]])]
  | 28 => [(4, [.weak [0, 1, 14], .keep [0, 1, 7, 8, 14, 15, 16]]), (11, [.keep [0, 1, 7, 8, 14, 15, 16]])]
  | 29 => [(4, [.weak [3], .keep [3, 4, 5]]), (10, [.keep [3, 4, 5]])]
  | 32 => [(3, [.weak [0], .keep [0, 2, 3, 9, 16, 17, 18]]), (7, [.weak [0], .keep [0, 2, 3, 9, 12, 16, 17, 18]]), (10, [.keep [0, 2, 3, 9, 12, 16, 17, 18]]), (11, [.keep [0, 2, 3, 9, 16, 17, 18]])]
  | 48 => [(1, [.keep [0, 1, 2, 3, 8]]), (2, [.keep [0, 1, 2, 3, 8, 9]]), (4, [.keep [0, 1, 2, 3, 8, 9]])]
  | 58 => [(1, [.keep [0, 2, 3, 4, 10]])]
  | 49 => [(4, [.keep [0, 3, 8, 9, 10, 11]]), (7, [.keep [0, 3, 8, 9, 10, 11]]), (8, [.keep [0, 3, 8, 9, 12]])]
  | 52 => [(2, [.keep [0, 8, 9]])]
  | 53 => [(3, [.keep [0, 1, 2, 3, 9, 10]]), (4, [.keep [0, 1, 2, 3, 9, 10, 12]]), (5, [.keep [0, 1, 2, 3, 9, 10]]), (7, [.keep [0, 1, 2, 3, 9, 10]]), (14, [.keep [0, 1, 2, 3, 9, 10, 11]]), (18, [.keep [0, 1, 2, 3, 9, 10, 11]]), (20, [.keep [0, 1, 2, 3, 9, 10, 12]]), (24, [.keep [0, 1, 2, 3, 9, 10]])]
  | 55 => [(3, [.keep [0, 1, 4, 12, 13]]), (5, [.keep [0, 1, 4, 12, 13], .keep [0, 1, 4, 12, 13]]), (7, [.keep [0, 1, 4, 12, 13]]), (13, [.keep [0, 1, 4, 12, 13], .keep [0, 1, 4, 12, 13]]), (15, [.keep [0, 1, 4, 12, 13], .keep [0, 1, 4, 12, 13]]), (17, [.keep [0, 1, 4, 12, 13]]), (21, [.keep [0, 1, 4, 12, 13]])]
  | 54 => [(3, [.keep [0, 1, 4, 11, 12], .keep [0, 1, 4, 11, 12]]), (5, [.keep [0, 1, 4, 11, 12], .keep [0, 1, 4, 11, 12]]), (7, [.keep [0, 1, 4, 11, 12]]), (11, [.keep [0, 1, 4, 11, 12]])]
  | 50 => [(5, [.keep [0, 1, 8, 9, 10, 11]])]
  | 45 => [(2, [.keep [0, 1, 2, 3, 4, 10, 11]])]
  | 12 => [(9, [.weak [8, 9, 10, 11, 48], .keep [8, 9, 10, 11, 12, 13, 14, 15, 48, 49, 50]]), (13, [.keep [8, 9, 10, 11, 12, 13, 14, 15, 48, 49, 50]]), (16, [.weak [8, 9, 10, 11], .keep [8, 9, 10, 11, 12, 13, 14, 15, 18]]), (22, [.weak [8, 9, 10, 11, 22], .keep [8, 9, 10, 11, 12, 13, 14, 15, 18, 19, 20, 21, 22, 23]]), (28, [.keep [8, 9, 10, 11, 12, 13, 14, 15, 18, 19, 20, 21, 22, 23]]), (30, [.keep [8, 9, 10, 11, 12, 13, 14, 15, 18]])]
  | 35 => [(2, [.weak [0], .keep [0, 1, 2, 7]]), (6, [.keep [0, 1, 2, 7]])]
  | 15 => [(4, [.weak [2, 7, 8], .keep [2, 7, 8, 9]]), (11, [.keep [2, 7, 8, 9]])]
  | 37 => [(5, [.weak [0, 1, 2], .keep [0, 1, 2, 3, 9, 10, 11, 12]]), (13, [.keep [0, 1, 2, 3, 9, 10, 11, 12]])]
  | 36 => [(4, [.own 5 2, .weak [0], .keep [0, 3, 5, 6, 7]]), (10, [.keep [0, 3, 5, 6, 7]])]
  | 13 => [(9, [.freeze 10, .keep [8, 9, 10]]), (10, [.weak [8, 9, 10], .keep [8, 9, 10, 11]]), (16, [.keep [8, 9, 10, 11]])]
  | 14 => [(4, [.weak [0, 1], .keep [0, 1, 5]]), (8, [.keep [0, 1, 5]])]
  | 16 => [(2, [.weak [0], .keep [0, 3, 5]]), (6, [.keep [0, 3, 5]])]
  | 5 => [(9, [.weak [2, 7], .keep [2, 3, 4, 7, 9]]), (13, [.keep [2, 3, 4, 7, 9]]), (14, [.weak [2, 7], .keep [2, 3, 4, 7, 10]]), (20, [.keep [2, 3, 4, 7, 10]])]
  | 17 => [(3, [.keep [1, 3, 4]]), (6, [.keep [1, 3, 4]])]
  | 38 => [(5, [.keep [2, 4, 7, 8]]), (11, [.keep [2, 4, 7, 8]])]
  | 7 => [(6, [.own 6 2, .keep [1, 2, 5, 6, 7]]), (9, [.keep [1, 2, 5, 6, 7]])]
  | _ => []
def A0 : Ann := { okf := fun _ => true, keeps := fun f => [30, 43, 44].contains f, muts := fun f => [31, 33, 43, 44, 45, 48, 49, 50, 51, 52, 53, 54, 55, 58, 60, 61, 62, 63].contains f, ros := fun f => [32].contains f, loud := fun f r => false, pre := fun f r => ((preOf f).lookup r).getD [], clone := fun f => if f == 30 then some 2 else none, dyn := fun f q => (dynOf f).lookup q }
theorem clones : CloneOk Try.prog A0 := by
  intro f sz h call oa cap
  simp only [A0] at h
  split at h
  · rename_i hf
    obtain rfl := Option.some.inj h
    obtain rfl : f = 30 := by simpa using hf
    refine ⟨1, ?_⟩
    cases oa with
    | none => left; kernel_rfl
    | some a => right; kernel_rfl
  cases h
abbrev RG (f q : Nat) (g : List Ghost) (o : Array Oper) (d : Bool) (s : St) : Prop := evW Try.prog A0 f (.region q o d) s = regW Try.prog A0 (d && true) o o.toList (ghostsD g s)
abbrev RY (f q : Nat) (g : List Ghost) (y : List (Nat × Nat)) (o : Array Oper) (s : St) : Prop := evW Try.prog A0 f (.region q o true) s = regY Try.prog A0 (true && true) o y o.toList (ghostsD g s)
theorem r39_0 {o d s} : RG 39 0 [] o d s := w_region
theorem r39_1 {o d s} : RG 39 1 [] o d s := w_region
theorem r39_2 {o d s} : RG 39 2 [] o d s := w_region
theorem r39_3 {o d s} : RG 39 3 [] o d s := w_region
theorem r39_4 {o d s} : RG 39 4 [] o d s := w_region
theorem r39_5 {o d s} : RG 39 5 [.keep [2, 3, 7, 8]] o d s := w_region
theorem r39_7 {o d s} : RG 39 7 [] o d s := w_region
theorem r39_8 {o d s} : RG 39 8 [] o d s := w_region
theorem r39_9 {o d s} : RG 39 9 [] o d s := w_region
theorem r39_6 {o d s} : RG 39 6 [] o d s := w_region
theorem r39_10 {o d s} : RG 39 10 [.keep [2, 3, 7, 8]] o d s := w_region
theorem r19_0 {o d s} : RG 19 0 [] o d s := w_region
theorem r19_1 {o d s} : RG 19 1 [] o d s := w_region
theorem r8_0 {o d s} : RG 8 0 [] o d s := w_region
theorem r8_1 {o d s} : RG 8 1 [] o d s := w_region
theorem r40_0 {o d s} : RG 40 0 [] o d s := w_region
theorem r40_1 {o d s} : RG 40 1 [] o d s := w_region
theorem r40_2 {o d s} : RG 40 2 [] o d s := w_region
theorem r40_3 {o d s} : RG 40 3 [] o d s := w_region
theorem r40_4 {o d s} : RG 40 4 [] o d s := w_region
theorem r40_5 {o d s} : RG 40 5 [.weak [17], .keep [1, 4, 7, 17, 18, 19]] o d s := w_region
theorem r40_6 {o d s} : RG 40 6 [] o d s := w_region
theorem r40_7 {o d s} : RG 40 7 [] o d s := w_region
theorem r40_8 {o d s} : RG 40 8 [] o d s := w_region
theorem r40_9 {o d s} : RG 40 9 [] o d s := w_region
theorem r40_10 {o d s} : RG 40 10 [] o d s := w_region
theorem r40_11 {o d s} : RG 40 11 [] o d s := w_region
theorem r40_12 {o d s} : RG 40 12 [.keep [1, 4, 7, 17, 18, 19]] o d s := w_region
theorem r47_0 {o d s} : RG 47 0 [] o d s := w_region
theorem r47_1 {o d s} : RG 47 1 [] o d s := w_region
theorem r47_2 {o d s} : RG 47 2 [] o d s := w_region
theorem r47_3 {o d s} : RG 47 3 [] o d s := w_region
theorem r47_4 {o d s} : RG 47 4 [] o d s := w_region
theorem r47_5 {o d s} : RG 47 5 [] o d s := w_region
theorem r41_0 {o d s} : RG 41 0 [] o d s := w_region
theorem r41_1 {o s} : RY 41 1 [] [(1, 8), (3, 8), (5, 8), (6, 8)] o s := w_regionY rfl
theorem r41_2 {o d s} : RG 41 2 [] o d s := w_region
theorem r41_3 {o d s} : RG 41 3 [.ownC 3 3 4, .weak [15], .keep [2, 3, 15, 16, 17]] o d s := w_region
theorem r41_4 {o d s} : RG 41 4 [] o d s := w_region
theorem r41_5 {o d s} : RG 41 5 [] o d s := w_region
theorem r41_6 {o d s} : RG 41 6 [] o d s := w_region
theorem r41_7 {o d s} : RG 41 7 [.keep [2, 3, 15, 16, 17]] o d s := w_region
theorem r22_0 {o d s} : RG 22 0 [] o d s := w_region
theorem r22_1 {o d s} : RG 22 1 [] o d s := w_region
theorem r22_2 {o d s} : RG 22 2 [] o d s := w_region
theorem r22_3 {o d s} : RG 22 3 [] o d s := w_region
theorem r22_4 {o d s} : RG 22 4 [] o d s := w_region
theorem r22_5 {o d s} : RG 22 5 [] o d s := w_region
theorem r22_6 {o d s} : RG 22 6 [] o d s := w_region
theorem r23_0 {o d s} : RG 23 0 [] o d s := w_region
theorem r23_1 {o d s} : RG 23 1 [] o d s := w_region
theorem r23_2 {o d s} : RG 23 2 [] o d s := w_region
theorem r23_3 {o d s} : RG 23 3 [.weak [7], .keep [3, 7, 8, 9]] o d s := w_region
theorem r23_4 {o d s} : RG 23 4 [] o d s := w_region
theorem r23_5 {o d s} : RG 23 5 [] o d s := w_region
theorem r23_6 {o d s} : RG 23 6 [] o d s := w_region
theorem r23_7 {o d s} : RG 23 7 [.keep [3, 7, 8, 9]] o d s := w_region
theorem r24_0 {o d s} : RG 24 0 [] o d s := w_region
theorem r24_1 {o d s} : RG 24 1 [] o d s := w_region
theorem r10_0 {o d s} : RG 10 0 [] o d s := w_region
theorem r10_1 {o d s} : RG 10 1 [] o d s := w_region
theorem r10_2 {o d s} : RG 10 2 [] o d s := w_region
theorem r10_3 {o d s} : RG 10 3 [] o d s := w_region
theorem r10_4 {o d s} : RG 10 4 [] o d s := w_region
theorem r10_5 {o d s} : RG 10 5 [] o d s := w_region
theorem r10_6 {o d s} : RG 10 6 [] o d s := w_region
theorem r10_7 {o d s} : RG 10 7 [] o d s := w_region
theorem r10_8 {o d s} : RG 10 8 [.weak [43], .keep [3, 4, 16, 17, 18, 43, 44, 45]] o d s := w_region
theorem r10_9 {o d s} : RG 10 9 [] o d s := w_region
theorem r10_10 {o d s} : RG 10 10 [] o d s := w_region
theorem r10_11 {o d s} : RG 10 11 [] o d s := w_region
theorem r10_12 {o d s} : RG 10 12 [] o d s := w_region
theorem r10_13 {o d s} : RG 10 13 [.keep [3, 4, 16, 17, 18, 43, 44, 45]] o d s := w_region
theorem r6_0 {o d s} : RG 6 0 [] o d s := w_region
theorem r6_1 {o d s} : RG 6 1 [] o d s := w_region
theorem r6_2 {o d s} : RG 6 2 [] o d s := w_region
theorem r6_3 {o d s} : RG 6 3 [] o d s := w_region
theorem r6_4 {o d s} : RG 6 4 [] o d s := w_region
theorem r6_5 {o d s} : RG 6 5 [.own 11 2, .weak [2], .keep [2, 3, 4, 5, 6, 11, 12]] o d s := w_region
theorem r6_7 {o d s} : RG 6 7 [] o d s := w_region
theorem r6_6 {o d s} : RG 6 6 [] o d s := w_region
theorem r6_8 {o d s} : RG 6 8 [.keep [2, 3, 4, 5, 6, 11, 12]] o d s := w_region
theorem r6_9 {o d s} : RG 6 9 [] o d s := w_region
theorem r6_10 {o d s} : RG 6 10 [] o d s := w_region
def bs := And.intro @w_seq (And.intro @ghosts_nil (And.intro @regW_some (And.intro @regY_some (And.intro @doneY_some (And.intro @ops_move (And.intro @ops_assign (And.intro @ops_bin (And.intro @ops_load (And.intro @ops_indexAddr (And.intro @ops_len (And.intro @ops_store (And.intro @ops_call (And.intro @opsP_some (And.intro @opsQ_none (And.intro @opsQ_some (And.intro @opsQ_loud (And.intro @ops_nil (And.intro @doneW_some (And.intro @seqW_normal (And.intro @seqW_ret (And.intro @seqW_exit (And.intro @w_cond (And.intro @w_block (And.intro @condW_true (And.intro @condW_false (And.intro @evalO_tmp (And.intro @evalO_const (And.intro @evalO_func (And.intro @ofVal_int (And.intro @ofVal_bool (And.intro @ofVal_nil (And.intro @ofVal_str (And.intro @set8 (And.intro @getD8 (And.intro @List.set_cons_succ.{0} (And.intro @List.set_cons_zero.{0} (And.intro @List.getD_cons_succ.{0} (And.intro @List.getD_cons_zero.{0} (And.intro @binN_tmp (And.intro @binN_int (And.intro @binN_bool (And.intro @binN_str (And.intro @binD_add (And.intro @binD_sub (And.intro @binD_mul (And.intro @binD_lss (And.intro @binD_leq (And.intro @binD_gtr (And.intro @binD_geq (And.intro @binD_eql (And.intro @binD_neq (And.intro @boolD_bv (And.intro @Option.map_some.{0, 0} (And.intro @blockW_normal (And.intro @blockW_ret (And.intro @blockW_exit (And.intro @blockW_other (And.intro @Bool.false_and (And.intro @Bool.and_false (And.intro @Bool.and_true (And.intro @Bool.true_and (And.intro @Bool.not_true (And.intro @Bool.not_false (And.intro @decide_true (And.intro @decide_false (And.intro @ops_guard (And.intro @opsG_true (And.intro @opsG_false (And.intro @wantT_some (And.intro @yield_bv (And.intro @yield_undef (And.intro @putD_some (And.intro @putD_none (And.intro @beq_true' (And.intro @beq_false' (And.intro @List.getElem?_toArray.{0} (And.intro @List.getElem?_cons_succ.{0} (And.intro @List.getElem?_cons_zero.{0} (And.intro @Option.bind_some.{0, 0} (And.intro @Option.bind_none.{0, 0} (And.intro @Option.map_none.{0, 0} (And.intro @ops_pick (And.intro @List.length_cons.{0} (And.intro @List.length_nil.{0} (And.intro @List.cons_append.{0} (And.intro @List.nil_append.{0} (And.intro @ldOb_arr (And.intro @ldOb_frz (And.intro @callV_fn (And.intro @pickD_true (And.intro @pickD_false (And.intro @ops_un (And.intro @unD_not (And.intro @ops_max (And.intro @ops_min (And.intro @ops_bs (And.intro @ops_append (And.intro @ops_make (And.intro @ops_slice (And.intro @ops_extract (And.intro @ops_fieldAddr (And.intro @ops_field (And.intro @ops_build (And.intro @ops_alloc (And.intro @ops_box (And.intro @ops_index (And.intro @ops_conv (And.intro @boxD_leaf (And.intro @boxD_agg (And.intro @boxD_str (And.intro @boxD_bool (And.intro @boxD_lst (And.intro @boxD_ref (And.intro @if_true.{1} (And.intro @if_false.{1} (And.intro @evW_skip (And.intro @evW_exit (And.intro @evW_ret (And.intro @callV_func (And.intro @List.map_cons.{0, 0} (And.intro @List.map_nil.{0, 0} (@Wp_some))))))))))))))))))))))))))))))))))))))))))))))))))))))))))))))))))))))))))))))))))))))))))))))))))))))))))))))))))))))))))
def rs39 := And.intro @r39_0 (And.intro @r39_1 (And.intro @r39_2 (And.intro @r39_3 (And.intro @r39_4 (And.intro @r39_5 (And.intro @r39_7 (And.intro @r39_8 (And.intro @r39_9 (And.intro @r39_6 (@r39_10))))))))))
def rs19 := And.intro @r19_0 (@r19_1)
def rs8 := And.intro @r8_0 (@r8_1)
def rs40 := And.intro @r40_0 (And.intro @r40_1 (And.intro @r40_2 (And.intro @r40_3 (And.intro @r40_4 (And.intro @r40_5 (And.intro @r40_6 (And.intro @r40_7 (And.intro @r40_8 (And.intro @r40_9 (And.intro @r40_10 (And.intro @r40_11 (@r40_12))))))))))))
def rs47 := And.intro @r47_0 (And.intro @r47_1 (And.intro @r47_2 (And.intro @r47_3 (And.intro @r47_4 (@r47_5)))))
def rs41 := And.intro @r41_0 (And.intro @r41_1 (And.intro @r41_2 (And.intro @r41_3 (And.intro @r41_4 (And.intro @r41_5 (And.intro @r41_6 (@r41_7)))))))
def rs22 := And.intro @r22_0 (And.intro @r22_1 (And.intro @r22_2 (And.intro @r22_3 (And.intro @r22_4 (And.intro @r22_5 (@r22_6))))))
def rs23 := And.intro @r23_0 (And.intro @r23_1 (And.intro @r23_2 (And.intro @r23_3 (And.intro @r23_4 (And.intro @r23_5 (And.intro @r23_6 (@r23_7)))))))
def rs24 := And.intro @r24_0 (@r24_1)
def rs10 := And.intro @r10_0 (And.intro @r10_1 (And.intro @r10_2 (And.intro @r10_3 (And.intro @r10_4 (And.intro @r10_5 (And.intro @r10_6 (And.intro @r10_7 (And.intro @r10_8 (And.intro @r10_9 (And.intro @r10_10 (And.intro @r10_11 (And.intro @r10_12 (@r10_13)))))))))))))
def rs6 := And.intro @r6_0 (And.intro @r6_1 (And.intro @r6_2 (And.intro @r6_3 (And.intro @r6_4 (And.intro @r6_5 (And.intro @r6_7 (And.intro @r6_6 (And.intro @r6_8 (And.intro @r6_9 (@r6_10))))))))))
theorem a25 : aggT Try.prog 25 = some true := by kernel_rfl
theorem z25 : szOf Try.prog 25 = some 4 := by kernel_rfl
theorem a23 : aggT Try.prog 23 = some false := by kernel_rfl
theorem u23 : Try.prog.underlying 23 = some (.slice 25) := Try.underlying23
theorem u26 : Try.prog.underlying 26 = some (.slice 39) := Try.underlying26
theorem z39 : szOf Try.prog 39 = some 2 := by kernel_rfl
theorem a3 : aggT Try.prog 3 = some false := by kernel_rfl
theorem b39 : bytesOf Try.prog 39 = some 16 := by kernel_rfl
theorem zc39 : zeroCs Try.prog 39 = some [.v (.int .i64 (0 : Int)), .v (.int .i64 (0 : Int))] := by kernel_rfl
theorem a9 : aggT Try.prog 9 = some false := by kernel_rfl
theorem a22 : aggT Try.prog 22 = some false := by kernel_rfl
theorem u22 : Try.prog.underlying 22 = some (.slice 9) := Try.underlying22
theorem z9 : szOf Try.prog 9 = some 1 := by kernel_rfl
theorem b9 : bytesOf Try.prog 9 = some 16 := by kernel_rfl
theorem zc9 : zeroCs Try.prog 9 = some [.v (.string ByteArray.empty)] := by kernel_rfl
theorem b25 : bytesOf Try.prog 25 = some 72 := by kernel_rfl
theorem zc25 : zeroCs Try.prog 25 = some [.v (.int .i64 (0 : Int)), .v (.string ByteArray.empty), .lst true 0 [], .lst true 0 []] := by kernel_rfl
theorem z23 : szOf Try.prog 23 = some 1 := by kernel_rfl
theorem a39 : aggT Try.prog 39 = some true := by kernel_rfl
theorem z3 : szOf Try.prog 3 = some 1 := by kernel_rfl
theorem b3 : bytesOf Try.prog 3 = some 8 := by kernel_rfl
theorem varlv_4_0_4 {c0 c1 c2 c3 : Pv} : lkOb (some (.var [.p c0, .p c1, .p c2, .p c3])) 0 4 = some (.p (.agg [c0, c1, c2, c3])) := rfl
theorem faP_25_3 {id o : Nat} : fieldAddrD Try.prog 25 (.ptr id o) 3 = some (.ptr id (o + 3)) := by kernel_rfl
theorem varld_4_0_3 {c0 c1 c2 c3 : Dv} : ldOb (some (.var [c0, c1, c2, c3])) (0 + 3) = some c3 := rfl
theorem idxL_23 {full : Bool} {l : List Node} {i : Int} (h0 : 0 ≤ i) (h1 : i < (l.length : Int)) : idxD Try.prog 23 (.p (.lst full l.length (encL en_Node l))) (.p (.v (.int .i64 i))) = some (.p (.iptr (encL en_Node l) (i.toNat * 4))) := idx_lst u23 z25 (by decide) en_Node_len h0 h1
theorem lk_frz_25 {l : List Node} {i : Int} {v : Node} (h : rd l i = some v) : lkOb (some (.frz (encL en_Node l))) (i.toNat * 4) 4 = some (.p (.agg [.v (.int .i64 v.Kind), .v (.string v.Text), .lst false v.Gaps.length (encL en_str v.Gaps), .lst false v.Kids.length (encL en_Node v.Kids)])) := (lkOb_frz en_Node_len h).trans (by rw [en_Node_eq])
theorem idxL_26 {full : Bool} {l : List Pair} {i : Int} (h0 : 0 ≤ i) (h1 : i < (l.length : Int)) : idxD Try.prog 26 (.p (.lst full l.length (encL en_Pair l))) (.p (.v (.int .i64 i))) = some (.p (.iptr (encL en_Pair l) (i.toNat * 2))) := idx_lst u26 z39 (by decide) en_Pair_len h0 h1
theorem faI_39_1 {cs : List Pv} {o : Nat} : fieldAddrD Try.prog 39 (.p (.iptr cs o)) 1 = some (.p (.iptr cs (o + 1))) := by kernel_rfl
theorem ce_39__1 {l : List Pair} {i : Int} {v : Pair} (h : rd l i = some v) : (encL en_Pair l)[i.toNat * 2 + 1]? = some (.v (.int .i64 v.New)) := (encL_cell en_Pair_len h (k := 1) (by decide)).trans (by rw [en_Pair_eq]; rfl)
theorem faI_39_0 {cs : List Pv} {o : Nat} : fieldAddrD Try.prog 39 (.p (.iptr cs o)) 0 = some (.p (.iptr cs (o + 0))) := by kernel_rfl
theorem ce_39__0 {l : List Pair} {i : Int} {v : Pair} (h : rd l i = some v) : (encL en_Pair l)[i.toNat * 2 + 0]? = some (.v (.int .i64 v.Old)) := (encL_cell en_Pair_len h (k := 0) (by decide)).trans (by rw [en_Pair_eq]; rfl)
theorem bu_39_0_1 {p0_0 : Int} {p1_0 : Int} : buildD Try.prog 39 [(0, .p (.v (.int .i64 p0_0))), (1, .p (.v (.int .i64 p1_0)))] = some (.p (.agg [.v (.int .i64 p0_0), .v (.int .i64 p1_0)])) := by kernel_rfl
theorem bs_26_1 {p0_0 : Int} {p0_1 : Int} {H : List Ob} : bsD Try.prog H 26 1 [(0, .p (.agg [.v (.int .i64 p0_0), .v (.int .i64 p0_1)]))] = some (.p (.lst true 1 [.v (.int .i64 p0_0), .v (.int .i64 p0_1)]), none) := by kernel_rfl
theorem ap_26_26 {H : List Ob} {id off esz n m : Nat} {full : Bool} {new : List Pv} : appendD Try.prog H #[26, 26] (.ref id off n esz) (.p (.lst full m new)) = apOb H id off n m esz 2 16 new H[id]? := appendD_ap u26 u26 z39 b39 zc39 ⟨by decide, by decide, rfl⟩
theorem al_25 {H : List Ob} : allocD Try.prog 25 H = some (.ptr H.length 0, some (H ++ [.var [iv (0 : Int), .p (.v (.string ByteArray.empty)), .p (.lst true 0 []), .p (.lst true 0 [])]])) := by kernel_rfl
theorem bu_25_  : buildD Try.prog 25 [] = some (.p (.agg [.v (.int .i64 (0 : Int)), .v (.string ByteArray.empty), .lst true 0 [], .lst true 0 []])) := by kernel_rfl
theorem sa_4_0_4 {H : List Ob} {id : Nat} {c0 c1 c2 c3 : Dv} {d0 d1 d2 d3 : Pv} : staOb H id 0 4 [d0, d1, d2, d3] (some (.var [c0, c1, c2, c3])) = some (H.set id (.var [(.p d0), (.p d1), (.p d2), (.p d3)])) := by simp [staOb, setAt]
theorem ex_3_0 {c0 c1 c2 : Pv} : extractD (.p (.tup [c0, c1, c2])) 0 = some (.p c0) := rfl
theorem ex_3_1 {c0 c1 c2 : Pv} : extractD (.p (.tup [c0, c1, c2])) 1 = some (.p c1) := rfl
theorem ex_3_2 {c0 c1 c2 : Pv} : extractD (.p (.tup [c0, c1, c2])) 2 = some (.p c2) := rfl
theorem faP_25_0 {id o : Nat} : fieldAddrD Try.prog 25 (.ptr id o) 0 = some (.ptr id (o + 0)) := by kernel_rfl
theorem varld_4_0_0 {c0 c1 c2 c3 : Dv} : ldOb (some (.var [c0, c1, c2, c3])) (0 + 0) = some c0 := rfl
theorem faP_25_1 {id o : Nat} : fieldAddrD Try.prog 25 (.ptr id o) 1 = some (.ptr id (o + 1)) := by kernel_rfl
theorem varld_4_0_1 {c0 c1 c2 c3 : Dv} : ldOb (some (.var [c0, c1, c2, c3])) (0 + 1) = some c1 := rfl
theorem faP_25_2 {id o : Nat} : fieldAddrD Try.prog 25 (.ptr id o) 2 = some (.ptr id (o + 2)) := by kernel_rfl
theorem varld_4_0_2 {c0 c1 c2 c3 : Dv} : ldOb (some (.var [c0, c1, c2, c3])) (0 + 2) = some c2 := rfl
theorem mk_22 {H : List Ob} {n : Int} (h0 : 0 ≤ n) (h1 : n * 16 ≤ 140737488355328) : makeD Try.prog H 22 (.p (.v (.int .i64 n))) (.p (.v (.int .i64 n))) = some (.ref H.length 0 (List.replicate n.toNat (ByteArray.empty)).length 1, H ++ [.arr (encL en_str (List.replicate n.toNat (ByteArray.empty)))]) := make_enc u22 z9 b9 (by rw [en_str_eq]; exact zc9) ⟨by decide, by decide, en_str_len _⟩ h0 h1
theorem cp_22 {H : List Ob} {t2 id n : Nat} {x y : List ByteArray} {full : Bool} (hid : H[id]? = some (.arr (encL en_str x))) (hn : n = x.length) : copyD Try.prog H #[22, t2] (.ref id 0 n 1) (.p (.lst full y.length (encL en_str y))) = some (.p (.v (.int .i64 ((Nat.min y.length x.length : Nat) : Int))), H.set id (.arr (encL en_str (cpL x y)))) := copy_enc u22 z9 (by decide) en_str_len hid hn
theorem bu_25_0_1_2 {p0_0 : Int} {p1_0 : ByteArray} {p2_0f : Bool} {p2_0n : Nat} {p2_0c : List Pv} : buildD Try.prog 25 [(0, .p (.v (.int .i64 p0_0))), (1, .p (.v (.string p1_0))), (2, .p (.lst p2_0f p2_0n p2_0c))] = some (.p (.agg [.v (.int .i64 p0_0), .v (.string p1_0), .lst p2_0f p2_0n p2_0c, .lst true 0 []])) := by kernel_rfl
theorem bs_23_1 {p0_0 : Int} {p0_1 : ByteArray} {p0_2f : Bool} {p0_2n : Nat} {p0_2c : List Pv} {p0_3f : Bool} {p0_3n : Nat} {p0_3c : List Pv} {H : List Ob} : bsD Try.prog H 23 1 [(0, .p (.agg [.v (.int .i64 p0_0), .v (.string p0_1), .lst p0_2f p0_2n p0_2c, .lst p0_3f p0_3n p0_3c]))] = some (.p (.lst true 1 [.v (.int .i64 p0_0), .v (.string p0_1), .lst false p0_2n (wks p0_2c), .lst false p0_3n (wks p0_3c)]), none) := by kernel_rfl
theorem ap_23_23 {H : List Ob} {id off esz n m : Nat} {full : Bool} {new : List Pv} : appendD Try.prog H #[23, 23] (.ref id off n esz) (.p (.lst full m new)) = apOb H id off n m esz 4 72 new H[id]? := appendD_ap u23 u23 z25 b25 zc25 ⟨by decide, by decide, rfl⟩
theorem sg_4_0_3_r {H : List Ob} {id : Nat} {c0 c1 c2 c3 : Dv} {i0 o0 n0 e0 : Nat} : stgOb H id (0 + 3) 1 [.ref i0 o0 n0 e0] (some (.var [c0, c1, c2, c3])) = some (H.set id (.var [c0, c1, c2, .ref i0 o0 n0 e0])) := by simp [stgOb, setAt]
theorem varlg_pppr {c0 c1 c2 : Pv} {i3 o3 n3 e3 : Nat} : lkOb (some (.var [.p c0, .p c1, .p c2, .ref i3 o3 n3 e3])) 0 4 = some (.agg [.p c0, .p c1, .p c2, .ref i3 o3 n3 e3]) := rfl
theorem sg_4_0_pppr {H : List Ob} {id : Nat} {c0 c1 c2 c3 : Dv} {d0 d1 d2 : Pv} {i3 o3 n3 e3 : Nat} : stgOb H id 0 4 [.p d0, .p d1, .p d2, .ref i3 o3 n3 e3] (some (.var [c0, c1, c2, c3])) = some (H.set id (.var [.p d0, .p d1, .p d2, .ref i3 o3 n3 e3])) := by simp [stgOb, setAt]
theorem ex_2_0 {c0 c1 : Pv} : extractD (.p (.tup [c0, c1])) 0 = some (.p c0) := rfl
theorem ex_2_1 {c0 c1 : Pv} : extractD (.p (.tup [c0, c1])) 1 = some (.p c1) := rfl
theorem lk_frz_39 {l : List Pair} {i : Int} {v : Pair} (h : rd l i = some v) : lkOb (some (.frz (encL en_Pair l))) (i.toNat * 2) 2 = some (.p (.agg [.v (.int .i64 v.Old), .v (.int .i64 v.New)])) := (lkOb_frz en_Pair_len h).trans (by rw [en_Pair_eq])
theorem al_39 {H : List Ob} : allocD Try.prog 39 H = some (.ptr H.length 0, some (H ++ [.var [iv (0 : Int), iv (0 : Int)]])) := by kernel_rfl
theorem sa_2_0_2 {H : List Ob} {id : Nat} {c0 c1 : Dv} {d0 d1 : Pv} : staOb H id 0 2 [d0, d1] (some (.var [c0, c1])) = some (H.set id (.var [(.p d0), (.p d1)])) := by simp [staOb, setAt]
theorem faP_39_0 {id o : Nat} : fieldAddrD Try.prog 39 (.ptr id o) 0 = some (.ptr id (o + 0)) := by kernel_rfl
theorem varld_2_0_0 {c0 c1 : Dv} : ldOb (some (.var [c0, c1])) (0 + 0) = some c0 := rfl
theorem faP_39_1 {id o : Nat} : fieldAddrD Try.prog 39 (.ptr id o) 1 = some (.ptr id (o + 1)) := by kernel_rfl
theorem varld_2_0_1 {c0 c1 : Dv} : ldOb (some (.var [c0, c1])) (0 + 1) = some c1 := rfl
end Xn

