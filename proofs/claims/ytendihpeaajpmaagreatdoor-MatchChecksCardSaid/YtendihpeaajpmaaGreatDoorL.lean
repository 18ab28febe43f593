/- A part of the proof: L. No conditions of its own. -/
import Derived.Test.YtendihpeaajpmaaGreatDoorProg
import Derived.KernelRfl
import Derived.Test.YtendihpeaajpmaaGreatDoorT
namespace Xr
open Go Go.Ev Go.Proofs
set_option linter.unusedSimpArgs false
set_option linter.unusedVariables false
set_option linter.defProp false
set_option maxRecDepth 20000
def bodyOf (f : Func) : Code := f.body.getD .skip
def loopsOf : Code → List Code
 | .seq a b => loopsOf a ++ loopsOf b
 | .cond _ a b => loopsOf a ++ loopsOf b
 | .block _ b => loopsOf b
 | .loop b => b :: loopsOf b
 | _ => []
noncomputable instance gl : Gl := ⟨fun g => none, fun t => ([69, 136] : List Nat).contains t⟩
theorem im_ (t : TypeId) (h : ([69, 136] : List Nat).contains t = false := by kernel_rfl) : Gl.isMap t = false := h
def dynOf : Nat → List (Nat × List (Nat × Nat))
 | 47 => [(5, [(2, 5), (2, 6), (2, 7), (5, 6), (5, 7), (5, 8), (6, 7)]), (11, [(3, 7), (5, 7)])]
 | 72 => [(3, [(0, 4), (0, 5), (1, 4), (1, 5), (2, 4), (2, 5), (3, 4), (3, 5), (4, 5)]), (21, [(1, 8), (3, 8), (5, 8), (7, 8)]), (28, [(0, 5), (0, 6), (0, 7), (2, 3), (2, 5), (2, 6), (2, 7), (3, 6), (3, 7), (3, 8), (5, 6), (5, 7), (5, 8), (6, 7)])]
 | 76 => [(1, [(2, 5)])]
 | 100 => [(1, [(0, 7), (1, 7), (2, 7), (3, 7), (4, 7), (5, 7)])]
 | 102 => [(7, [(2, 5)])]
 | _ => []
def lpOf : Nat → List (Nat × List (Nat × Nat))
 | 12 => [(2, [(7, 11)])]
 | 22 => [(5, [(2, 10)])]
 | 33 => [(6, [(3, 9), (3, 12)]), (12, [(3, 9), (3, 12)])]
 | 45 => [(6, [(2, 13), (5, 13), (7, 13)])]
 | 101 => [(17, [(2, 15), (5, 15)]), (18, [(0, 9)])]
 | _ => []
def preOf : Nat → List (Nat × List Ghost)
 | 24 => [(5, [.keep [1, 2, 3, 7]]), (8, [.keep [1, 2, 3, 7]])]
 | 14 => [(2, [.weak [8], .keep [1, 8, 9, 10]]), (7, [.keep [1, 8, 9, 10]])]
 | 15 => [(2, [.weak [0], .keep [0, 1, 6]]), (6, [.keep [0, 1, 6]])]
 | 44 => [(0, [.own 0 5]), (7, [.weak [35], .keep [0, 7, 8, 35, 36, 37]]), (12, [.keep [0, 7, 8, 35, 36, 37]])]
 | 16 => [(5, [.weak [7, 8, 20], .keep [3, 4, 7, 8, 9, 10, 20, 21, 22]]), (13, [.keep [3, 4, 7, 8, 9, 10, 20, 21, 22]])]
 | 50 => [(0, [.own 0 5]), (5, [.own 8 1, .keep [0, 4, 7, 8, 9]]), (9, [.keep [0, 4, 7, 8, 9]])]
 | 41 => [(2, [.weak [0], .keep [0, 1, 5]]), (6, [.keep [0, 1, 5]])]
 | 17 => [(4, [.weak [2, 7, 8], .keep [2, 3, 4, 7, 8, 9]]), (11, [.keep [2, 3, 4, 7, 8, 9]])]
 | 45 => [(4, [.freeze 7])]
 | 114 => [(5, [.vary 5])]
 | 70 => [(2, [.pack 11])]
 | 67 => [(4, [.pack 6])]
 | _ => []
def A0 : Ann := { okf := fun _ => true, keeps := fun f => [27, 44, 50, 67, 68, 70].contains f, muts := fun f => [29, 33, 44, 50, 68, 70].contains f, ros := fun f => [].contains f, loud := fun f r => ([(12, 2), (12, 2), (45, 6), (45, 6), (45, 7), (67, 10), (68, 6)] : List (Nat × Nat)).contains (f, r), pre := fun f r => ((preOf f).lookup r).getD [], clone := fun f => none, dyn := fun f q => (dynOf f).lookup q, lp := fun f q => (lpOf f).lookup q, full := fun f => ([68] : List Nat).contains f }
theorem clones : CloneOk Tryz.prog A0 := fun f sz h => by cases h
theorem exts : ExtOk Tryz.prog A0 := fun f k h => by cases h
abbrev RG (f q : Nat) (g : List Ghost) (o : Array Oper) (d : Bool) (s : St) : Prop := evW Tryz.prog A0 f (.region q o d) s = regW Tryz.prog A0 (d && true) o o.toList (ghostsD g s)
theorem r24_0 {o d s} : RG 24 0 [] o d s := w_region
theorem r24_1 {o d s} : RG 24 1 [] o d s := w_region
theorem r24_2 {o d s} : RG 24 2 [] o d s := w_region
theorem r24_3 {o d s} : RG 24 3 [] o d s := w_region
theorem r24_4 {o d s} : RG 24 4 [] o d s := w_region
theorem r24_5 {o d s} : RG 24 5 [.keep [1, 2, 3, 7]] o d s := w_region
theorem r24_7 {o d s} : RG 24 7 [] o d s := w_region
theorem r24_6 {o d s} : RG 24 6 [] o d s := w_region
theorem r24_8 {o d s} : RG 24 8 [.keep [1, 2, 3, 7]] o d s := w_region
theorem r9_0 {o d s} : RG 9 0 [] o d s := w_region
theorem r9_1 {o d s} : RG 9 1 [] o d s := w_region
theorem r14_0 {o d s} : RG 14 0 [] o d s := w_region
theorem r14_1 {o d s} : RG 14 1 [] o d s := w_region
theorem r14_2 {o d s} : RG 14 2 [.weak [8], .keep [1, 8, 9, 10]] o d s := w_region
theorem r14_3 {o d s} : RG 14 3 [] o d s := w_region
theorem r14_4 {o d s} : RG 14 4 [] o d s := w_region
theorem r14_5 {o d s} : RG 14 5 [] o d s := w_region
theorem r14_6 {o d s} : RG 14 6 [] o d s := w_region
theorem r14_7 {o d s} : RG 14 7 [.keep [1, 8, 9, 10]] o d s := w_region
theorem r15_0 {o d s} : RG 15 0 [] o d s := w_region
theorem r15_1 {o d s} : RG 15 1 [] o d s := w_region
theorem r15_2 {o d s} : RG 15 2 [.weak [0], .keep [0, 1, 6]] o d s := w_region
theorem r15_4 {o d s} : RG 15 4 [] o d s := w_region
theorem r15_5 {o d s} : RG 15 5 [] o d s := w_region
theorem r15_3 {o d s} : RG 15 3 [] o d s := w_region
theorem r15_6 {o d s} : RG 15 6 [.keep [0, 1, 6]] o d s := w_region
theorem r66_0 {o d s} : RG 66 0 [] o d s := w_region
theorem r66_1 {o d s} : RG 66 1 [] o d s := w_region
theorem r66_2 {o d s} : RG 66 2 [] o d s := w_region
theorem r66_3 {o d s} : RG 66 3 [] o d s := w_region
theorem r66_4 {o d s} : RG 66 4 [] o d s := w_region
theorem r66_5 {o d s} : RG 66 5 [] o d s := w_region
theorem r44_0 {o d s} : RG 44 0 [.own 0 5] o d s := w_region
theorem r44_1 {o d s} : RG 44 1 [] o d s := w_region
theorem r44_2 {o d s} : RG 44 2 [] o d s := w_region
theorem r44_3 {o d s} : RG 44 3 [] o d s := w_region
theorem r44_4 {o d s} : RG 44 4 [] o d s := w_region
theorem r44_5 {o d s} : RG 44 5 [] o d s := w_region
theorem r44_6 {o d s} : RG 44 6 [] o d s := w_region
theorem r44_7 {o d s} : RG 44 7 [.weak [35], .keep [0, 7, 8, 35, 36, 37]] o d s := w_region
theorem r44_8 {o d s} : RG 44 8 [] o d s := w_region
theorem r44_9 {o d s} : RG 44 9 [] o d s := w_region
theorem r44_10 {o d s} : RG 44 10 [] o d s := w_region
theorem r44_11 {o d s} : RG 44 11 [] o d s := w_region
theorem r44_12 {o d s} : RG 44 12 [.keep [0, 7, 8, 35, 36, 37]] o d s := w_region
theorem r44_13 {o d s} : RG 44 13 [] o d s := w_region
theorem r26_0 {o d s} : RG 26 0 [] o d s := w_region
theorem r26_1 {o d s} : RG 26 1 [] o d s := w_region
theorem r16_0 {o d s} : RG 16 0 [] o d s := w_region
theorem r16_1 {o d s} : RG 16 1 [] o d s := w_region
theorem r16_2 {o d s} : RG 16 2 [] o d s := w_region
theorem r16_3 {o d s} : RG 16 3 [] o d s := w_region
theorem r16_4 {o d s} : RG 16 4 [] o d s := w_region
theorem r16_5 {o d s} : RG 16 5 [.weak [7, 8, 20], .keep [3, 4, 7, 8, 9, 10, 20, 21, 22]] o d s := w_region
theorem r16_6 {o d s} : RG 16 6 [] o d s := w_region
theorem r16_7 {o d s} : RG 16 7 [] o d s := w_region
theorem r16_8 {o d s} : RG 16 8 [] o d s := w_region
theorem r16_9 {o d s} : RG 16 9 [] o d s := w_region
theorem r16_10 {o d s} : RG 16 10 [] o d s := w_region
theorem r16_11 {o d s} : RG 16 11 [] o d s := w_region
theorem r16_12 {o d s} : RG 16 12 [] o d s := w_region
theorem r16_13 {o d s} : RG 16 13 [.keep [3, 4, 7, 8, 9, 10, 20, 21, 22]] o d s := w_region
theorem r16_14 {o d s} : RG 16 14 [] o d s := w_region
theorem r16_15 {o d s} : RG 16 15 [] o d s := w_region
theorem r50_0 {o d s} : RG 50 0 [.own 0 5] o d s := w_region
theorem r50_1 {o d s} : RG 50 1 [] o d s := w_region
theorem r50_2 {o d s} : RG 50 2 [] o d s := w_region
theorem r50_3 {o d s} : RG 50 3 [] o d s := w_region
theorem r50_4 {o d s} : RG 50 4 [] o d s := w_region
theorem r50_5 {o d s} : RG 50 5 [.own 8 1, .keep [0, 4, 7, 8, 9]] o d s := w_region
theorem r50_7 {o d s} : RG 50 7 [] o d s := w_region
theorem r50_8 {o d s} : RG 50 8 [] o d s := w_region
theorem r50_6 {o d s} : RG 50 6 [] o d s := w_region
theorem r50_9 {o d s} : RG 50 9 [.keep [0, 4, 7, 8, 9]] o d s := w_region
theorem r50_10 {o d s} : RG 50 10 [] o d s := w_region
theorem r34_0 {o d s} : RG 34 0 [] o d s := w_region
theorem r34_1 {o d s} : RG 34 1 [] o d s := w_region
theorem r34_2 {o d s} : RG 34 2 [] o d s := w_region
theorem r41_0 {o d s} : RG 41 0 [] o d s := w_region
theorem r41_1 {o d s} : RG 41 1 [] o d s := w_region
theorem r41_2 {o d s} : RG 41 2 [.weak [0], .keep [0, 1, 5]] o d s := w_region
theorem r41_4 {o d s} : RG 41 4 [] o d s := w_region
theorem r41_5 {o d s} : RG 41 5 [] o d s := w_region
theorem r41_3 {o d s} : RG 41 3 [] o d s := w_region
theorem r41_6 {o d s} : RG 41 6 [.keep [0, 1, 5]] o d s := w_region
theorem r17_0 {o d s} : RG 17 0 [] o d s := w_region
theorem r17_1 {o d s} : RG 17 1 [] o d s := w_region
theorem r17_2 {o d s} : RG 17 2 [] o d s := w_region
theorem r17_3 {o d s} : RG 17 3 [] o d s := w_region
theorem r17_4 {o d s} : RG 17 4 [.weak [2, 7, 8], .keep [2, 3, 4, 7, 8, 9]] o d s := w_region
theorem r17_6 {o d s} : RG 17 6 [] o d s := w_region
theorem r17_7 {o d s} : RG 17 7 [] o d s := w_region
theorem r17_8 {o d s} : RG 17 8 [] o d s := w_region
theorem r17_9 {o d s} : RG 17 9 [] o d s := w_region
theorem r17_10 {o d s} : RG 17 10 [] o d s := w_region
theorem r17_5 {o d s} : RG 17 5 [] o d s := w_region
theorem r17_11 {o d s} : RG 17 11 [.keep [2, 3, 4, 7, 8, 9]] o d s := w_region
theorem r17_12 {o d s} : RG 17 12 [] o d s := w_region
theorem r17_13 {o d s} : RG 17 13 [] o d s := w_region
theorem r4_0 {o d s} : RG 4 0 [] o d s := w_region
theorem r4_1 {o d s} : RG 4 1 [] o d s := w_region
theorem r4_2 {o d s} : RG 4 2 [] o d s := w_region
theorem r4_3 {o d s} : RG 4 3 [] o d s := w_region
theorem r4_4 {o d s} : RG 4 4 [] o d s := w_region
theorem r4_5 {o d s} : RG 4 5 [] o d s := w_region
def bs := And.intro @w_seq (And.intro @ghosts_nil (And.intro @regW_some (And.intro @regY_some (And.intro @doneY_some (And.intro @regZ_some (And.intro @doneZ_some (And.intro @ops_move (And.intro @ops_assign (And.intro @ops_bin (And.intro @ops_load (And.intro @ops_indexAddr (And.intro @ops_len (And.intro @ops_store (And.intro @ops_call (And.intro @opsP_some (And.intro @opsQ_none (And.intro @opsQ_some (And.intro @opsQ_loud (And.intro @ops_nil (And.intro @doneW_some (And.intro @seqW_normal (And.intro @seqW_ret (And.intro @seqW_exit (And.intro @w_cond (And.intro @w_block (And.intro @condW_true (And.intro @condW_false (And.intro @evalO_tmp (And.intro @evalO_const (And.intro @evalO_func (And.intro @ofVal_int (And.intro @ofVal_bool (And.intro @ofVal_nil (And.intro @ofVal_str (And.intro @set8 (And.intro @getD8 (And.intro @List.set_cons_succ.{0} (And.intro @List.set_cons_zero.{0} (And.intro @List.getD_cons_succ.{0} (And.intro @List.getD_cons_zero.{0} (And.intro @binN_tmp (And.intro @binN_int (And.intro @binN_bool (And.intro @binN_str (And.intro @binD_add (And.intro @binD_sub (And.intro @binD_mul (And.intro @binD_lss (And.intro @binD_leq (And.intro @binD_gtr (And.intro @binD_geq (And.intro @binD_eql (And.intro @binD_neq (And.intro @boolD_bv (And.intro @Option.map_some.{0, 0} (And.intro @blockW_normal (And.intro @blockW_ret (And.intro @blockW_exit (And.intro @blockW_other (And.intro @Bool.false_and (And.intro @Bool.and_false (And.intro @Bool.and_true (And.intro @Bool.true_and (And.intro @Bool.not_true (And.intro @Bool.not_false (And.intro @decide_true (And.intro @decide_false (And.intro @ops_guard (And.intro @opsG_true (And.intro @opsG_false (And.intro @wantT_some (And.intro @yield_bv (And.intro @yield_undef (And.intro @putD_some (And.intro @putD_none (And.intro @beq_true' (And.intro @beq_false' (And.intro @List.getElem?_toArray.{0} (And.intro @List.getElem?_cons_succ.{0} (And.intro @List.getElem?_cons_zero.{0} (And.intro @Option.bind_some.{0, 0} (And.intro @Option.bind_none.{0, 0} (And.intro @Option.map_none.{0, 0} (And.intro @ops_pick (And.intro @List.length_cons.{0} (And.intro @List.length_nil.{0} (And.intro @List.cons_append.{0} (And.intro @List.nil_append.{0} (And.intro @ldOb_arr (And.intro @ldOb_frz (And.intro @callV_fn (And.intro @pickD_true (And.intro @pickD_false (And.intro @ops_un (And.intro @unD_not (And.intro @ops_max (And.intro @ops_min (And.intro @ops_bs (And.intro @ops_append (And.intro @ops_make (And.intro @ops_slice (And.intro @ops_extract (And.intro @ops_fieldAddr (And.intro @ops_field (And.intro @ops_build (And.intro @ops_alloc (And.intro @ops_box (And.intro @ops_index (And.intro @ops_conv (And.intro @boxD_leaf (And.intro @boxD_agg (And.intro @boxD_str (And.intro @boxD_bool (And.intro @boxD_lst (And.intro @boxD_ref (And.intro @if_true.{1} (And.intro @if_false.{1} (And.intro @evW_skip (And.intro @evW_exit (And.intro @evW_ret (And.intro @callV_func (And.intro @List.map_cons.{0, 0} (And.intro @List.map_nil.{0, 0} (And.intro @Wp_some (And.intro @condW_t (And.intro @condW_f (And.intro @condW_nt (And.intro @condW_nf (And.intro @opsG_t (And.intro @opsG_f (And.intro @opsG_nt (And.intro @opsG_nf (And.intro @pickD_t (And.intro @pickD_f (And.intro @pickD_nt (And.intro @pickD_nf (And.intro @Bool.not_not (@callV_pfn))))))))))))))))))))))))))))))))))))))))))))))))))))))))))))))))))))))))))))))))))))))))))))))))))))))))))))))))))))))))))))))))))))))))))
abbrev J : Dv := .junk
def ens := And.intro @Option.getD_some.{0} (And.intro @List.append_nil.{0} (And.intro @List.nil_append.{0} (And.intro @List.cons_append.{0} (And.intro @List.getD_cons_zero.{0} (And.intro @List.getD_cons_succ.{0} (And.intro @List.length_cons.{0} (And.intro @List.length_nil.{0} (And.intro @List.replicate_succ.{0} (@List.replicate_zero.{0})))))))))
def rs24 := And.intro @r24_0 (And.intro @r24_1 (And.intro @r24_2 (And.intro @r24_3 (And.intro @r24_4 (And.intro @r24_5 (And.intro @r24_7 (And.intro @r24_6 (@r24_8))))))))
def rs9 := And.intro @r9_0 (@r9_1)
def rs14 := And.intro @r14_0 (And.intro @r14_1 (And.intro @r14_2 (And.intro @r14_3 (And.intro @r14_4 (And.intro @r14_5 (And.intro @r14_6 (@r14_7)))))))
def rs15 := And.intro @r15_0 (And.intro @r15_1 (And.intro @r15_2 (And.intro @r15_4 (And.intro @r15_5 (And.intro @r15_3 (@r15_6))))))
def rs66 := And.intro @r66_0 (And.intro @r66_1 (And.intro @r66_2 (And.intro @r66_3 (And.intro @r66_4 (@r66_5)))))
def rs44 := And.intro @r44_0 (And.intro @r44_1 (And.intro @r44_2 (And.intro @r44_3 (And.intro @r44_4 (And.intro @r44_5 (And.intro @r44_6 (And.intro @r44_7 (And.intro @r44_8 (And.intro @r44_9 (And.intro @r44_10 (And.intro @r44_11 (And.intro @r44_12 (@r44_13)))))))))))))
def rs26 := And.intro @r26_0 (@r26_1)
def rs16 := And.intro @r16_0 (And.intro @r16_1 (And.intro @r16_2 (And.intro @r16_3 (And.intro @r16_4 (And.intro @r16_5 (And.intro @r16_6 (And.intro @r16_7 (And.intro @r16_8 (And.intro @r16_9 (And.intro @r16_10 (And.intro @r16_11 (And.intro @r16_12 (And.intro @r16_13 (And.intro @r16_14 (@r16_15)))))))))))))))
def rs50 := And.intro @r50_0 (And.intro @r50_1 (And.intro @r50_2 (And.intro @r50_3 (And.intro @r50_4 (And.intro @r50_5 (And.intro @r50_7 (And.intro @r50_8 (And.intro @r50_6 (And.intro @r50_9 (@r50_10))))))))))
def rs34 := And.intro @r34_0 (And.intro @r34_1 (@r34_2))
def rs41 := And.intro @r41_0 (And.intro @r41_1 (And.intro @r41_2 (And.intro @r41_4 (And.intro @r41_5 (And.intro @r41_3 (@r41_6))))))
def rs17 := And.intro @r17_0 (And.intro @r17_1 (And.intro @r17_2 (And.intro @r17_3 (And.intro @r17_4 (And.intro @r17_6 (And.intro @r17_7 (And.intro @r17_8 (And.intro @r17_9 (And.intro @r17_10 (And.intro @r17_5 (And.intro @r17_11 (And.intro @r17_12 (@r17_13)))))))))))))
def rs4 := And.intro @r4_0 (And.intro @r4_1 (And.intro @r4_2 (And.intro @r4_3 (And.intro @r4_4 (@r4_5)))))
theorem a25 : aggT Tryz.prog 25 = some true := by kernel_rfl
theorem z25 : szOf Tryz.prog 25 = some 4 := by kernel_rfl
theorem a23 : aggT Tryz.prog 23 = some false := by kernel_rfl
theorem u23 : Tryz.prog.underlying 23 = some (.slice 25) := Tryz.underlying23
theorem u29 : Tryz.prog.underlying 29 = some (.slice 43) := Tryz.underlying29
theorem z43 : szOf Tryz.prog 43 = some 2 := by kernel_rfl
theorem a43 : aggT Tryz.prog 43 = some true := by kernel_rfl
theorem a3 : aggT Tryz.prog 3 = some false := by kernel_rfl
theorem u48 : Tryz.prog.underlying 48 = some (.slice 57) := Tryz.underlying48
theorem z57 : szOf Tryz.prog 57 = some 5 := by kernel_rfl
theorem a9 : aggT Tryz.prog 9 = some false := by kernel_rfl
theorem a22 : aggT Tryz.prog 22 = some false := by kernel_rfl
theorem u22 : Tryz.prog.underlying 22 = some (.slice 9) := Tryz.underlying22
theorem z9 : szOf Tryz.prog 9 = some 1 := by kernel_rfl
theorem b9 : bytesOf Tryz.prog 9 = some 16 := by kernel_rfl
theorem zc9 : zeroCs Tryz.prog 9 = some [.v (.string ByteArray.empty)] := by kernel_rfl
theorem b57 : bytesOf Tryz.prog 57 = some 80 := by kernel_rfl
theorem zc57 : zeroCs Tryz.prog 57 = some [.v (.int .i64 (0 : Int)), .v (.int .i64 (0 : Int)), .v (.string ByteArray.empty), .lst true 0 [], .lst true 0 []] := by kernel_rfl
theorem u50 : Tryz.prog.underlying 50 = some (.slice 3) := Tryz.underlying50
theorem z3 : szOf Tryz.prog 3 = some 1 := by kernel_rfl
theorem b3 : bytesOf Tryz.prog 3 = some 8 := by kernel_rfl
theorem zc3 : zeroCs Tryz.prog 3 = some [.v (.int .i64 (0 : Int))] := by kernel_rfl
theorem z50 : szOf Tryz.prog 50 = some 1 := by kernel_rfl
theorem u67 : Tryz.prog.underlying 67 = some (.slice 4) := Tryz.underlying67
theorem z4 : szOf Tryz.prog 4 = some 1 := by kernel_rfl
theorem b4 : bytesOf Tryz.prog 4 = some 1 := by kernel_rfl
theorem zc4 : zeroCs Tryz.prog 4 = some [.v (.bool false)] := by kernel_rfl
theorem a4 : aggT Tryz.prog 4 = some false := by kernel_rfl
theorem varlv_4_0_4 {c0 c1 c2 c3 : Pv} : lkOb (some (.var [.p c0, .p c1, .p c2, .p c3])) 0 4 = some (.p (.agg [c0, c1, c2, c3])) := rfl
theorem faP_25_3 {id o : Nat} : fieldAddrD Tryz.prog 25 (.ptr id o) 3 = some (.ptr id (o + 3)) := by kernel_rfl
theorem varld_4_0_3 {c0 c1 c2 c3 : Dv} : ldOb (some (.var [c0, c1, c2, c3])) (0 + 3) = some c3 := rfl
theorem idxL_23 {full : Bool} {l : List Node} {i : Int} (h0 : 0 ≤ i) (h1 : i < (l.length : Int)) : idxD Tryz.prog 23 (.p (.lst full l.length (encL en_Node l))) (.p (.v (.int .i64 i))) = some (.p (.iptr (encL en_Node l) (ato i 4))) := idx_lst u23 z25 (by decide) en_Node_len h0 h1
theorem lk_frz_25 {l : List Node} {i : Int} {v : Node} (h : rd l i = some v) : lkOb (some (.frz (encL en_Node l))) (ato i 4) 4 = some (.p (.agg [.v (.int .i64 v.Kind), .v (.string v.Text), .lst false v.Gaps.length (encL en_str v.Gaps), .lst false v.Kids.length (encL en_Node v.Kids)])) := (lkOb_frz en_Node_len h).trans (by rw [en_Node_eq])
theorem idxL_29 {full : Bool} {l : List Pair} {i : Int} (h0 : 0 ≤ i) (h1 : i < (l.length : Int)) : idxD Tryz.prog 29 (.p (.lst full l.length (encL en_Pair l))) (.p (.v (.int .i64 i))) = some (.p (.iptr (encL en_Pair l) (ato i 2))) := idx_lst u29 z43 (by decide) en_Pair_len h0 h1
theorem lk_frz_43 {l : List Pair} {i : Int} {v : Pair} (h : rd l i = some v) : lkOb (some (.frz (encL en_Pair l))) (ato i 2) 2 = some (.p (.agg [.v (.int .i64 v.Old), .v (.int .i64 v.New)])) := (lkOb_frz en_Pair_len h).trans (by rw [en_Pair_eq])
theorem al_43 {H : List Ob} : allocD Tryz.prog 43 H = some (.ptr H.length 0, some (H ++ [.var [iv (0 : Int), iv (0 : Int)]])) := by kernel_rfl
theorem sa_2_0_2 {H : List Ob} {id : Nat} {c0 c1 : Dv} {d0 d1 : Pv} : staOb H id 0 2 [d0, d1] (some (.var [c0, c1])) = some (H.set id (.var [(.p d0), (.p d1)])) := by simp [staOb, setAt]
theorem faP_43_0 {id o : Nat} : fieldAddrD Tryz.prog 43 (.ptr id o) 0 = some (.ptr id (o + 0)) := by kernel_rfl
theorem varld_2_0_0 {c0 c1 : Dv} : ldOb (some (.var [c0, c1])) (0 + 0) = some c0 := rfl
theorem faP_43_1 {id o : Nat} : fieldAddrD Tryz.prog 43 (.ptr id o) 1 = some (.ptr id (o + 1)) := by kernel_rfl
theorem varld_2_0_1 {c0 c1 : Dv} : ldOb (some (.var [c0, c1])) (0 + 1) = some c1 := rfl
theorem ex_2_0 {c0 c1 : Pv} : extractD (.p (.tup [c0, c1])) 0 = some (.p c0) := rfl
theorem ex_2_1 {c0 c1 : Pv} : extractD (.p (.tup [c0, c1])) 1 = some (.p c1) := rfl
theorem faI_43_0 {cs : List Pv} {o : Nat} : fieldAddrD Tryz.prog 43 (.p (.iptr cs o)) 0 = some (.p (.iptr cs (o + 0))) := by kernel_rfl
theorem ce_43__0 {l : List Pair} {i : Int} {v : Pair} (h : rd l i = some v) : (encL en_Pair l)[ato i 2 + 0]? = some (.v (.int .i64 v.Old)) := (encL_cell en_Pair_len h (k := 0) (by decide)).trans (by rw [en_Pair_eq]; rfl)
theorem faI_43_1 {cs : List Pv} {o : Nat} : fieldAddrD Tryz.prog 43 (.p (.iptr cs o)) 1 = some (.p (.iptr cs (o + 1))) := by kernel_rfl
theorem ce_43__1 {l : List Pair} {i : Int} {v : Pair} (h : rd l i = some v) : (encL en_Pair l)[ato i 2 + 1]? = some (.v (.int .i64 v.New)) := (encL_cell en_Pair_len h (k := 1) (by decide)).trans (by rw [en_Pair_eq]; rfl)
theorem faP_25_0 {id o : Nat} : fieldAddrD Tryz.prog 25 (.ptr id o) 0 = some (.ptr id (o + 0)) := by kernel_rfl
theorem varld_4_0_0 {c0 c1 c2 c3 : Dv} : ldOb (some (.var [c0, c1, c2, c3])) (0 + 0) = some c0 := rfl
theorem faP_25_1 {id o : Nat} : fieldAddrD Tryz.prog 25 (.ptr id o) 1 = some (.ptr id (o + 1)) := by kernel_rfl
theorem varld_4_0_1 {c0 c1 c2 c3 : Dv} : ldOb (some (.var [c0, c1, c2, c3])) (0 + 1) = some c1 := rfl
theorem faP_25_2 {id o : Nat} : fieldAddrD Tryz.prog 25 (.ptr id o) 2 = some (.ptr id (o + 2)) := by kernel_rfl
theorem varld_4_0_2 {c0 c1 c2 c3 : Dv} : ldOb (some (.var [c0, c1, c2, c3])) (0 + 2) = some c2 := rfl
theorem mk_22 {H : List Ob} {n : Int} (h0 : 0 ≤ n) (h1 : n * 16 ≤ 140737488355328) : makeD Tryz.prog H 22 (.p (.v (.int .i64 n))) (.p (.v (.int .i64 n))) = some (.ref H.length 0 (List.replicate n.toNat (ByteArray.empty)).length 1, H ++ [.arr (encL en_str (List.replicate n.toNat (ByteArray.empty)))]) := make_enc u22 z9 b9 (by rw [en_str_eq]; exact zc9) ⟨by decide, by decide, en_str_len _⟩ h0 h1
theorem cp_22 {H : List Ob} {t2 id n : Nat} {x y : List ByteArray} {full : Bool} (hid : H[id]? = some (.arr (encL en_str x))) (hn : n = x.length) : copyD Tryz.prog H #[22, t2] (.ref id 0 n 1) (.p (.lst full y.length (encL en_str y))) = some (.p (.v (.int .i64 ((Nat.min y.length x.length : Nat) : Int))), H.set id (.arr (encL en_str (cpL x y)))) := copy_enc u22 z9 (by decide) en_str_len hid hn
theorem bu_57_0_1_2_3 {p0_0 : Int} {p1_0 : Int} {p2_0 : ByteArray} {p3_0f : Bool} {p3_0n : Nat} {p3_0c : List Pv} : buildD Tryz.prog 57 [(0, .p (.v (.int .i64 p0_0))), (1, .p (.v (.int .i64 p1_0))), (2, .p (.v (.string p2_0))), (3, .p (.lst p3_0f p3_0n p3_0c))] = some (.p (.agg [.v (.int .i64 p0_0), .v (.int .i64 p1_0), .v (.string p2_0), .lst p3_0f p3_0n p3_0c, .lst true 0 []])) := by kernel_rfl
theorem bs_48_1 {p0_0 : Int} {p0_1 : Int} {p0_2 : ByteArray} {p0_3f : Bool} {p0_3n : Nat} {p0_3c : List Pv} {p0_4f : Bool} {p0_4n : Nat} {p0_4c : List Pv} {H : List Ob} : bsD Tryz.prog H 48 1 [(0, .p (.agg [.v (.int .i64 p0_0), .v (.int .i64 p0_1), .v (.string p0_2), .lst p0_3f p0_3n p0_3c, .lst p0_4f p0_4n p0_4c]))] = some (.p (.lst true 1 [.v (.int .i64 p0_0), .v (.int .i64 p0_1), .v (.string p0_2), .lst false p0_3n (wks p0_3c), .lst false p0_4n (wks p0_4c)]), none) := by kernel_rfl
theorem ap_48_48 {H : List Ob} {id off esz n m : Nat} {full : Bool} {new : List Pv} : appendD Tryz.prog H #[48, 48] (.ref id off n esz) (.p (.lst full m new)) = apOb H id off n m esz 5 80 new H[id]? := appendD_ap u48 u48 z57 b57 zc57 ⟨by decide, by decide, rfl⟩
theorem mk_50 {H : List Ob} {n : Int} (h0 : 0 ≤ n) (h1 : n * 8 ≤ 140737488355328) : makeD Tryz.prog H 50 (.p (.v (.int .i64 n))) (.p (.v (.int .i64 n))) = some (.ref H.length 0 (List.replicate n.toNat ((0 : Int))).length 1, H ++ [.arr (encL en_i64 (List.replicate n.toNat ((0 : Int))))]) := make_enc u50 z3 b3 (by rw [en_i64_eq]; exact zc3) ⟨by decide, by decide, en_i64_len _⟩ h0 h1
theorem al_25 {H : List Ob} : allocD Tryz.prog 25 H = some (.ptr H.length 0, some (H ++ [.var [iv (0 : Int), .p (.v (.string ByteArray.empty)), .p (.lst true 0 []), .p (.lst true 0 [])]])) := by kernel_rfl
theorem sa_4_0_4 {H : List Ob} {id : Nat} {c0 c1 c2 c3 : Dv} {d0 d1 d2 d3 : Pv} : staOb H id 0 4 [d0, d1, d2, d3] (some (.var [c0, c1, c2, c3])) = some (H.set id (.var [(.p d0), (.p d1), (.p d2), (.p d3)])) := by simp [staOb, setAt]
theorem idxR_50 {id m : Nat} {i : Int} (h0 : 0 ≤ i) (h1 : i < (m : Int)) : idxD Tryz.prog 50 (.ref id 0 m 1) (.p (.v (.int .i64 i))) = some (.ptr id (ato i 1)) := idx_ref u50 z3 (by decide) h0 h1
theorem stf_3_x {H : List Ob} {id : Nat} {l : List Int} {i : Int} {v : Int} {p : Int} (h : rd l i = some v) : stdOb H id (ato i 1) (.p (.v (.int .i64 p))) (some (.arr (encL en_i64 l))) = some (H.set id (.arr (encL en_i64 (l.set i.toNat p)))) := std_enc0 en_i64_len h (by decide) (by rw [en_i64_eq, en_i64_eq]; rfl)
theorem idxR_48 {id m : Nat} {i : Int} (h0 : 0 ≤ i) (h1 : i < (m : Int)) : idxD Tryz.prog 48 (.ref id 0 m 5) (.p (.v (.int .i64 i))) = some (.ptr id (ato i 5)) := idx_ref u48 z57 (by decide) h0 h1
theorem faP_57_4 {id o : Nat} : fieldAddrD Tryz.prog 57 (.ptr id o) 4 = some (.ptr id (o + 4)) := by kernel_rfl
theorem mk_67 {H : List Ob} {n : Int} (h0 : 0 ≤ n) (h1 : n * 1 ≤ 140737488355328) : makeD Tryz.prog H 67 (.p (.v (.int .i64 n))) (.p (.v (.int .i64 n))) = some (.ref H.length 0 (List.replicate n.toNat (false)).length 1, H ++ [.arr (encL en_bool (List.replicate n.toNat (false)))]) := make_enc u67 z4 b4 (by rw [en_bool_eq]; exact zc4) ⟨by decide, by decide, en_bool_len _⟩ h0 h1
theorem idxR_67 {id m : Nat} {i : Int} (h0 : 0 ≤ i) (h1 : i < (m : Int)) : idxD Tryz.prog 67 (.ref id 0 m 1) (.p (.v (.int .i64 i))) = some (.ptr id (ato i 1)) := idx_ref u67 z4 (by decide) h0 h1
theorem ce_4_x {l : List Bool} {i : Int} {v : Bool} (h : rd l i = some v) : (encL en_bool l)[ato i 1]? = some (.v (.bool v)) := (encL_cell en_bool_len h (k := 0) (by decide)).trans (by rw [en_bool_eq]; rfl)
theorem idxL_48 {full : Bool} {l : List Row} {i : Int} (h0 : 0 ≤ i) (h1 : i < (l.length : Int)) : idxD Tryz.prog 48 (.p (.lst full l.length (encL en_Row l))) (.p (.v (.int .i64 i))) = some (.p (.iptr (encL en_Row l) (ato i 5))) := idx_lst u48 z57 (by decide) en_Row_len h0 h1
theorem faI_57_1 {cs : List Pv} {o : Nat} : fieldAddrD Tryz.prog 57 (.p (.iptr cs o)) 1 = some (.p (.iptr cs (o + 1))) := by kernel_rfl
theorem ce_57__1 {l : List Row} {i : Int} {v : Row} (h : rd l i = some v) : (encL en_Row l)[ato i 5 + 1]? = some (.v (.int .i64 v.Kind)) := (encL_cell en_Row_len h (k := 1) (by decide)).trans (by rw [en_Row_eq]; rfl)
theorem stf_4_x {H : List Ob} {id : Nat} {l : List Bool} {i : Int} {v : Bool} {p : Bool} (h : rd l i = some v) : stdOb H id (ato i 1) (.p (.v (.bool p))) (some (.arr (encL en_bool l))) = some (H.set id (.arr (encL en_bool (l.set i.toNat p)))) := std_enc0 en_bool_len h (by decide) (by rw [en_bool_eq, en_bool_eq]; rfl)
theorem bs_50_1 {p0_0 : Int} {H : List Ob} : bsD Tryz.prog H 50 1 [(0, .p (.v (.int .i64 p0_0)))] = some (.p (.lst true 1 [.v (.int .i64 p0_0)]), none) := by kernel_rfl
theorem ap_50_50 {H : List Ob} {id off esz n m : Nat} {full : Bool} {new : List Pv} : appendD Tryz.prog H #[50, 50] (.ref id off n esz) (.p (.lst full m new)) = apOb H id off n m esz 1 8 new H[id]? := appendD_ap u50 u50 z3 b3 zc3 ⟨by decide, by decide, rfl⟩
theorem shi_29 {H : List Ob} {full : Bool} {l : List Pair} {a : Int} (h0 : 0 ≤ a) (h1 : a ≤ (l.length : Int)) : sliceD Tryz.prog H 29 (.p (.lst full l.length (encL en_Pair l))) none (some (.p (.v (.int .i64 a)))) none = some (.p (.lst (full && decide (a.toNat = l.length)) (l.take a.toNat).length (encL en_Pair (l.take a.toNat)))) := shi_enc u29 z43 (by decide) en_Pair_len h0 h1
end Xr

