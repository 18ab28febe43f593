/- A part of the proof: L. No conditions of its own. -/
import Derived.Test.YtdknlgpdjmjlnaaDoorRows
import Derived.KernelRfl
import Derived.Test.YtdknlgpdjmjlnaaDoorT
namespace Xl
open Go Go.Ev Go.Proofs
set_option linter.unusedSimpArgs false
set_option linter.unusedVariables false
set_option linter.defProp false
def bodyOf (f : Func) : Code := f.body.getD .skip
def loopsOf : Code → List Code
  | .seq a b => loopsOf a ++ loopsOf b
  | .cond _ a b => loopsOf a ++ loopsOf b
  | .block _ b => loopsOf b
  | .loop b => b :: loopsOf b
  | _ => []
noncomputable def gc0 : List Pv := flatD YtdknlgpdjmjlnaaDoor.Rows.laid_treemerge_grammar_shapes
noncomputable instance gl : Gl := ⟨fun g => if g = 0 then some gc0 else none, fun t => ([] : List Nat).contains t⟩
theorem im_ (t : TypeId) : Gl.isMap t = false := rfl
def dynOf : Nat → List (Nat × List (Nat × Nat))
  | 49 => [(2, [(1, 10), (3, 10), (4, 10), (5, 10), (6, 10), (7, 10), (8, 10)])]
  | 59 => [(1, [(4, 16), (9, 16), (14, 16)])]
  | _ => []
def lpOf : Nat → List (Nat × List (Nat × Nat))
  | 49 => [(6, [(1, 4), (1, 5)])]
  | _ => []
def preOf : Nat → List (Nat × List Ghost)
  | 27 => [(4, [.weak [0, 1], .keep [0, 1, 12, 13]]), (9, [.keep [0, 1, 12, 13]])]
  | 9 => [(9, [.own 9 1, .weak [0, 1, 2], .keep [0, 1, 2, 3, 9, 34, 35]]), (22, [.keep [0, 1, 2, 3, 9, 34, 35]])]
  | 8 => [(4, [.weak [0, 1], .keep [0, 1, 5]]), (8, [.keep [0, 1, 5]])]
  | 6 => [(12, [.weak [0, 1, 2, 9], .keep [0, 1, 2, 9, 11]]), (16, [.keep [0, 1, 2, 9, 11]])]
  | 18 => [(6, [.freeze 9, .freeze 10])]
  | _ => []
def A0 : Ann := { okf := fun _ => true, keeps := fun f => [53, 56, 57].contains f, muts := fun f => [49, 53, 54, 56, 57, 66, 77, 78, 81, 93, 94, 95, 96, 97, 98, 99, 102, 103, 104, 105, 106, 107, 108, 109, 113, 115, 116, 117, 118].contains f, ros := fun f => [].contains f, loud := fun f r => ([(49, 6)] : List (Nat × Nat)).contains (f, r), pre := fun f r => ((preOf f).lookup r).getD [], clone := fun f => if f == 23 then some 0 else none, dyn := fun f q => (dynOf f).lookup q, lp := fun f q => (lpOf f).lookup q, outer := fun f => if f == 112 then some (.pure Extern.BytealgIndexByte.indexByte) else if f == 77 then some (.valueOf) else if f == 79 then some (.valLen) else if f == 78 then some (.swapper [(33, 91, 92, 99, 43)]) else if f == 93 then some (.swap) else if f == 94 then some (.swap) else if f == 95 then some (.swap) else if f == 96 then some (.swap) else if f == 97 then some (.swap) else if f == 98 then some (.swap) else if f == 99 then some (.swap) else none }
theorem clones : CloneOk Tryd.prog A0 := by
  intro f sz h call oa cap
  simp only [A0] at h
  split at h
  · rename_i hf
    obtain rfl := Option.some.inj h
    obtain rfl : f = 23 := by simpa using hf
    refine ⟨1, ?_⟩
    cases oa with
    | none => right; right; exact ⟨by decide, by kernel_rfl⟩
    | some a => right; right; exact ⟨by decide, by kernel_rfl⟩
  cases h
theorem swapper_is : ExtIs Tryd.prog (.swapper [(33, 91, 92, 99, 43)]) (Extern.ReflectliteSwapper.swapper "internal/reflectlite" (Extern.ReflectliteValue.valueError "Swapper")) := by
  intro t f0 f1 f2 h hl w s n cap
  by_cases ht : t = 33
  · subst ht
    obtain ⟨rfl, rfl, rfl, rfl⟩ : f0 = 91 ∧ f1 = 92 ∧ f2 = 99 ∧ h = 43 := by
      have := Option.some.inj hl
      simp only [Prod.mk.injEq] at this
      exact ⟨this.1.symm, this.2.1.symm, this.2.2.1.symm, this.2.2.2.symm⟩
    match n with
    | 0 => show Sem.run _ _ _ = _; kernel_rfl
    | 1 => show Sem.run _ _ _ = _; kernel_rfl
    | n + 2 => show Sem.run _ _ _ = _; kernel_rfl
  · simp [List.lookup, show (t == 33) = false from by simpa using ht] at hl
theorem exts : ExtOk Tryd.prog A0 := by
  intro f k h
  simp only [A0] at h
  split at h
  · rename_i hf
    obtain rfl := Option.some.inj h
    obtain rfl : f = 112 := by simpa using hf
    exact ⟨Tryd.f112, _, Tryd.func112, by kernel_rfl, by kernel_rfl, by kernel_rfl, (by kernel_rfl : Extern.find Tryd.f112 = some (Extern.BytealgIndexByte.indexByte)), rfl⟩
  split at h
  · rename_i hf
    obtain rfl := Option.some.inj h
    obtain rfl : f = 77 := by simpa using hf
    exact ⟨Tryd.f77, _, Tryd.func77, by kernel_rfl, by kernel_rfl, by kernel_rfl, (by kernel_rfl : Extern.find Tryd.f77 = some (fun args => Extern.ReflectliteValue.unpack (args.getD 0 (.tuple #[])))), rfl⟩
  split at h
  · rename_i hf
    obtain rfl := Option.some.inj h
    obtain rfl : f = 79 := by simpa using hf
    exact ⟨Tryd.f79, _, Tryd.func79, by kernel_rfl, by kernel_rfl, by kernel_rfl, (by kernel_rfl : Extern.find Tryd.f79 = some (Extern.ReflectliteValue.method (Extern.ReflectliteValue.valueError "reflectlite.Value.Len" 0) Extern.ReflectliteValue.len)), rfl⟩
  split at h
  · rename_i hf
    obtain rfl := Option.some.inj h
    obtain rfl : f = 78 := by simpa using hf
    exact ⟨Tryd.f78, _, Tryd.func78, by kernel_rfl, by kernel_rfl, by kernel_rfl, (by kernel_rfl : Extern.find Tryd.f78 = some (Extern.ReflectliteSwapper.swapper "internal/reflectlite" (Extern.ReflectliteValue.valueError "Swapper"))), swapper_is⟩
  split at h
  · rename_i hf
    obtain rfl := Option.some.inj h
    obtain rfl : f = 93 := by simpa using hf
    exact ⟨Tryd.f93, _, Tryd.func93, by kernel_rfl, by kernel_rfl, by kernel_rfl, (by kernel_rfl : Extern.find Tryd.f93 = some (Extern.ReflectliteSwapper.swap true)), ⟨true, rfl⟩⟩
  split at h
  · rename_i hf
    obtain rfl := Option.some.inj h
    obtain rfl : f = 94 := by simpa using hf
    exact ⟨Tryd.f94, _, Tryd.func94, by kernel_rfl, by kernel_rfl, by kernel_rfl, (by kernel_rfl : Extern.find Tryd.f94 = some (Extern.ReflectliteSwapper.swap true)), ⟨true, rfl⟩⟩
  split at h
  · rename_i hf
    obtain rfl := Option.some.inj h
    obtain rfl : f = 95 := by simpa using hf
    exact ⟨Tryd.f95, _, Tryd.func95, by kernel_rfl, by kernel_rfl, by kernel_rfl, (by kernel_rfl : Extern.find Tryd.f95 = some (Extern.ReflectliteSwapper.swap true)), ⟨true, rfl⟩⟩
  split at h
  · rename_i hf
    obtain rfl := Option.some.inj h
    obtain rfl : f = 96 := by simpa using hf
    exact ⟨Tryd.f96, _, Tryd.func96, by kernel_rfl, by kernel_rfl, by kernel_rfl, (by kernel_rfl : Extern.find Tryd.f96 = some (Extern.ReflectliteSwapper.swap true)), ⟨true, rfl⟩⟩
  split at h
  · rename_i hf
    obtain rfl := Option.some.inj h
    obtain rfl : f = 97 := by simpa using hf
    exact ⟨Tryd.f97, _, Tryd.func97, by kernel_rfl, by kernel_rfl, by kernel_rfl, (by kernel_rfl : Extern.find Tryd.f97 = some (Extern.ReflectliteSwapper.swap true)), ⟨true, rfl⟩⟩
  split at h
  · rename_i hf
    obtain rfl := Option.some.inj h
    obtain rfl : f = 98 := by simpa using hf
    exact ⟨Tryd.f98, _, Tryd.func98, by kernel_rfl, by kernel_rfl, by kernel_rfl, (by kernel_rfl : Extern.find Tryd.f98 = some (Extern.ReflectliteSwapper.swap true)), ⟨true, rfl⟩⟩
  split at h
  · rename_i hf
    obtain rfl := Option.some.inj h
    obtain rfl : f = 99 := by simpa using hf
    exact ⟨Tryd.f99, _, Tryd.func99, by kernel_rfl, by kernel_rfl, by kernel_rfl, (by kernel_rfl : Extern.find Tryd.f99 = some (Extern.ReflectliteSwapper.swap false)), ⟨false, rfl⟩⟩
  cases h
abbrev RG (f q : Nat) (g : List Ghost) (o : Array Oper) (d : Bool) (s : St) : Prop := evW Tryd.prog A0 f (.region q o d) s = regW Tryd.prog A0 (d && true) o o.toList (ghostsD g s)
theorem r27_0 {o d s} : RG 27 0 [] o d s := w_region
theorem r27_1 {o d s} : RG 27 1 [] o d s := w_region
theorem r27_2 {o d s} : RG 27 2 [] o d s := w_region
theorem r27_3 {o d s} : RG 27 3 [] o d s := w_region
theorem r27_4 {o d s} : RG 27 4 [.weak [0, 1], .keep [0, 1, 12, 13]] o d s := w_region
theorem r27_5 {o d s} : RG 27 5 [] o d s := w_region
theorem r27_6 {o d s} : RG 27 6 [] o d s := w_region
theorem r27_7 {o d s} : RG 27 7 [] o d s := w_region
theorem r27_8 {o d s} : RG 27 8 [] o d s := w_region
theorem r27_9 {o d s} : RG 27 9 [.keep [0, 1, 12, 13]] o d s := w_region
theorem r11_0 {o d s} : RG 11 0 [] o d s := w_region
theorem r11_1 {o d s} : RG 11 1 [] o d s := w_region
theorem r23_0 {o d s} : RG 23 0 [] o d s := w_region
theorem r23_1 {o d s} : RG 23 1 [] o d s := w_region
theorem r23_2 {o d s} : RG 23 2 [] o d s := w_region
theorem r23_3 {o d s} : RG 23 3 [] o d s := w_region
theorem r25_0 {o d s} : RG 25 0 [] o d s := w_region
theorem r25_1 {o d s} : RG 25 1 [] o d s := w_region
theorem r25_2 {o d s} : RG 25 2 [] o d s := w_region
theorem r25_3 {o d s} : RG 25 3 [] o d s := w_region
theorem r24_0 {o d s} : RG 24 0 [] o d s := w_region
theorem r24_1 {o d s} : RG 24 1 [] o d s := w_region
theorem r24_2 {o d s} : RG 24 2 [] o d s := w_region
theorem r24_3 {o d s} : RG 24 3 [] o d s := w_region
theorem r24_4 {o d s} : RG 24 4 [] o d s := w_region
theorem r24_5 {o d s} : RG 24 5 [] o d s := w_region
theorem r24_6 {o d s} : RG 24 6 [] o d s := w_region
theorem r9_0 {o d s} : RG 9 0 [] o d s := w_region
theorem r9_1 {o d s} : RG 9 1 [] o d s := w_region
theorem r9_2 {o d s} : RG 9 2 [] o d s := w_region
theorem r9_3 {o d s} : RG 9 3 [] o d s := w_region
theorem r9_4 {o d s} : RG 9 4 [] o d s := w_region
theorem r9_5 {o d s} : RG 9 5 [] o d s := w_region
theorem r9_6 {o d s} : RG 9 6 [] o d s := w_region
theorem r9_7 {o d s} : RG 9 7 [] o d s := w_region
theorem r9_8 {o d s} : RG 9 8 [] o d s := w_region
theorem r9_9 {o d s} : RG 9 9 [.own 9 1, .weak [0, 1, 2], .keep [0, 1, 2, 3, 9, 34, 35]] o d s := w_region
theorem r9_10 {o d s} : RG 9 10 [] o d s := w_region
theorem r9_11 {o d s} : RG 9 11 [] o d s := w_region
theorem r9_12 {o d s} : RG 9 12 [] o d s := w_region
theorem r9_13 {o d s} : RG 9 13 [] o d s := w_region
theorem r9_14 {o d s} : RG 9 14 [] o d s := w_region
theorem r9_15 {o d s} : RG 9 15 [] o d s := w_region
theorem r9_16 {o d s} : RG 9 16 [] o d s := w_region
theorem r9_17 {o d s} : RG 9 17 [] o d s := w_region
theorem r9_18 {o d s} : RG 9 18 [] o d s := w_region
theorem r9_19 {o d s} : RG 9 19 [] o d s := w_region
theorem r9_20 {o d s} : RG 9 20 [] o d s := w_region
theorem r9_21 {o d s} : RG 9 21 [] o d s := w_region
theorem r9_22 {o d s} : RG 9 22 [.keep [0, 1, 2, 3, 9, 34, 35]] o d s := w_region
theorem r9_23 {o d s} : RG 9 23 [] o d s := w_region
theorem r9_24 {o d s} : RG 9 24 [] o d s := w_region
theorem r8_0 {o d s} : RG 8 0 [] o d s := w_region
theorem r8_1 {o d s} : RG 8 1 [] o d s := w_region
theorem r8_2 {o d s} : RG 8 2 [] o d s := w_region
theorem r8_3 {o d s} : RG 8 3 [] o d s := w_region
theorem r8_4 {o d s} : RG 8 4 [.weak [0, 1], .keep [0, 1, 5]] o d s := w_region
theorem r8_6 {o d s} : RG 8 6 [] o d s := w_region
theorem r8_7 {o d s} : RG 8 7 [] o d s := w_region
theorem r8_5 {o d s} : RG 8 5 [] o d s := w_region
theorem r8_8 {o d s} : RG 8 8 [.keep [0, 1, 5]] o d s := w_region
theorem r6_0 {o d s} : RG 6 0 [] o d s := w_region
theorem r6_1 {o d s} : RG 6 1 [] o d s := w_region
theorem r6_2 {o d s} : RG 6 2 [] o d s := w_region
theorem r6_3 {o d s} : RG 6 3 [] o d s := w_region
theorem r6_4 {o d s} : RG 6 4 [] o d s := w_region
theorem r6_5 {o d s} : RG 6 5 [] o d s := w_region
theorem r6_6 {o d s} : RG 6 6 [] o d s := w_region
theorem r6_7 {o d s} : RG 6 7 [] o d s := w_region
theorem r6_8 {o d s} : RG 6 8 [] o d s := w_region
theorem r6_9 {o d s} : RG 6 9 [] o d s := w_region
theorem r6_10 {o d s} : RG 6 10 [] o d s := w_region
theorem r6_11 {o d s} : RG 6 11 [] o d s := w_region
theorem r6_12 {o d s} : RG 6 12 [.weak [0, 1, 2, 9], .keep [0, 1, 2, 9, 11]] o d s := w_region
theorem r6_14 {o d s} : RG 6 14 [] o d s := w_region
theorem r6_15 {o d s} : RG 6 15 [] o d s := w_region
theorem r6_13 {o d s} : RG 6 13 [] o d s := w_region
theorem r6_16 {o d s} : RG 6 16 [.keep [0, 1, 2, 9, 11]] o d s := w_region
def bs := And.intro @w_seq (And.intro @ghosts_nil (And.intro @regW_some (And.intro @regY_some (And.intro @doneY_some (And.intro @ops_move (And.intro @ops_assign (And.intro @ops_bin (And.intro @ops_load (And.intro @ops_indexAddr (And.intro @ops_len (And.intro @ops_store (And.intro @ops_call (And.intro @opsP_some (And.intro @opsQ_none (And.intro @opsQ_some (And.intro @opsQ_loud (And.intro @ops_nil (And.intro @doneW_some (And.intro @seqW_normal (And.intro @seqW_ret (And.intro @seqW_exit (And.intro @w_cond (And.intro @w_block (And.intro @condW_true (And.intro @condW_false (And.intro @evalO_tmp (And.intro @evalO_const (And.intro @evalO_func (And.intro @ofVal_int (And.intro @ofVal_bool (And.intro @ofVal_nil (And.intro @ofVal_str (And.intro @set8 (And.intro @getD8 (And.intro @List.set_cons_succ.{0} (And.intro @List.set_cons_zero.{0} (And.intro @List.getD_cons_succ.{0} (And.intro @List.getD_cons_zero.{0} (And.intro @binN_tmp (And.intro @binN_int (And.intro @binN_bool (And.intro @binN_str (And.intro @binD_add (And.intro @binD_sub (And.intro @binD_mul (And.intro @binD_lss (And.intro @binD_leq (And.intro @binD_gtr (And.intro @binD_geq (And.intro @binD_eql (And.intro @binD_neq (And.intro @boolD_bv (And.intro @Option.map_some.{0, 0} (And.intro @blockW_normal (And.intro @blockW_ret (And.intro @blockW_exit (And.intro @blockW_other (And.intro @Bool.false_and (And.intro @Bool.and_false (And.intro @Bool.and_true (And.intro @Bool.true_and (And.intro @Bool.not_true (And.intro @Bool.not_false (And.intro @decide_true (And.intro @decide_false (And.intro @ops_guard (And.intro @opsG_true (And.intro @opsG_false (And.intro @wantT_some (And.intro @yield_bv (And.intro @yield_undef (And.intro @putD_some (And.intro @putD_none (And.intro @beq_true' (And.intro @beq_false' (And.intro @List.getElem?_toArray.{0} (And.intro @List.getElem?_cons_succ.{0} (And.intro @List.getElem?_cons_zero.{0} (And.intro @Option.bind_some.{0, 0} (And.intro @Option.bind_none.{0, 0} (And.intro @Option.map_none.{0, 0} (And.intro @ops_pick (And.intro @List.length_cons.{0} (And.intro @List.length_nil.{0} (And.intro @List.cons_append.{0} (And.intro @List.nil_append.{0} (And.intro @ldOb_arr (And.intro @ldOb_frz (And.intro @callV_fn (And.intro @pickD_true (And.intro @pickD_false (And.intro @ops_un (And.intro @unD_not (And.intro @ops_max (And.intro @ops_min (And.intro @ops_bs (And.intro @ops_append (And.intro @ops_make (And.intro @ops_slice (And.intro @ops_extract (And.intro @ops_fieldAddr (And.intro @ops_field (And.intro @ops_build (And.intro @ops_alloc (And.intro @ops_box (And.intro @ops_index (And.intro @ops_conv (And.intro @boxD_leaf (And.intro @boxD_agg (And.intro @boxD_str (And.intro @boxD_bool (And.intro @boxD_lst (And.intro @boxD_ref (And.intro @if_true.{1} (And.intro @if_false.{1} (And.intro @evW_skip (And.intro @evW_exit (And.intro @evW_ret (And.intro @callV_func (And.intro @List.map_cons.{0, 0} (And.intro @List.map_nil.{0, 0} (@Wp_some))))))))))))))))))))))))))))))))))))))))))))))))))))))))))))))))))))))))))))))))))))))))))))))))))))))))))))))))))))))))))
def rs27 := And.intro @r27_0 (And.intro @r27_1 (And.intro @r27_2 (And.intro @r27_3 (And.intro @r27_4 (And.intro @r27_5 (And.intro @r27_6 (And.intro @r27_7 (And.intro @r27_8 (@r27_9)))))))))
def rs11 := And.intro @r11_0 (@r11_1)
def rs23 := And.intro @r23_0 (And.intro @r23_1 (And.intro @r23_2 (@r23_3)))
def rs25 := And.intro @r25_0 (And.intro @r25_1 (And.intro @r25_2 (@r25_3)))
def rs24 := And.intro @r24_0 (And.intro @r24_1 (And.intro @r24_2 (And.intro @r24_3 (And.intro @r24_4 (And.intro @r24_5 (@r24_6))))))
def rs9 := And.intro @r9_0 (And.intro @r9_1 (And.intro @r9_2 (And.intro @r9_3 (And.intro @r9_4 (And.intro @r9_5 (And.intro @r9_6 (And.intro @r9_7 (And.intro @r9_8 (And.intro @r9_9 (And.intro @r9_10 (And.intro @r9_11 (And.intro @r9_12 (And.intro @r9_13 (And.intro @r9_14 (And.intro @r9_15 (And.intro @r9_16 (And.intro @r9_17 (And.intro @r9_18 (And.intro @r9_19 (And.intro @r9_20 (And.intro @r9_21 (And.intro @r9_22 (And.intro @r9_23 (@r9_24))))))))))))))))))))))))
def rs8 := And.intro @r8_0 (And.intro @r8_1 (And.intro @r8_2 (And.intro @r8_3 (And.intro @r8_4 (And.intro @r8_6 (And.intro @r8_7 (And.intro @r8_5 (@r8_8))))))))
def rs6 := And.intro @r6_0 (And.intro @r6_1 (And.intro @r6_2 (And.intro @r6_3 (And.intro @r6_4 (And.intro @r6_5 (And.intro @r6_6 (And.intro @r6_7 (And.intro @r6_8 (And.intro @r6_9 (And.intro @r6_10 (And.intro @r6_11 (And.intro @r6_12 (And.intro @r6_14 (And.intro @r6_15 (And.intro @r6_13 (@r6_16))))))))))))))))
theorem u22 : Tryd.prog.underlying 22 = some (.slice 9) := Tryd.underlying22
theorem z9 : szOf Tryd.prog 9 = some 1 := by kernel_rfl
theorem a9 : aggT Tryd.prog 9 = some false := by kernel_rfl
theorem b9 : bytesOf Tryd.prog 9 = some 16 := by kernel_rfl
theorem zc9 : zeroCs Tryd.prog 9 = some [.v (.string ByteArray.empty)] := by kernel_rfl
theorem u9 : Tryd.prog.underlying 9 = some .string := Tryd.underlying9
theorem idxL_22 {full : Bool} {l : List ByteArray} {i : Int} (h0 : 0 ≤ i) (h1 : i < (l.length : Int)) : idxD Tryd.prog 22 (.p (.lst full l.length (encL en_str l))) (.p (.v (.int .i64 i))) = some (.p (.iptr (encL en_str l) (i.toNat * 1))) := idx_lst u22 z9 (by decide) en_str_len h0 h1
theorem ce_9_x {l : List ByteArray} {i : Int} {v : ByteArray} (h : rd l i = some v) : (encL en_str l)[i.toNat * 1]? = some (.v (.string v)) := (encL_cell en_str_len h (k := 0) (by decide)).trans (by rw [en_str_eq]; rfl)
theorem bs_22_0 {H : List Ob} : bsD Tryd.prog H 22 0 [] = some (.p (.lst true 0 []), none) := by kernel_rfl
theorem apn_22_22 {H : List Ob} {m : Nat} {full : Bool} {new : List Pv} : appendD Tryd.prog H #[22, 22] (.p (.lst true 0 [])) (.p (.lst full m new)) = apN H m 1 16 new := appendD_apn u22 u22 z9 b9 zc9 ⟨by decide, by decide, rfl⟩
theorem bs_22_1 {p0_0 : ByteArray} {H : List Ob} : bsD Tryd.prog H 22 1 [(0, .p (.v (.string p0_0)))] = some (.p (.lst true 1 [.v (.string p0_0)]), none) := by kernel_rfl
theorem ap_22_22 {H : List Ob} {id off esz n m : Nat} {full : Bool} {new : List Pv} : appendD Tryd.prog H #[22, 22] (.ref id off n esz) (.p (.lst full m new)) = apOb H id off n m esz 1 16 new H[id]? := appendD_ap u22 u22 z9 b9 zc9 ⟨by decide, by decide, rfl⟩
end Xl

