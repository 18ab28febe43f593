/- A part of the proof: L. No conditions of its own. -/
import Derived.Test.YtdknlgpdjmjlnaaGreatDoorRows
import Derived.KernelRfl
import Derived.Test.YtdknlgpdjmjlnaaGreatDoorT
namespace Xr
open Go Go.Ev Go.Proofs
set_option linter.unusedSimpArgs false
set_option linter.unusedVariables false
set_option linter.defProp false
set_option maxRecDepth 20000
def bodyOf (f : Func) : Code := f.body.getD .skip
def loopsOf : Code → List Code
 | .seq a b => loopsOf a ++ loopsOf b
 | .cond _ a b => loopsOf a ++ loopsOf b
 | .block _ b => loopsOf b
 | .loop b => b :: loopsOf b
 | _ => []
noncomputable abbrev sw79 (i n : Nat) : Dv := .fn (.func 79) [.ref i 0 n 2, .p (.v (typeHandle Tryz.prog 41))]
noncomputable def gc0 : List Pv := flatD YtdknlgpdjmjlnaaGreatDoor.Rows.laid_treemerge_grammar_shapes
noncomputable instance gl : Gl := ⟨fun g => if g = 0 then some gc0 else none, fun t => ([] : List Nat).contains t⟩
theorem evalO_g0 {tm : List Dv} : evalO tm (.global 0) = .p (.iptr gc0 0) := rfl
theorem gl0_5_at : ∀ n, n < 27 → gc0[0 + n * 6 + 5]? = (gt0_5[n]?).map fun v => .v (.int .i64 v)
 | 0, _ => by kernel_rfl
 | 1, _ => by kernel_rfl
 | 2, _ => by kernel_rfl
 | 3, _ => by kernel_rfl
 | 4, _ => by kernel_rfl
 | 5, _ => by kernel_rfl
 | 6, _ => by kernel_rfl
 | 7, _ => by kernel_rfl
 | 8, _ => by kernel_rfl
 | 9, _ => by kernel_rfl
 | 10, _ => by kernel_rfl
 | 11, _ => by kernel_rfl
 | 12, _ => by kernel_rfl
 | 13, _ => by kernel_rfl
 | 14, _ => by kernel_rfl
 | 15, _ => by kernel_rfl
 | 16, _ => by kernel_rfl
 | 17, _ => by kernel_rfl
 | 18, _ => by kernel_rfl
 | 19, _ => by kernel_rfl
 | 20, _ => by kernel_rfl
 | 21, _ => by kernel_rfl
 | 22, _ => by kernel_rfl
 | 23, _ => by kernel_rfl
 | 24, _ => by kernel_rfl
 | 25, _ => by kernel_rfl
 | 26, _ => by kernel_rfl
 | n + 27, h => absurd h (by omega)
theorem gl0_5_ok {i v : Int} (h : gl0_5 i = some v) : gc0[0 + i.toNat * 6 + 5]? = some (.v (.int .i64 v)) := by
 unfold gl0_5 at h
 split at h
 ·rw [gl0_5_at _ (by omega), h]; rfl
 ·cases h
theorem im_ (t : TypeId) : Gl.isMap t = false := rfl
def dynOf : Nat → List (Nat × List (Nat × Nat))
 | 39 => [(2, [(1, 10), (3, 10), (4, 10), (5, 10), (6, 10), (7, 10), (8, 10)])]
 | 3 => [(8, [(0, 9), (1, 9), (2, 9), (3, 9), (4, 9), (5, 9)])]
 | _ => []
def lpOf : Nat → List (Nat × List (Nat × Nat))
 | 39 => [(6, [(1, 4), (1, 5)])]
 | _ => []
def preOf : Nat → List (Nat × List Ghost)
 | 30 => [(5, [.keep [2, 3, 7, 8]]), (10, [.keep [2, 3, 7, 8]])]
 | 37 => [(0, [.own 0 5]), (7, [.weak [35], .keep [0, 7, 8, 35, 36, 37]]), (12, [.keep [0, 7, 8, 35, 36, 37]])]
 | 17 => [(5, [.weak [7, 8, 20], .keep [3, 4, 7, 8, 9, 10, 20, 21, 22]]), (13, [.keep [3, 4, 7, 8, 9, 10, 20, 21, 22]])]
 | 82 => [(2, [.keep [1, 2, 3, 6]]), (3, [.keep [1, 2, 3, 6, 7]]), (5, [.keep [1, 2, 3, 6, 7]])]
 | 95 => [(2, [.keep [2, 3, 4, 8]])]
 | 83 => [(5, [.keep [3, 6, 7, 8, 9]]), (8, [.keep [3, 6, 7, 8, 9]]), (9, [.keep [3, 6, 7, 10]])]
 | 86 => [(3, [.keep [3, 6, 7]])]
 | 87 => [(3, [.keep [1, 2, 3, 7, 8]]), (4, [.keep [1, 2, 3, 7, 8, 10]]), (5, [.keep [1, 2, 3, 7, 8]]), (7, [.keep [1, 2, 3, 7, 8]]), (14, [.keep [1, 2, 3, 7, 8, 9]]), (18, [.keep [1, 2, 3, 7, 8, 9]]), (20, [.keep [1, 2, 3, 7, 8, 10]]), (24, [.keep [1, 2, 3, 7, 8]])]
 | 89 => [(3, [.keep [1, 4, 10, 11]]), (5, [.keep [1, 4, 10, 11], .keep [1, 4, 10, 11]]), (7, [.keep [1, 4, 10, 11]]), (13, [.keep [1, 4, 10, 11], .keep [1, 4, 10, 11]]), (15, [.keep [1, 4, 10, 11], .keep [1, 4, 10, 11]]), (17, [.keep [1, 4, 10, 11]]), (21, [.keep [1, 4, 10, 11]])]
 | 88 => [(3, [.keep [1, 4, 9, 10], .keep [1, 4, 9, 10]]), (5, [.keep [1, 4, 9, 10], .keep [1, 4, 9, 10]]), (7, [.keep [1, 4, 9, 10]]), (11, [.keep [1, 4, 9, 10]])]
 | 84 => [(6, [.keep [1, 3, 6, 7, 8, 9]])]
 | 60 => [(3, [.keep [1, 2, 3, 4, 8, 9]])]
 | 38 => [(4, [.own 3 2, .keep [1, 3, 10, 11, 12]]), (9, [.keep [1, 3, 10, 11, 12]])]
 | 19 => [(3, [.own 3 2, .weak [6], .keep [3, 6, 7, 8]]), (7, [.keep [3, 6, 7, 8]])]
 | 22 => [(2, [.weak [8], .keep [1, 8, 9, 10]]), (7, [.keep [1, 8, 9, 10]])]
 | 39 => [(4, [.ownC 6 3 4, .weak [22], .keep [3, 5, 6, 22, 23, 24]]), (8, [.keep [3, 5, 6, 22, 23, 24]])]
 | 6 => [(6, [.freeze 9, .freeze 10, .keep [3, 6, 9, 10]])]
 | 41 => [(0, [.own 0 5]), (5, [.own 8 1, .keep [0, 4, 7, 8, 9]]), (9, [.keep [0, 4, 7, 8, 9]])]
 | 25 => [(2, [.weak [0], .keep [0, 1, 5]]), (6, [.keep [0, 1, 5]])]
 | 7 => [(4, [.weak [2, 7, 8], .keep [2, 3, 4, 7, 8, 9]]), (11, [.keep [2, 3, 4, 7, 8, 9]])]
 | 8 => [(4, [.keep [2, 3, 5]]), (8, [.keep [2, 3, 5]])]
 | 26 => [(5, [.keep [1, 2, 5, 6]]), (8, [.keep [1, 2, 5, 6]])]
 | 48 => [(4, [.keep [1, 3]]), (8, [.keep [1, 3]])]
 | 49 => [(5, [.keep [0, 3, 4]]), (10, [.keep [0, 3, 4]])]
 | 92 => [(8, [.keep [0, 1, 5]]), (12, [.keep [0, 1, 5]])]
 | 68 => [(3, [.keep [0, 1]]), (5, [.keep [0, 1]])]
 | 51 => [(4, [.keep [0, 3]]), (8, [.keep [0, 3]])]
 | 43 => [(8, [.keep [1, 3]]), (12, [.keep [1, 3]])]
 | 27 => [(3, [.keep [1, 3, 4]]), (6, [.keep [1, 3, 4]])]
 | 10 => [(3, [.ownC 3 3 4, .keep [1, 2, 3, 4]]), (6, [.keep [1, 2, 3, 4]])]
 | 28 => [(3, [.keep [1, 3, 4]]), (6, [.keep [1, 3, 4]])]
 | 11 => [(3, [.own 3 2, .keep [1, 3, 4]]), (6, [.keep [1, 3, 4]])]
 | 29 => [(4, [.weak [0, 1], .keep [0, 1, 5]]), (8, [.keep [0, 1, 5]])]
 | 12 => [(4, [.keep [2, 3, 5]]), (8, [.keep [2, 3, 5]])]
 | _ => []
def A0 : Ann := { okf := fun _ => true, keeps := fun f => [37, 41].contains f, muts := fun f => [37, 38, 39, 41, 46, 47, 56, 57, 58, 60, 73, 74, 75, 76, 77, 78, 79, 82, 83, 84, 85, 86, 87, 88, 89, 95, 97, 98, 99, 101].contains f, ros := fun f => [].contains f, loud := fun f r => ([(39, 6)] : List (Nat × Nat)).contains (f, r), pre := fun f r => ((preOf f).lookup r).getD [], clone := fun f => if f == 31 then some 0 else none, dyn := fun f q => (dynOf f).lookup q, lp := fun f q => (lpOf f).lookup q, outer := fun f => if f == 100 then some (.pure Extern.BytealgIndexByte.indexByte) else if f == 56 then some (.valueOf) else if f == 58 then some (.valLen) else if f == 57 then some (.swapper [(26, 71, 72, 79, 41)]) else if f == 73 then some (.swap) else if f == 74 then some (.swap) else if f == 75 then some (.swap) else if f == 76 then some (.swap) else if f == 77 then some (.swap) else if f == 78 then some (.swap) else if f == 79 then some (.swap) else none }
theorem clones : CloneOk Tryz.prog A0 := by
 intro f sz h call oa cap
 simp only [A0] at h
 split at h
 ·rename_i hf
  obtain rfl := Option.some.inj h
  obtain rfl : f = 31 := by simpa using hf
  refine ⟨1, ?_⟩
  cases oa with
  | none => right; right; exact ⟨by decide, by kernel_rfl⟩
  | some a => right; right; exact ⟨by decide, by kernel_rfl⟩
 cases h
theorem swapper_is : ExtIs Tryz.prog (.swapper [(26, 71, 72, 79, 41)]) (Extern.ReflectliteSwapper.swapper "internal/reflectlite" (Extern.ReflectliteValue.valueError "Swapper")) := by
 intro t f0 f1 f2 h hl w s n cap
 by_cases ht : t = 26
 ·subst ht
  obtain ⟨rfl, rfl, rfl, rfl⟩ : f0 = 71 ∧ f1 = 72 ∧ f2 = 79 ∧ h = 41 := by
   have := Option.some.inj hl
   simp only [Prod.mk.injEq] at this
   exact ⟨this.1.symm, this.2.1.symm, this.2.2.1.symm, this.2.2.2.symm⟩
  match n with
  | 0 => show Sem.run _ _ _ = _; kernel_rfl
  | 1 => show Sem.run _ _ _ = _; kernel_rfl
  | n + 2 => show Sem.run _ _ _ = _; kernel_rfl
 ·simp [List.lookup, show (t == 26) = false from by simpa using ht] at hl
theorem exts : ExtOk Tryz.prog A0 := by
 intro f k h
 simp only [A0] at h
 split at h
 ·rename_i hf
  obtain rfl := Option.some.inj h
  obtain rfl : f = 100 := by simpa using hf
  exact ⟨Tryz.f100, _, Tryz.func100, by kernel_rfl, by kernel_rfl, by kernel_rfl, (by kernel_rfl : Extern.find Tryz.f100 = some (Extern.BytealgIndexByte.indexByte)), rfl⟩
 split at h
 ·rename_i hf
  obtain rfl := Option.some.inj h
  obtain rfl : f = 56 := by simpa using hf
  exact ⟨Tryz.f56, _, Tryz.func56, by kernel_rfl, by kernel_rfl, by kernel_rfl, (by kernel_rfl : Extern.find Tryz.f56 = some (fun args => Extern.ReflectliteValue.unpack (args.getD 0 (.tuple #[])))), rfl⟩
 split at h
 ·rename_i hf
  obtain rfl := Option.some.inj h
  obtain rfl : f = 58 := by simpa using hf
  exact ⟨Tryz.f58, _, Tryz.func58, by kernel_rfl, by kernel_rfl, by kernel_rfl, (by kernel_rfl : Extern.find Tryz.f58 = some (Extern.ReflectliteValue.method (Extern.ReflectliteValue.valueError "reflectlite.Value.Len" 0) Extern.ReflectliteValue.len)), rfl⟩
 split at h
 ·rename_i hf
  obtain rfl := Option.some.inj h
  obtain rfl : f = 57 := by simpa using hf
  exact ⟨Tryz.f57, _, Tryz.func57, by kernel_rfl, by kernel_rfl, by kernel_rfl, (by kernel_rfl : Extern.find Tryz.f57 = some (Extern.ReflectliteSwapper.swapper "internal/reflectlite" (Extern.ReflectliteValue.valueError "Swapper"))), swapper_is⟩
 split at h
 ·rename_i hf
  obtain rfl := Option.some.inj h
  obtain rfl : f = 73 := by simpa using hf
  exact ⟨Tryz.f73, _, Tryz.func73, by kernel_rfl, by kernel_rfl, by kernel_rfl, (by kernel_rfl : Extern.find Tryz.f73 = some (Extern.ReflectliteSwapper.swap true)), ⟨true, rfl⟩⟩
 split at h
 ·rename_i hf
  obtain rfl := Option.some.inj h
  obtain rfl : f = 74 := by simpa using hf
  exact ⟨Tryz.f74, _, Tryz.func74, by kernel_rfl, by kernel_rfl, by kernel_rfl, (by kernel_rfl : Extern.find Tryz.f74 = some (Extern.ReflectliteSwapper.swap true)), ⟨true, rfl⟩⟩
 split at h
 ·rename_i hf
  obtain rfl := Option.some.inj h
  obtain rfl : f = 75 := by simpa using hf
  exact ⟨Tryz.f75, _, Tryz.func75, by kernel_rfl, by kernel_rfl, by kernel_rfl, (by kernel_rfl : Extern.find Tryz.f75 = some (Extern.ReflectliteSwapper.swap true)), ⟨true, rfl⟩⟩
 split at h
 ·rename_i hf
  obtain rfl := Option.some.inj h
  obtain rfl : f = 76 := by simpa using hf
  exact ⟨Tryz.f76, _, Tryz.func76, by kernel_rfl, by kernel_rfl, by kernel_rfl, (by kernel_rfl : Extern.find Tryz.f76 = some (Extern.ReflectliteSwapper.swap true)), ⟨true, rfl⟩⟩
 split at h
 ·rename_i hf
  obtain rfl := Option.some.inj h
  obtain rfl : f = 77 := by simpa using hf
  exact ⟨Tryz.f77, _, Tryz.func77, by kernel_rfl, by kernel_rfl, by kernel_rfl, (by kernel_rfl : Extern.find Tryz.f77 = some (Extern.ReflectliteSwapper.swap true)), ⟨true, rfl⟩⟩
 split at h
 ·rename_i hf
  obtain rfl := Option.some.inj h
  obtain rfl : f = 78 := by simpa using hf
  exact ⟨Tryz.f78, _, Tryz.func78, by kernel_rfl, by kernel_rfl, by kernel_rfl, (by kernel_rfl : Extern.find Tryz.f78 = some (Extern.ReflectliteSwapper.swap true)), ⟨true, rfl⟩⟩
 split at h
 ·rename_i hf
  obtain rfl := Option.some.inj h
  obtain rfl : f = 79 := by simpa using hf
  exact ⟨Tryz.f79, _, Tryz.func79, by kernel_rfl, by kernel_rfl, by kernel_rfl, (by kernel_rfl : Extern.find Tryz.f79 = some (Extern.ReflectliteSwapper.swap false)), ⟨false, rfl⟩⟩
 cases h
abbrev RG (f q : Nat) (g : List Ghost) (o : Array Oper) (d : Bool) (s : St) : Prop := evW Tryz.prog A0 f (.region q o d) s = regW Tryz.prog A0 (d && true) o o.toList (ghostsD g s)
abbrev RY (f q : Nat) (g : List Ghost) (y : List (Nat × Nat)) (o : Array Oper) (s : St) : Prop := evW Tryz.prog A0 f (.region q o true) s = regY Tryz.prog A0 (true && true) o y o.toList (ghostsD g s)
abbrev RZ (f q : Nat) (g : List Ghost) (y : List (Nat × Nat)) (o : Array Oper) (s : St) : Prop := evW Tryz.prog A0 f (.region q o true) s = regZ Tryz.prog A0 (true && false) o y o.toList (ghostsD g s)
theorem r30_0 {o d s} : RG 30 0 [] o d s := w_region
theorem r30_1 {o d s} : RG 30 1 [] o d s := w_region
theorem r30_2 {o d s} : RG 30 2 [] o d s := w_region
theorem r30_3 {o d s} : RG 30 3 [] o d s := w_region
theorem r30_4 {o d s} : RG 30 4 [] o d s := w_region
theorem r30_5 {o d s} : RG 30 5 [.keep [2, 3, 7, 8]] o d s := w_region
theorem r30_7 {o d s} : RG 30 7 [] o d s := w_region
theorem r30_8 {o d s} : RG 30 8 [] o d s := w_region
theorem r30_9 {o d s} : RG 30 9 [] o d s := w_region
theorem r30_6 {o d s} : RG 30 6 [] o d s := w_region
theorem r30_10 {o d s} : RG 30 10 [.keep [2, 3, 7, 8]] o d s := w_region
theorem r13_0 {o d s} : RG 13 0 [] o d s := w_region
theorem r13_1 {o d s} : RG 13 1 [] o d s := w_region
theorem r4_0 {o d s} : RG 4 0 [] o d s := w_region
theorem r4_1 {o d s} : RG 4 1 [] o d s := w_region
theorem r45_0 {o d s} : RG 45 0 [] o d s := w_region
theorem r45_1 {o d s} : RG 45 1 [] o d s := w_region
theorem r45_2 {o d s} : RG 45 2 [] o d s := w_region
theorem r45_3 {o d s} : RG 45 3 [] o d s := w_region
theorem r45_4 {o d s} : RG 45 4 [] o d s := w_region
theorem r45_5 {o d s} : RG 45 5 [] o d s := w_region
theorem r37_0 {o d s} : RG 37 0 [.own 0 5] o d s := w_region
theorem r37_1 {o d s} : RG 37 1 [] o d s := w_region
theorem r37_2 {o d s} : RG 37 2 [] o d s := w_region
theorem r37_3 {o d s} : RG 37 3 [] o d s := w_region
theorem r37_4 {o d s} : RG 37 4 [] o d s := w_region
theorem r37_5 {o d s} : RG 37 5 [] o d s := w_region
theorem r37_6 {o d s} : RG 37 6 [] o d s := w_region
theorem r37_7 {o d s} : RG 37 7 [.weak [35], .keep [0, 7, 8, 35, 36, 37]] o d s := w_region
theorem r37_8 {o d s} : RG 37 8 [] o d s := w_region
theorem r37_9 {o d s} : RG 37 9 [] o d s := w_region
theorem r37_10 {o d s} : RG 37 10 [] o d s := w_region
theorem r37_11 {o d s} : RG 37 11 [] o d s := w_region
theorem r37_12 {o d s} : RG 37 12 [.keep [0, 7, 8, 35, 36, 37]] o d s := w_region
theorem r37_13 {o d s} : RG 37 13 [] o d s := w_region
theorem r18_0 {o d s} : RG 18 0 [] o d s := w_region
theorem r18_1 {o d s} : RG 18 1 [] o d s := w_region
theorem r17_0 {o d s} : RG 17 0 [] o d s := w_region
theorem r17_1 {o d s} : RG 17 1 [] o d s := w_region
theorem r17_2 {o d s} : RG 17 2 [] o d s := w_region
theorem r17_3 {o d s} : RG 17 3 [] o d s := w_region
theorem r17_4 {o d s} : RG 17 4 [] o d s := w_region
theorem r17_5 {o d s} : RG 17 5 [.weak [7, 8, 20], .keep [3, 4, 7, 8, 9, 10, 20, 21, 22]] o d s := w_region
theorem r17_6 {o d s} : RG 17 6 [] o d s := w_region
theorem r17_7 {o d s} : RG 17 7 [] o d s := w_region
theorem r17_8 {o d s} : RG 17 8 [] o d s := w_region
theorem r17_9 {o d s} : RG 17 9 [] o d s := w_region
theorem r17_10 {o d s} : RG 17 10 [] o d s := w_region
theorem r17_11 {o d s} : RG 17 11 [] o d s := w_region
theorem r17_12 {o d s} : RG 17 12 [] o d s := w_region
theorem r17_13 {o d s} : RG 17 13 [.keep [3, 4, 7, 8, 9, 10, 20, 21, 22]] o d s := w_region
theorem r17_14 {o d s} : RG 17 14 [] o d s := w_region
theorem r17_15 {o d s} : RG 17 15 [] o d s := w_region
theorem r81_0 {o d s} : RG 81 0 [] o d s := w_region
theorem r81_1 {o d s} : RG 81 1 [] o d s := w_region
theorem r81_2 {o d s} : RG 81 2 [] o d s := w_region
theorem r81_3 {o d s} : RG 81 3 [] o d s := w_region
theorem r81_4 {o d s} : RG 81 4 [] o d s := w_region
theorem r81_5 {o d s} : RG 81 5 [] o d s := w_region
theorem r81_6 {o d s} : RG 81 6 [] o d s := w_region
theorem r81_7 {o d s} : RG 81 7 [] o d s := w_region
theorem r81_8 {o d s} : RG 81 8 [] o d s := w_region
theorem r81_9 {o d s} : RG 81 9 [] o d s := w_region
theorem r81_10 {o d s} : RG 81 10 [] o d s := w_region
theorem r59_0 {o d s} : RG 59 0 [] o d s := w_region
theorem r59_1 {o d s} : RG 59 1 [] o d s := w_region
theorem r59_2 {o d s} : RG 59 2 [] o d s := w_region
theorem r47_0 {o d s} : RG 47 0 [] o d s := w_region
theorem r47_1 {o d s} : RG 47 1 [] o d s := w_region
theorem r82_0 {o d s} : RG 82 0 [] o d s := w_region
theorem r82_1 {o d s} : RG 82 1 [] o d s := w_region
theorem r82_2 {o d s} : RG 82 2 [.keep [1, 2, 3, 6]] o d s := w_region
theorem r82_4 {o d s} : RG 82 4 [] o d s := w_region
theorem r82_5 {o d s} : RG 82 5 [.keep [1, 2, 3, 6, 7]] o d s := w_region
theorem r82_7 {o d s} : RG 82 7 [] o d s := w_region
theorem r82_6 {o d s} : RG 82 6 [] o d s := w_region
theorem r82_3 {o d s} : RG 82 3 [.keep [1, 2, 3, 6, 7]] o d s := w_region
theorem r95_0 {o d s} : RG 95 0 [] o d s := w_region
theorem r95_1 {o d s} : RG 95 1 [] o d s := w_region
theorem r95_2 {o d s} : RG 95 2 [.keep [2, 3, 4, 8]] o d s := w_region
theorem r95_3 {o d s} : RG 95 3 [] o d s := w_region
theorem r95_4 {o d s} : RG 95 4 [] o d s := w_region
theorem r95_5 {o d s} : RG 95 5 [] o d s := w_region
theorem r95_6 {o d s} : RG 95 6 [] o d s := w_region
theorem r95_7 {o d s} : RG 95 7 [] o d s := w_region
theorem r95_8 {o d s} : RG 95 8 [] o d s := w_region
theorem r83_0 {o d s} : RG 83 0 [] o d s := w_region
theorem r83_1 {o d s} : RG 83 1 [] o d s := w_region
theorem r83_2 {o d s} : RG 83 2 [] o d s := w_region
theorem r83_3 {o d s} : RG 83 3 [] o d s := w_region
theorem r83_4 {o d s} : RG 83 4 [] o d s := w_region
theorem r83_5 {o d s} : RG 83 5 [.keep [3, 6, 7, 8, 9]] o d s := w_region
theorem r83_7 {o d s} : RG 83 7 [] o d s := w_region
theorem r83_6 {o d s} : RG 83 6 [] o d s := w_region
theorem r83_8 {o d s} : RG 83 8 [.keep [3, 6, 7, 8, 9]] o d s := w_region
theorem r83_9 {o d s} : RG 83 9 [.keep [3, 6, 7, 10]] o d s := w_region
theorem r83_11 {o d s} : RG 83 11 [] o d s := w_region
theorem r83_12 {o d s} : RG 83 12 [] o d s := w_region
theorem r83_10 {o d s} : RG 83 10 [] o d s := w_region
theorem r101_0 {o d s} : RG 101 0 [] o d s := w_region
theorem r101_1 {o d s} : RG 101 1 [] o d s := w_region
theorem r101_2 {o d s} : RG 101 2 [] o d s := w_region
theorem r101_3 {o d s} : RG 101 3 [] o d s := w_region
theorem r101_4 {o d s} : RG 101 4 [] o d s := w_region
theorem r99_0 {o d s} : RG 99 0 [] o d s := w_region
theorem r99_1 {o d s} : RG 99 1 [] o d s := w_region
theorem r99_2 {o d s} : RG 99 2 [] o d s := w_region
theorem r99_3 {o d s} : RG 99 3 [] o d s := w_region
theorem r99_4 {o d s} : RG 99 4 [] o d s := w_region
theorem r98_0 {o d s} : RG 98 0 [] o d s := w_region
theorem r98_1 {o d s} : RG 98 1 [] o d s := w_region
theorem r85_0 {o d s} : RG 85 0 [] o d s := w_region
theorem r85_1 {o d s} : RG 85 1 [] o d s := w_region
theorem r85_2 {o d s} : RG 85 2 [] o d s := w_region
theorem r85_3 {o d s} : RG 85 3 [] o d s := w_region
theorem r85_4 {o d s} : RG 85 4 [] o d s := w_region
theorem r85_5 {o d s} : RG 85 5 [] o d s := w_region
theorem r85_6 {o d s} : RG 85 6 [] o d s := w_region
theorem r85_7 {o d s} : RG 85 7 [] o d s := w_region
theorem r85_8 {o d s} : RG 85 8 [] o d s := w_region
theorem r85_9 {o d s} : RG 85 9 [] o d s := w_region
theorem r85_10 {o d s} : RG 85 10 [] o d s := w_region
theorem r85_11 {o d s} : RG 85 11 [] o d s := w_region
theorem r85_12 {o d s} : RG 85 12 [] o d s := w_region
theorem r85_14 {o d s} : RG 85 14 [] o d s := w_region
theorem r85_15 {o d s} : RG 85 15 [] o d s := w_region
theorem r85_16 {o d s} : RG 85 16 [] o d s := w_region
theorem r85_17 {o d s} : RG 85 17 [] o d s := w_region
theorem r85_13 {o d s} : RG 85 13 [] o d s := w_region
theorem r86_0 {o d s} : RG 86 0 [] o d s := w_region
theorem r86_1 {o d s} : RG 86 1 [] o d s := w_region
theorem r86_2 {o d s} : RG 86 2 [] o d s := w_region
theorem r86_3 {o d s} : RG 86 3 [.keep [3, 6, 7]] o d s := w_region
theorem r86_4 {o d s} : RG 86 4 [] o d s := w_region
theorem r86_5 {o d s} : RG 86 5 [] o d s := w_region
theorem r86_6 {o d s} : RG 86 6 [] o d s := w_region
theorem r87_0 {o d s} : RG 87 0 [] o d s := w_region
theorem r87_1 {o d s} : RG 87 1 [] o d s := w_region
theorem r87_2 {o d s} : RG 87 2 [] o d s := w_region
theorem r87_3 {o d s} : RG 87 3 [.keep [1, 2, 3, 7, 8]] o d s := w_region
theorem r87_5 {o d s} : RG 87 5 [.keep [1, 2, 3, 7, 8]] o d s := w_region
theorem r87_6 {o d s} : RG 87 6 [] o d s := w_region
theorem r87_7 {o d s} : RG 87 7 [.keep [1, 2, 3, 7, 8]] o d s := w_region
theorem r87_8 {o d s} : RG 87 8 [] o d s := w_region
theorem r87_9 {o d s} : RG 87 9 [] o d s := w_region
theorem r87_10 {o d s} : RG 87 10 [] o d s := w_region
theorem r87_11 {o d s} : RG 87 11 [] o d s := w_region
theorem r87_12 {o d s} : RG 87 12 [] o d s := w_region
theorem r87_13 {o d s} : RG 87 13 [] o d s := w_region
theorem r87_14 {o d s} : RG 87 14 [.keep [1, 2, 3, 7, 8, 9]] o d s := w_region
theorem r87_16 {o d s} : RG 87 16 [] o d s := w_region
theorem r87_17 {o d s} : RG 87 17 [] o d s := w_region
theorem r87_15 {o d s} : RG 87 15 [] o d s := w_region
theorem r87_18 {o d s} : RG 87 18 [.keep [1, 2, 3, 7, 8, 9]] o d s := w_region
theorem r87_19 {o d s} : RG 87 19 [] o d s := w_region
theorem r87_20 {o d s} : RG 87 20 [.keep [1, 2, 3, 7, 8, 10]] o d s := w_region
theorem r87_22 {o d s} : RG 87 22 [] o d s := w_region
theorem r87_23 {o d s} : RG 87 23 [] o d s := w_region
theorem r87_21 {o d s} : RG 87 21 [] o d s := w_region
theorem r87_4 {o d s} : RG 87 4 [.keep [1, 2, 3, 7, 8, 10]] o d s := w_region
theorem r87_24 {o d s} : RG 87 24 [.keep [1, 2, 3, 7, 8]] o d s := w_region
theorem r89_0 {o d s} : RG 89 0 [] o d s := w_region
theorem r89_1 {o d s} : RG 89 1 [] o d s := w_region
theorem r89_2 {o d s} : RG 89 2 [] o d s := w_region
theorem r89_3 {o d s} : RG 89 3 [.keep [1, 4, 10, 11]] o d s := w_region
theorem r89_4 {o d s} : RG 89 4 [] o d s := w_region
theorem r89_5 {o d s} : RG 89 5 [.keep [1, 4, 10, 11], .keep [1, 4, 10, 11]] o d s := w_region
theorem r89_6 {o d s} : RG 89 6 [] o d s := w_region
theorem r89_7 {o d s} : RG 89 7 [.keep [1, 4, 10, 11]] o d s := w_region
theorem r89_8 {o d s} : RG 89 8 [] o d s := w_region
theorem r89_9 {o d s} : RG 89 9 [] o d s := w_region
theorem r89_10 {o d s} : RG 89 10 [] o d s := w_region
theorem r89_11 {o d s} : RG 89 11 [] o d s := w_region
theorem r89_12 {o d s} : RG 89 12 [] o d s := w_region
theorem r89_13 {o d s} : RG 89 13 [.keep [1, 4, 10, 11], .keep [1, 4, 10, 11]] o d s := w_region
theorem r89_14 {o d s} : RG 89 14 [] o d s := w_region
theorem r89_15 {o d s} : RG 89 15 [.keep [1, 4, 10, 11], .keep [1, 4, 10, 11]] o d s := w_region
theorem r89_16 {o d s} : RG 89 16 [] o d s := w_region
theorem r89_17 {o d s} : RG 89 17 [.keep [1, 4, 10, 11]] o d s := w_region
theorem r89_18 {o d s} : RG 89 18 [] o d s := w_region
theorem r89_19 {o d s} : RG 89 19 [] o d s := w_region
theorem r89_20 {o d s} : RG 89 20 [] o d s := w_region
theorem r89_21 {o d s} : RG 89 21 [.keep [1, 4, 10, 11]] o d s := w_region
theorem r89_22 {o d s} : RG 89 22 [] o d s := w_region
theorem r88_0 {o d s} : RG 88 0 [] o d s := w_region
theorem r88_1 {o d s} : RG 88 1 [] o d s := w_region
theorem r88_2 {o d s} : RG 88 2 [] o d s := w_region
theorem r88_3 {o d s} : RG 88 3 [.keep [1, 4, 9, 10], .keep [1, 4, 9, 10]] o d s := w_region
theorem r88_4 {o d s} : RG 88 4 [] o d s := w_region
theorem r88_5 {o d s} : RG 88 5 [.keep [1, 4, 9, 10], .keep [1, 4, 9, 10]] o d s := w_region
theorem r88_6 {o d s} : RG 88 6 [] o d s := w_region
theorem r88_7 {o d s} : RG 88 7 [.keep [1, 4, 9, 10]] o d s := w_region
theorem r88_8 {o d s} : RG 88 8 [] o d s := w_region
theorem r88_9 {o d s} : RG 88 9 [] o d s := w_region
theorem r88_10 {o d s} : RG 88 10 [] o d s := w_region
theorem r88_11 {o d s} : RG 88 11 [.keep [1, 4, 9, 10]] o d s := w_region
theorem r96_0 {o d s} : RG 96 0 [] o d s := w_region
theorem r96_1 {o d s} : RG 96 1 [] o d s := w_region
theorem r96_2 {o d s} : RG 96 2 [] o d s := w_region
theorem r97_0 {o d s} : RG 97 0 [] o d s := w_region
theorem r97_1 {o d s} : RG 97 1 [] o d s := w_region
theorem r97_2 {o d s} : RG 97 2 [] o d s := w_region
theorem r97_3 {o d s} : RG 97 3 [] o d s := w_region
theorem r97_4 {o d s} : RG 97 4 [] o d s := w_region
theorem r84_0 {o d s} : RG 84 0 [] o d s := w_region
theorem r84_1 {o d s} : RG 84 1 [] o d s := w_region
theorem r84_2 {o d s} : RG 84 2 [] o d s := w_region
theorem r84_3 {o d s} : RG 84 3 [] o d s := w_region
theorem r84_4 {o d s} : RG 84 4 [] o d s := w_region
theorem r84_5 {o d s} : RG 84 5 [] o d s := w_region
theorem r84_6 {o d s} : RG 84 6 [.keep [1, 3, 6, 7, 8, 9]] o d s := w_region
theorem r84_8 {o d s} : RG 84 8 [] o d s := w_region
theorem r84_9 {o d s} : RG 84 9 [] o d s := w_region
theorem r84_10 {o d s} : RG 84 10 [] o d s := w_region
theorem r84_11 {o d s} : RG 84 11 [] o d s := w_region
theorem r84_7 {o d s} : RG 84 7 [] o d s := w_region
theorem r60_0 {o d s} : RG 60 0 [] o d s := w_region
theorem r60_1 {o d s} : RG 60 1 [] o d s := w_region
theorem r60_2 {o d s} : RG 60 2 [] o d s := w_region
theorem r60_3 {o d s} : RG 60 3 [.keep [1, 2, 3, 4, 8, 9]] o d s := w_region
theorem r60_4 {o d s} : RG 60 4 [] o d s := w_region
theorem r60_5 {o d s} : RG 60 5 [] o d s := w_region
theorem r60_6 {o d s} : RG 60 6 [] o d s := w_region
theorem r60_7 {o d s} : RG 60 7 [] o d s := w_region
theorem r60_8 {o d s} : RG 60 8 [] o d s := w_region
theorem r60_9 {o d s} : RG 60 9 [] o d s := w_region
theorem r60_10 {o d s} : RG 60 10 [] o d s := w_region
theorem r60_11 {o d s} : RG 60 11 [] o d s := w_region
theorem r60_12 {o d s} : RG 60 12 [] o d s := w_region
theorem r60_13 {o d s} : RG 60 13 [] o d s := w_region
theorem r60_14 {o d s} : RG 60 14 [] o d s := w_region
theorem r60_15 {o d s} : RG 60 15 [] o d s := w_region
theorem r60_16 {o d s} : RG 60 16 [] o d s := w_region
theorem r60_17 {o d s} : RG 60 17 [] o d s := w_region
theorem r60_18 {o d s} : RG 60 18 [] o d s := w_region
theorem r60_19 {o d s} : RG 60 19 [] o d s := w_region
theorem r60_20 {o d s} : RG 60 20 [] o d s := w_region
theorem r60_21 {o d s} : RG 60 21 [] o d s := w_region
theorem r60_22 {o d s} : RG 60 22 [] o d s := w_region
theorem r60_23 {o d s} : RG 60 23 [] o d s := w_region
theorem r60_24 {o d s} : RG 60 24 [] o d s := w_region
theorem r60_25 {o d s} : RG 60 25 [] o d s := w_region
theorem r60_26 {o d s} : RG 60 26 [] o d s := w_region
theorem r60_27 {o d s} : RG 60 27 [] o d s := w_region
theorem r60_28 {o d s} : RG 60 28 [] o d s := w_region
theorem r60_29 {o d s} : RG 60 29 [] o d s := w_region
theorem r60_30 {o d s} : RG 60 30 [] o d s := w_region
theorem r60_31 {o d s} : RG 60 31 [] o d s := w_region
theorem r46_0 {o d s} : RG 46 0 [] o d s := w_region
theorem r46_1 {o d s} : RG 46 1 [] o d s := w_region
theorem r46_2 {o d s} : RG 46 2 [] o d s := w_region
theorem r46_3 {o d s} : RG 46 3 [] o d s := w_region
theorem r46_4 {o d s} : RG 46 4 [] o d s := w_region
theorem r38_0 {o d s} : RG 38 0 [] o d s := w_region
theorem r38_1 {o d s} : RG 38 1 [] o d s := w_region
theorem r38_2 {o d s} : RG 38 2 [] o d s := w_region
theorem r38_3 {o d s} : RG 38 3 [] o d s := w_region
theorem r38_4 {o d s} : RG 38 4 [.own 3 2, .keep [1, 3, 10, 11, 12]] o d s := w_region
theorem r38_5 {o d s} : RG 38 5 [] o d s := w_region
theorem r38_6 {o d s} : RG 38 6 [] o d s := w_region
theorem r38_7 {o d s} : RG 38 7 [] o d s := w_region
theorem r38_8 {o d s} : RG 38 8 [] o d s := w_region
theorem r38_9 {o d s} : RG 38 9 [.keep [1, 3, 10, 11, 12]] o d s := w_region
theorem r19_0 {o d s} : RG 19 0 [] o d s := w_region
theorem r19_1 {o d s} : RG 19 1 [] o d s := w_region
theorem r19_2 {o d s} : RG 19 2 [] o d s := w_region
theorem r19_3 {o d s} : RG 19 3 [.own 3 2, .weak [6], .keep [3, 6, 7, 8]] o d s := w_region
theorem r19_4 {o d s} : RG 19 4 [] o d s := w_region
theorem r19_5 {o d s} : RG 19 5 [] o d s := w_region
theorem r19_6 {o d s} : RG 19 6 [] o d s := w_region
theorem r19_7 {o d s} : RG 19 7 [.keep [3, 6, 7, 8]] o d s := w_region
theorem r22_0 {o d s} : RG 22 0 [] o d s := w_region
theorem r22_1 {o d s} : RG 22 1 [] o d s := w_region
theorem r22_2 {o d s} : RG 22 2 [.weak [8], .keep [1, 8, 9, 10]] o d s := w_region
theorem r22_3 {o d s} : RG 22 3 [] o d s := w_region
theorem r22_4 {o d s} : RG 22 4 [] o d s := w_region
theorem r22_5 {o d s} : RG 22 5 [] o d s := w_region
theorem r22_6 {o d s} : RG 22 6 [] o d s := w_region
theorem r22_7 {o d s} : RG 22 7 [.keep [1, 8, 9, 10]] o d s := w_region
theorem r40_0 {o d s} : RG 40 0 [] o d s := w_region
theorem r40_1 {o d s} : RG 40 1 [] o d s := w_region
theorem r23_0 {o d s} : RG 23 0 [] o d s := w_region
theorem r23_1 {o d s} : RG 23 1 [] o d s := w_region
theorem r23_2 {o d s} : RG 23 2 [] o d s := w_region
theorem r23_3 {o d s} : RG 23 3 [] o d s := w_region
theorem r23_4 {o d s} : RG 23 4 [] o d s := w_region
theorem r23_5 {o d s} : RG 23 5 [] o d s := w_region
theorem r23_6 {o d s} : RG 23 6 [] o d s := w_region
theorem r23_7 {o d s} : RG 23 7 [] o d s := w_region
theorem r23_8 {o d s} : RG 23 8 [] o d s := w_region
theorem r23_9 {o d s} : RG 23 9 [] o d s := w_region
theorem r23_10 {o d s} : RG 23 10 [] o d s := w_region
theorem r23_11 {o d s} : RG 23 11 [] o d s := w_region
theorem r23_12 {o d s} : RG 23 12 [] o d s := w_region
theorem r23_13 {o d s} : RG 23 13 [] o d s := w_region
theorem r23_14 {o d s} : RG 23 14 [] o d s := w_region
theorem r23_15 {o d s} : RG 23 15 [] o d s := w_region
theorem r23_16 {o d s} : RG 23 16 [] o d s := w_region
theorem r21_0 {o d s} : RG 21 0 [] o d s := w_region
theorem r21_1 {o d s} : RG 21 1 [] o d s := w_region
theorem r21_2 {o d s} : RG 21 2 [] o d s := w_region
theorem r21_3 {o d s} : RG 21 3 [] o d s := w_region
theorem r21_4 {o d s} : RG 21 4 [] o d s := w_region
theorem r31_0 {o d s} : RG 31 0 [] o d s := w_region
theorem r31_1 {o d s} : RG 31 1 [] o d s := w_region
theorem r31_2 {o d s} : RG 31 2 [] o d s := w_region
theorem r31_3 {o d s} : RG 31 3 [] o d s := w_region
theorem r39_0 {o d s} : RG 39 0 [] o d s := w_region
theorem r39_1 {o d s} : RG 39 1 [] o d s := w_region
theorem r39_2 {o s} : RY 39 2 [] [(1, 10), (3, 10), (4, 10), (5, 10), (6, 10), (7, 10), (8, 10)] o s := w_regionY rfl
theorem r39_3 {o d s} : RG 39 3 [] o d s := w_region
theorem r39_4 {o d s} : RG 39 4 [.ownC 6 3 4, .weak [22], .keep [3, 5, 6, 22, 23, 24]] o d s := w_region
theorem r39_5 {o d s} : RG 39 5 [] o d s := w_region
theorem r39_6 {o s} : RZ 39 6 [] [(1, 4), (1, 5)] o s := w_regionZ rfl rfl
theorem r39_7 {o d s} : RG 39 7 [] o d s := w_region
theorem r39_8 {o d s} : RG 39 8 [.keep [3, 5, 6, 22, 23, 24]] o d s := w_region
theorem r20_0 {o d s} : RG 20 0 [] o d s := w_region
theorem r20_1 {o d s} : RG 20 1 [] o d s := w_region
theorem r20_2 {o d s} : RG 20 2 [] o d s := w_region
theorem r20_3 {o d s} : RG 20 3 [] o d s := w_region
theorem r20_4 {o d s} : RG 20 4 [] o d s := w_region
theorem r6_0 {o d s} : RG 6 0 [] o d s := w_region
theorem r6_1 {o d s} : RG 6 1 [] o d s := w_region
theorem r6_2 {o d s} : RG 6 2 [] o d s := w_region
theorem r6_3 {o d s} : RG 6 3 [] o d s := w_region
theorem r6_4 {o d s} : RG 6 4 [] o d s := w_region
theorem r6_5 {o d s} : RG 6 5 [] o d s := w_region
theorem r6_6 {o d s} : RG 6 6 [.freeze 9, .freeze 10, .keep [3, 6, 9, 10]] o d s := w_region
theorem r41_0 {o d s} : RG 41 0 [.own 0 5] o d s := w_region
theorem r41_1 {o d s} : RG 41 1 [] o d s := w_region
theorem r41_2 {o d s} : RG 41 2 [] o d s := w_region
theorem r41_3 {o d s} : RG 41 3 [] o d s := w_region
theorem r41_4 {o d s} : RG 41 4 [] o d s := w_region
theorem r41_5 {o d s} : RG 41 5 [.own 8 1, .keep [0, 4, 7, 8, 9]] o d s := w_region
theorem r41_7 {o d s} : RG 41 7 [] o d s := w_region
theorem r41_8 {o d s} : RG 41 8 [] o d s := w_region
theorem r41_6 {o d s} : RG 41 6 [] o d s := w_region
theorem r41_9 {o d s} : RG 41 9 [.keep [0, 4, 7, 8, 9]] o d s := w_region
theorem r41_10 {o d s} : RG 41 10 [] o d s := w_region
theorem r24_0 {o d s} : RG 24 0 [] o d s := w_region
theorem r24_1 {o d s} : RG 24 1 [] o d s := w_region
theorem r24_2 {o d s} : RG 24 2 [] o d s := w_region
theorem r25_0 {o d s} : RG 25 0 [] o d s := w_region
theorem r25_1 {o d s} : RG 25 1 [] o d s := w_region
theorem r25_2 {o d s} : RG 25 2 [.weak [0], .keep [0, 1, 5]] o d s := w_region
theorem r25_4 {o d s} : RG 25 4 [] o d s := w_region
theorem r25_5 {o d s} : RG 25 5 [] o d s := w_region
theorem r25_3 {o d s} : RG 25 3 [] o d s := w_region
theorem r25_6 {o d s} : RG 25 6 [.keep [0, 1, 5]] o d s := w_region
theorem r7_0 {o d s} : RG 7 0 [] o d s := w_region
theorem r7_1 {o d s} : RG 7 1 [] o d s := w_region
theorem r7_2 {o d s} : RG 7 2 [] o d s := w_region
theorem r7_3 {o d s} : RG 7 3 [] o d s := w_region
theorem r7_4 {o d s} : RG 7 4 [.weak [2, 7, 8], .keep [2, 3, 4, 7, 8, 9]] o d s := w_region
theorem r7_6 {o d s} : RG 7 6 [] o d s := w_region
theorem r7_7 {o d s} : RG 7 7 [] o d s := w_region
theorem r7_8 {o d s} : RG 7 8 [] o d s := w_region
theorem r7_9 {o d s} : RG 7 9 [] o d s := w_region
theorem r7_10 {o d s} : RG 7 10 [] o d s := w_region
theorem r7_5 {o d s} : RG 7 5 [] o d s := w_region
theorem r7_11 {o d s} : RG 7 11 [.keep [2, 3, 4, 7, 8, 9]] o d s := w_region
theorem r7_12 {o d s} : RG 7 12 [] o d s := w_region
theorem r7_13 {o d s} : RG 7 13 [] o d s := w_region
theorem r8_0 {o d s} : RG 8 0 [] o d s := w_region
theorem r8_1 {o d s} : RG 8 1 [] o d s := w_region
theorem r8_2 {o d s} : RG 8 2 [] o d s := w_region
theorem r8_3 {o d s} : RG 8 3 [] o d s := w_region
theorem r8_4 {o d s} : RG 8 4 [.keep [2, 3, 5]] o d s := w_region
theorem r8_6 {o d s} : RG 8 6 [] o d s := w_region
theorem r8_7 {o d s} : RG 8 7 [] o d s := w_region
theorem r8_5 {o d s} : RG 8 5 [] o d s := w_region
theorem r8_8 {o d s} : RG 8 8 [.keep [2, 3, 5]] o d s := w_region
theorem r42_0 {o d s} : RG 42 0 [] o d s := w_region
theorem r42_1 {o d s} : RG 42 1 [] o d s := w_region
theorem r42_2 {o d s} : RG 42 2 [] o d s := w_region
theorem r42_3 {o d s} : RG 42 3 [] o d s := w_region
theorem r42_4 {o d s} : RG 42 4 [] o d s := w_region
theorem r42_5 {o d s} : RG 42 5 [] o d s := w_region
theorem r42_6 {o d s} : RG 42 6 [] o d s := w_region
theorem r42_7 {o d s} : RG 42 7 [] o d s := w_region
theorem r26_0 {o d s} : RG 26 0 [] o d s := w_region
theorem r26_1 {o d s} : RG 26 1 [] o d s := w_region
theorem r26_2 {o d s} : RG 26 2 [] o d s := w_region
theorem r26_3 {o d s} : RG 26 3 [] o d s := w_region
theorem r26_4 {o d s} : RG 26 4 [] o d s := w_region
theorem r26_5 {o d s} : RG 26 5 [.keep [1, 2, 5, 6]] o d s := w_region
theorem r26_7 {o d s} : RG 26 7 [] o d s := w_region
theorem r26_6 {o d s} : RG 26 6 [] o d s := w_region
theorem r26_8 {o d s} : RG 26 8 [.keep [1, 2, 5, 6]] o d s := w_region
theorem r61_0 {o d s} : RG 61 0 [] o d s := w_region
theorem r61_1 {o d s} : RG 61 1 [] o d s := w_region
theorem r61_2 {o d s} : RG 61 2 [] o d s := w_region
theorem r61_3 {o d s} : RG 61 3 [] o d s := w_region
theorem r61_4 {o d s} : RG 61 4 [] o d s := w_region
theorem r61_5 {o d s} : RG 61 5 [] o d s := w_region
theorem r61_6 {o d s} : RG 61 6 [] o d s := w_region
theorem r61_7 {o d s} : RG 61 7 [] o d s := w_region
theorem r61_8 {o d s} : RG 61 8 [] o d s := w_region
theorem r61_9 {o d s} : RG 61 9 [] o d s := w_region
theorem r61_10 {o d s} : RG 61 10 [] o d s := w_region
theorem r61_11 {o d s} : RG 61 11 [] o d s := w_region
theorem r61_12 {o d s} : RG 61 12 [] o d s := w_region
theorem r61_13 {o d s} : RG 61 13 [] o d s := w_region
theorem r61_14 {o d s} : RG 61 14 [] o d s := w_region
theorem r61_15 {o d s} : RG 61 15 [] o d s := w_region
theorem r61_16 {o d s} : RG 61 16 [] o d s := w_region
theorem r61_17 {o d s} : RG 61 17 [] o d s := w_region
theorem r61_18 {o d s} : RG 61 18 [] o d s := w_region
theorem r61_19 {o d s} : RG 61 19 [] o d s := w_region
theorem r90_0 {o d s} : RG 90 0 [] o d s := w_region
theorem r90_1 {o d s} : RG 90 1 [] o d s := w_region
theorem r90_2 {o d s} : RG 90 2 [] o d s := w_region
theorem r90_3 {o d s} : RG 90 3 [] o d s := w_region
theorem r90_4 {o d s} : RG 90 4 [] o d s := w_region
theorem r90_5 {o d s} : RG 90 5 [] o d s := w_region
theorem r90_6 {o d s} : RG 90 6 [] o d s := w_region
theorem r90_7 {o d s} : RG 90 7 [] o d s := w_region
theorem r62_0 {o d s} : RG 62 0 [] o d s := w_region
theorem r62_1 {o d s} : RG 62 1 [] o d s := w_region
theorem r62_2 {o d s} : RG 62 2 [] o d s := w_region
theorem r62_3 {o d s} : RG 62 3 [] o d s := w_region
theorem r62_4 {o d s} : RG 62 4 [] o d s := w_region
theorem r62_5 {o d s} : RG 62 5 [] o d s := w_region
theorem r62_6 {o d s} : RG 62 6 [] o d s := w_region
theorem r62_7 {o d s} : RG 62 7 [] o d s := w_region
theorem r62_8 {o d s} : RG 62 8 [] o d s := w_region
theorem r62_9 {o d s} : RG 62 9 [] o d s := w_region
theorem r62_10 {o d s} : RG 62 10 [] o d s := w_region
theorem r62_11 {o d s} : RG 62 11 [] o d s := w_region
theorem r62_12 {o d s} : RG 62 12 [] o d s := w_region
theorem r62_13 {o d s} : RG 62 13 [] o d s := w_region
theorem r62_14 {o d s} : RG 62 14 [] o d s := w_region
theorem r62_15 {o d s} : RG 62 15 [] o d s := w_region
theorem r62_16 {o d s} : RG 62 16 [] o d s := w_region
theorem r62_17 {o d s} : RG 62 17 [] o d s := w_region
theorem r62_18 {o d s} : RG 62 18 [] o d s := w_region
theorem r62_19 {o d s} : RG 62 19 [] o d s := w_region
theorem r62_20 {o d s} : RG 62 20 [] o d s := w_region
theorem r62_21 {o d s} : RG 62 21 [] o d s := w_region
theorem r62_22 {o d s} : RG 62 22 [] o d s := w_region
theorem r62_23 {o d s} : RG 62 23 [] o d s := w_region
theorem r62_24 {o d s} : RG 62 24 [] o d s := w_region
theorem r62_25 {o d s} : RG 62 25 [] o d s := w_region
theorem r62_26 {o d s} : RG 62 26 [] o d s := w_region
theorem r62_27 {o d s} : RG 62 27 [] o d s := w_region
theorem r62_28 {o d s} : RG 62 28 [] o d s := w_region
theorem r62_29 {o d s} : RG 62 29 [] o d s := w_region
theorem r62_30 {o d s} : RG 62 30 [] o d s := w_region
theorem r62_31 {o d s} : RG 62 31 [] o d s := w_region
theorem r62_32 {o d s} : RG 62 32 [] o d s := w_region
theorem r62_33 {o d s} : RG 62 33 [] o d s := w_region
theorem r62_34 {o d s} : RG 62 34 [] o d s := w_region
theorem r62_35 {o d s} : RG 62 35 [] o d s := w_region
theorem r50_0 {o d s} : RG 50 0 [] o d s := w_region
theorem r50_1 {o d s} : RG 50 1 [] o d s := w_region
theorem r50_2 {o d s} : RG 50 2 [] o d s := w_region
theorem r50_3 {o d s} : RG 50 3 [] o d s := w_region
theorem r50_4 {o d s} : RG 50 4 [] o d s := w_region
theorem r50_5 {o d s} : RG 50 5 [] o d s := w_region
theorem r50_6 {o d s} : RG 50 6 [] o d s := w_region
theorem r50_7 {o d s} : RG 50 7 [] o d s := w_region
theorem r50_8 {o d s} : RG 50 8 [] o d s := w_region
theorem r50_9 {o d s} : RG 50 9 [] o d s := w_region
theorem r50_10 {o d s} : RG 50 10 [] o d s := w_region
theorem r50_11 {o d s} : RG 50 11 [] o d s := w_region
theorem r50_12 {o d s} : RG 50 12 [] o d s := w_region
theorem r50_13 {o d s} : RG 50 13 [] o d s := w_region
theorem r50_14 {o d s} : RG 50 14 [] o d s := w_region
theorem r50_15 {o d s} : RG 50 15 [] o d s := w_region
theorem r50_16 {o d s} : RG 50 16 [] o d s := w_region
theorem r50_17 {o d s} : RG 50 17 [] o d s := w_region
theorem r91_0 {o d s} : RG 91 0 [] o d s := w_region
theorem r91_1 {o d s} : RG 91 1 [] o d s := w_region
theorem r91_2 {o d s} : RG 91 2 [] o d s := w_region
theorem r91_3 {o d s} : RG 91 3 [] o d s := w_region
theorem r91_4 {o d s} : RG 91 4 [] o d s := w_region
theorem r91_5 {o d s} : RG 91 5 [] o d s := w_region
theorem r91_6 {o d s} : RG 91 6 [] o d s := w_region
theorem r91_7 {o d s} : RG 91 7 [] o d s := w_region
theorem r91_8 {o d s} : RG 91 8 [] o d s := w_region
theorem r91_9 {o d s} : RG 91 9 [] o d s := w_region
theorem r91_10 {o d s} : RG 91 10 [] o d s := w_region
theorem r91_11 {o d s} : RG 91 11 [] o d s := w_region
theorem r91_12 {o d s} : RG 91 12 [] o d s := w_region
theorem r91_13 {o d s} : RG 91 13 [] o d s := w_region
theorem r91_14 {o d s} : RG 91 14 [] o d s := w_region
theorem r91_15 {o d s} : RG 91 15 [] o d s := w_region
theorem r91_16 {o d s} : RG 91 16 [] o d s := w_region
theorem r91_17 {o d s} : RG 91 17 [] o d s := w_region
theorem r91_18 {o d s} : RG 91 18 [] o d s := w_region
theorem r91_19 {o d s} : RG 91 19 [] o d s := w_region
theorem r91_20 {o d s} : RG 91 20 [] o d s := w_region
theorem r91_21 {o d s} : RG 91 21 [] o d s := w_region
theorem r64_0 {o d s} : RG 64 0 [] o d s := w_region
theorem r64_1 {o d s} : RG 64 1 [] o d s := w_region
theorem r64_2 {o d s} : RG 64 2 [] o d s := w_region
theorem r64_3 {o d s} : RG 64 3 [] o d s := w_region
theorem r64_4 {o d s} : RG 64 4 [] o d s := w_region
theorem r64_5 {o d s} : RG 64 5 [] o d s := w_region
theorem r64_6 {o d s} : RG 64 6 [] o d s := w_region
theorem r64_7 {o d s} : RG 64 7 [] o d s := w_region
theorem r64_8 {o d s} : RG 64 8 [] o d s := w_region
theorem r64_9 {o d s} : RG 64 9 [] o d s := w_region
theorem r64_10 {o d s} : RG 64 10 [] o d s := w_region
theorem r64_11 {o d s} : RG 64 11 [] o d s := w_region
theorem r63_0 {o d s} : RG 63 0 [] o d s := w_region
theorem r63_1 {o d s} : RG 63 1 [] o d s := w_region
theorem r63_2 {o d s} : RG 63 2 [] o d s := w_region
theorem r63_3 {o d s} : RG 63 3 [] o d s := w_region
theorem r63_4 {o d s} : RG 63 4 [] o d s := w_region
theorem r63_5 {o d s} : RG 63 5 [] o d s := w_region
theorem r63_6 {o d s} : RG 63 6 [] o d s := w_region
theorem r63_7 {o d s} : RG 63 7 [] o d s := w_region
theorem r63_8 {o d s} : RG 63 8 [] o d s := w_region
theorem r63_9 {o d s} : RG 63 9 [] o d s := w_region
theorem r63_10 {o d s} : RG 63 10 [] o d s := w_region
theorem r48_0 {o d s} : RG 48 0 [] o d s := w_region
theorem r48_1 {o d s} : RG 48 1 [] o d s := w_region
theorem r48_2 {o d s} : RG 48 2 [] o d s := w_region
theorem r48_3 {o d s} : RG 48 3 [] o d s := w_region
theorem r48_4 {o d s} : RG 48 4 [.keep [1, 3]] o d s := w_region
theorem r48_6 {o d s} : RG 48 6 [] o d s := w_region
theorem r48_7 {o d s} : RG 48 7 [] o d s := w_region
theorem r48_5 {o d s} : RG 48 5 [] o d s := w_region
theorem r48_8 {o d s} : RG 48 8 [.keep [1, 3]] o d s := w_region
theorem r49_0 {o d s} : RG 49 0 [] o d s := w_region
theorem r49_1 {o d s} : RG 49 1 [] o d s := w_region
theorem r49_2 {o d s} : RG 49 2 [] o d s := w_region
theorem r49_3 {o d s} : RG 49 3 [] o d s := w_region
theorem r49_4 {o d s} : RG 49 4 [] o d s := w_region
theorem r49_5 {o d s} : RG 49 5 [.keep [0, 3, 4]] o d s := w_region
theorem r49_7 {o d s} : RG 49 7 [] o d s := w_region
theorem r49_8 {o d s} : RG 49 8 [] o d s := w_region
theorem r49_9 {o d s} : RG 49 9 [] o d s := w_region
theorem r49_6 {o d s} : RG 49 6 [] o d s := w_region
theorem r49_10 {o d s} : RG 49 10 [.keep [0, 3, 4]] o d s := w_region
theorem r52_0 {o d s} : RG 52 0 [] o d s := w_region
theorem r52_1 {o d s} : RG 52 1 [] o d s := w_region
theorem r52_2 {o d s} : RG 52 2 [] o d s := w_region
theorem r52_3 {o d s} : RG 52 3 [] o d s := w_region
theorem r52_4 {o d s} : RG 52 4 [] o d s := w_region
theorem r52_5 {o d s} : RG 52 5 [] o d s := w_region
theorem r52_6 {o d s} : RG 52 6 [] o d s := w_region
theorem r52_7 {o d s} : RG 52 7 [] o d s := w_region
theorem r52_8 {o d s} : RG 52 8 [] o d s := w_region
theorem r52_9 {o d s} : RG 52 9 [] o d s := w_region
theorem r52_10 {o d s} : RG 52 10 [] o d s := w_region
theorem r52_11 {o d s} : RG 52 11 [] o d s := w_region
theorem r52_12 {o d s} : RG 52 12 [] o d s := w_region
theorem r52_13 {o d s} : RG 52 13 [] o d s := w_region
theorem r52_14 {o d s} : RG 52 14 [] o d s := w_region
theorem r52_15 {o d s} : RG 52 15 [] o d s := w_region
theorem r52_16 {o d s} : RG 52 16 [] o d s := w_region
theorem r52_17 {o d s} : RG 52 17 [] o d s := w_region
theorem r52_18 {o d s} : RG 52 18 [] o d s := w_region
theorem r52_19 {o d s} : RG 52 19 [] o d s := w_region
theorem r52_20 {o d s} : RG 52 20 [] o d s := w_region
theorem r52_21 {o d s} : RG 52 21 [] o d s := w_region
theorem r52_22 {o d s} : RG 52 22 [] o d s := w_region
theorem r52_23 {o d s} : RG 52 23 [] o d s := w_region
theorem r52_24 {o d s} : RG 52 24 [] o d s := w_region
theorem r52_25 {o d s} : RG 52 25 [] o d s := w_region
theorem r52_26 {o d s} : RG 52 26 [] o d s := w_region
theorem r52_27 {o d s} : RG 52 27 [] o d s := w_region
theorem r52_28 {o d s} : RG 52 28 [] o d s := w_region
theorem r52_29 {o d s} : RG 52 29 [] o d s := w_region
theorem r92_0 {o d s} : RG 92 0 [] o d s := w_region
theorem r92_1 {o d s} : RG 92 1 [] o d s := w_region
theorem r92_2 {o d s} : RG 92 2 [] o d s := w_region
theorem r92_3 {o d s} : RG 92 3 [] o d s := w_region
theorem r92_4 {o d s} : RG 92 4 [] o d s := w_region
theorem r92_5 {o d s} : RG 92 5 [] o d s := w_region
theorem r92_6 {o d s} : RG 92 6 [] o d s := w_region
theorem r92_7 {o d s} : RG 92 7 [] o d s := w_region
theorem r92_8 {o d s} : RG 92 8 [.keep [0, 1, 5]] o d s := w_region
theorem r92_10 {o d s} : RG 92 10 [] o d s := w_region
theorem r92_11 {o d s} : RG 92 11 [] o d s := w_region
theorem r92_9 {o d s} : RG 92 9 [] o d s := w_region
theorem r92_12 {o d s} : RG 92 12 [.keep [0, 1, 5]] o d s := w_region
theorem r68_0 {o d s} : RG 68 0 [] o d s := w_region
theorem r68_1 {o d s} : RG 68 1 [] o d s := w_region
theorem r68_2 {o d s} : RG 68 2 [] o d s := w_region
theorem r68_3 {o d s} : RG 68 3 [.keep [0, 1]] o d s := w_region
theorem r68_4 {o d s} : RG 68 4 [] o d s := w_region
theorem r68_5 {o d s} : RG 68 5 [.keep [0, 1]] o d s := w_region
theorem r53_0 {o d s} : RG 53 0 [] o d s := w_region
theorem r53_1 {o d s} : RG 53 1 [] o d s := w_region
theorem r65_0 {o d s} : RG 65 0 [] o d s := w_region
theorem r65_1 {o d s} : RG 65 1 [] o d s := w_region
theorem r66_0 {o d s} : RG 66 0 [] o d s := w_region
theorem r66_1 {o d s} : RG 66 1 [] o d s := w_region
theorem r67_0 {o d s} : RG 67 0 [] o d s := w_region
theorem r67_1 {o d s} : RG 67 1 [] o d s := w_region
theorem r51_0 {o d s} : RG 51 0 [] o d s := w_region
theorem r51_1 {o d s} : RG 51 1 [] o d s := w_region
theorem r51_2 {o d s} : RG 51 2 [] o d s := w_region
theorem r51_3 {o d s} : RG 51 3 [] o d s := w_region
theorem r51_4 {o d s} : RG 51 4 [.keep [0, 3]] o d s := w_region
theorem r51_6 {o d s} : RG 51 6 [] o d s := w_region
theorem r51_7 {o d s} : RG 51 7 [] o d s := w_region
theorem r51_5 {o d s} : RG 51 5 [] o d s := w_region
theorem r51_8 {o d s} : RG 51 8 [.keep [0, 3]] o d s := w_region
theorem r43_0 {o d s} : RG 43 0 [] o d s := w_region
theorem r43_1 {o d s} : RG 43 1 [] o d s := w_region
theorem r43_2 {o d s} : RG 43 2 [] o d s := w_region
theorem r43_3 {o d s} : RG 43 3 [] o d s := w_region
theorem r43_4 {o d s} : RG 43 4 [] o d s := w_region
theorem r43_5 {o d s} : RG 43 5 [] o d s := w_region
theorem r43_6 {o d s} : RG 43 6 [] o d s := w_region
theorem r43_7 {o d s} : RG 43 7 [] o d s := w_region
theorem r43_8 {o d s} : RG 43 8 [.keep [1, 3]] o d s := w_region
theorem r43_10 {o d s} : RG 43 10 [] o d s := w_region
theorem r43_11 {o d s} : RG 43 11 [] o d s := w_region
theorem r43_9 {o d s} : RG 43 9 [] o d s := w_region
theorem r43_12 {o d s} : RG 43 12 [.keep [1, 3]] o d s := w_region
theorem r27_0 {o d s} : RG 27 0 [] o d s := w_region
theorem r27_1 {o d s} : RG 27 1 [] o d s := w_region
theorem r27_2 {o d s} : RG 27 2 [] o d s := w_region
theorem r27_3 {o d s} : RG 27 3 [.keep [1, 3, 4]] o d s := w_region
theorem r27_5 {o d s} : RG 27 5 [] o d s := w_region
theorem r27_4 {o d s} : RG 27 4 [] o d s := w_region
theorem r27_6 {o d s} : RG 27 6 [.keep [1, 3, 4]] o d s := w_region
theorem r9_0 {o d s} : RG 9 0 [] o d s := w_region
theorem r9_1 {o d s} : RG 9 1 [] o d s := w_region
theorem r9_2 {o d s} : RG 9 2 [] o d s := w_region
theorem r9_3 {o d s} : RG 9 3 [] o d s := w_region
theorem r10_0 {o d s} : RG 10 0 [] o d s := w_region
theorem r10_1 {o d s} : RG 10 1 [] o d s := w_region
theorem r10_2 {o d s} : RG 10 2 [] o d s := w_region
theorem r10_3 {o d s} : RG 10 3 [.ownC 3 3 4, .keep [1, 2, 3, 4]] o d s := w_region
theorem r10_5 {o d s} : RG 10 5 [] o d s := w_region
theorem r10_4 {o d s} : RG 10 4 [] o d s := w_region
theorem r10_6 {o d s} : RG 10 6 [.keep [1, 2, 3, 4]] o d s := w_region
theorem r28_0 {o d s} : RG 28 0 [] o d s := w_region
theorem r28_1 {o d s} : RG 28 1 [] o d s := w_region
theorem r28_2 {o d s} : RG 28 2 [] o d s := w_region
theorem r28_3 {o d s} : RG 28 3 [.keep [1, 3, 4]] o d s := w_region
theorem r28_5 {o d s} : RG 28 5 [] o d s := w_region
theorem r28_4 {o d s} : RG 28 4 [] o d s := w_region
theorem r28_6 {o d s} : RG 28 6 [.keep [1, 3, 4]] o d s := w_region
theorem r11_0 {o d s} : RG 11 0 [] o d s := w_region
theorem r11_1 {o d s} : RG 11 1 [] o d s := w_region
theorem r11_2 {o d s} : RG 11 2 [] o d s := w_region
theorem r11_3 {o d s} : RG 11 3 [.own 3 2, .keep [1, 3, 4]] o d s := w_region
theorem r11_5 {o d s} : RG 11 5 [] o d s := w_region
theorem r11_4 {o d s} : RG 11 4 [] o d s := w_region
theorem r11_6 {o d s} : RG 11 6 [.keep [1, 3, 4]] o d s := w_region
theorem r29_0 {o d s} : RG 29 0 [] o d s := w_region
theorem r29_1 {o d s} : RG 29 1 [] o d s := w_region
theorem r29_2 {o d s} : RG 29 2 [] o d s := w_region
theorem r29_3 {o d s} : RG 29 3 [] o d s := w_region
theorem r29_4 {o d s} : RG 29 4 [.weak [0, 1], .keep [0, 1, 5]] o d s := w_region
theorem r29_6 {o d s} : RG 29 6 [] o d s := w_region
theorem r29_7 {o d s} : RG 29 7 [] o d s := w_region
theorem r29_5 {o d s} : RG 29 5 [] o d s := w_region
theorem r29_8 {o d s} : RG 29 8 [.keep [0, 1, 5]] o d s := w_region
theorem r12_0 {o d s} : RG 12 0 [] o d s := w_region
theorem r12_1 {o d s} : RG 12 1 [] o d s := w_region
theorem r12_2 {o d s} : RG 12 2 [] o d s := w_region
theorem r12_3 {o d s} : RG 12 3 [] o d s := w_region
theorem r12_4 {o d s} : RG 12 4 [.keep [2, 3, 5]] o d s := w_region
theorem r12_6 {o d s} : RG 12 6 [] o d s := w_region
theorem r12_7 {o d s} : RG 12 7 [] o d s := w_region
theorem r12_5 {o d s} : RG 12 5 [] o d s := w_region
theorem r12_8 {o d s} : RG 12 8 [.keep [2, 3, 5]] o d s := w_region
theorem r3_0 {o d s} : RG 3 0 [] o d s := w_region
theorem r3_1 {o d s} : RG 3 1 [] o d s := w_region
theorem r3_2 {o d s} : RG 3 2 [] o d s := w_region
theorem r3_3 {o d s} : RG 3 3 [] o d s := w_region
theorem r3_4 {o d s} : RG 3 4 [] o d s := w_region
theorem r3_5 {o d s} : RG 3 5 [] o d s := w_region
theorem r3_6 {o d s} : RG 3 6 [] o d s := w_region
theorem r3_7 {o d s} : RG 3 7 [] o d s := w_region
theorem r3_8 {o s} : RY 3 8 [] [(0, 9), (1, 9), (2, 9), (3, 9), (4, 9), (5, 9)] o s := w_regionY rfl
theorem r3_9 {o d s} : RG 3 9 [] o d s := w_region
def bs := And.intro @w_seq (And.intro @ghosts_nil (And.intro @regW_some (And.intro @regY_some (And.intro @doneY_some (And.intro @regZ_some (And.intro @doneZ_some (And.intro @ops_move (And.intro @ops_assign (And.intro @ops_bin (And.intro @ops_load (And.intro @ops_indexAddr (And.intro @ops_len (And.intro @ops_store (And.intro @ops_call (And.intro @opsP_some (And.intro @opsQ_none (And.intro @opsQ_some (And.intro @opsQ_loud (And.intro @ops_nil (And.intro @doneW_some (And.intro @seqW_normal (And.intro @seqW_ret (And.intro @seqW_exit (And.intro @w_cond (And.intro @w_block (And.intro @condW_true (And.intro @condW_false (And.intro @evalO_tmp (And.intro @evalO_const (And.intro @evalO_func (And.intro @ofVal_int (And.intro @ofVal_bool (And.intro @ofVal_nil (And.intro @ofVal_str (And.intro @set8 (And.intro @getD8 (And.intro @List.set_cons_succ.{0} (And.intro @List.set_cons_zero.{0} (And.intro @List.getD_cons_succ.{0} (And.intro @List.getD_cons_zero.{0} (And.intro @binN_tmp (And.intro @binN_int (And.intro @binN_bool (And.intro @binN_str (And.intro @binD_add (And.intro @binD_sub (And.intro @binD_mul (And.intro @binD_lss (And.intro @binD_leq (And.intro @binD_gtr (And.intro @binD_geq (And.intro @binD_eql (And.intro @binD_neq (And.intro @boolD_bv (And.intro @Option.map_some.{0, 0} (And.intro @blockW_normal (And.intro @blockW_ret (And.intro @blockW_exit (And.intro @blockW_other (And.intro @Bool.false_and (And.intro @Bool.and_false (And.intro @Bool.and_true (And.intro @Bool.true_and (And.intro @Bool.not_true (And.intro @Bool.not_false (And.intro @decide_true (And.intro @decide_false (And.intro @ops_guard (And.intro @opsG_true (And.intro @opsG_false (And.intro @wantT_some (And.intro @yield_bv (And.intro @yield_undef (And.intro @putD_some (And.intro @putD_none (And.intro @beq_true' (And.intro @beq_false' (And.intro @List.getElem?_toArray.{0} (And.intro @List.getElem?_cons_succ.{0} (And.intro @List.getElem?_cons_zero.{0} (And.intro @Option.bind_some.{0, 0} (And.intro @Option.bind_none.{0, 0} (And.intro @Option.map_none.{0, 0} (And.intro @ops_pick (And.intro @List.length_cons.{0} (And.intro @List.length_nil.{0} (And.intro @List.cons_append.{0} (And.intro @List.nil_append.{0} (And.intro @ldOb_arr (And.intro @ldOb_frz (And.intro @callV_fn (And.intro @pickD_true (And.intro @pickD_false (And.intro @ops_un (And.intro @unD_not (And.intro @ops_max (And.intro @ops_min (And.intro @ops_bs (And.intro @ops_append (And.intro @ops_make (And.intro @ops_slice (And.intro @ops_extract (And.intro @ops_fieldAddr (And.intro @ops_field (And.intro @ops_build (And.intro @ops_alloc (And.intro @ops_box (And.intro @ops_index (And.intro @ops_conv (And.intro @boxD_leaf (And.intro @boxD_agg (And.intro @boxD_str (And.intro @boxD_bool (And.intro @boxD_lst (And.intro @boxD_ref (And.intro @if_true.{1} (And.intro @if_false.{1} (And.intro @evW_skip (And.intro @evW_exit (And.intro @evW_ret (And.intro @callV_func (And.intro @List.map_cons.{0, 0} (And.intro @List.map_nil.{0, 0} (And.intro @Wp_some (And.intro @condW_t (And.intro @condW_f (And.intro @condW_nt (And.intro @condW_nf (And.intro @opsG_t (And.intro @opsG_f (And.intro @opsG_nt (And.intro @opsG_nf (And.intro @pickD_t (And.intro @pickD_f (And.intro @pickD_nt (And.intro @pickD_nf (And.intro @Bool.not_not (@callV_pfn))))))))))))))))))))))))))))))))))))))))))))))))))))))))))))))))))))))))))))))))))))))))))))))))))))))))))))))))))))))))))))))))))))))))))
abbrev J : Dv := .junk
def ens := And.intro @Option.getD_some.{0} (And.intro @List.append_nil.{0} (And.intro @List.nil_append.{0} (And.intro @List.cons_append.{0} (And.intro @List.getD_cons_zero.{0} (And.intro @List.getD_cons_succ.{0} (And.intro @List.length_cons.{0} (And.intro @List.length_nil.{0} (And.intro @List.replicate_succ.{0} (@List.replicate_zero.{0})))))))))
def rs30 := And.intro @r30_0 (And.intro @r30_1 (And.intro @r30_2 (And.intro @r30_3 (And.intro @r30_4 (And.intro @r30_5 (And.intro @r30_7 (And.intro @r30_8 (And.intro @r30_9 (And.intro @r30_6 (@r30_10))))))))))
def rs13 := And.intro @r13_0 (@r13_1)
def rs4 := And.intro @r4_0 (@r4_1)
def rs45 := And.intro @r45_0 (And.intro @r45_1 (And.intro @r45_2 (And.intro @r45_3 (And.intro @r45_4 (@r45_5)))))
def rs37 := And.intro @r37_0 (And.intro @r37_1 (And.intro @r37_2 (And.intro @r37_3 (And.intro @r37_4 (And.intro @r37_5 (And.intro @r37_6 (And.intro @r37_7 (And.intro @r37_8 (And.intro @r37_9 (And.intro @r37_10 (And.intro @r37_11 (And.intro @r37_12 (@r37_13)))))))))))))
def rs18 := And.intro @r18_0 (@r18_1)
def rs17 := And.intro @r17_0 (And.intro @r17_1 (And.intro @r17_2 (And.intro @r17_3 (And.intro @r17_4 (And.intro @r17_5 (And.intro @r17_6 (And.intro @r17_7 (And.intro @r17_8 (And.intro @r17_9 (And.intro @r17_10 (And.intro @r17_11 (And.intro @r17_12 (And.intro @r17_13 (And.intro @r17_14 (@r17_15)))))))))))))))
def rs81 := And.intro @r81_0 (And.intro @r81_1 (And.intro @r81_2 (And.intro @r81_3 (And.intro @r81_4 (And.intro @r81_5 (And.intro @r81_6 (And.intro @r81_7 (And.intro @r81_8 (And.intro @r81_9 (@r81_10))))))))))
def rs59 := And.intro @r59_0 (And.intro @r59_1 (@r59_2))
def rs47 := And.intro @r47_0 (@r47_1)
def rs82 := And.intro @r82_0 (And.intro @r82_1 (And.intro @r82_2 (And.intro @r82_4 (And.intro @r82_5 (And.intro @r82_7 (And.intro @r82_6 (@r82_3)))))))
def rs95 := And.intro @r95_0 (And.intro @r95_1 (And.intro @r95_2 (And.intro @r95_3 (And.intro @r95_4 (And.intro @r95_5 (And.intro @r95_6 (And.intro @r95_7 (@r95_8))))))))
def rs83 := And.intro @r83_0 (And.intro @r83_1 (And.intro @r83_2 (And.intro @r83_3 (And.intro @r83_4 (And.intro @r83_5 (And.intro @r83_7 (And.intro @r83_6 (And.intro @r83_8 (And.intro @r83_9 (And.intro @r83_11 (And.intro @r83_12 (@r83_10))))))))))))
def rs101 := And.intro @r101_0 (And.intro @r101_1 (And.intro @r101_2 (And.intro @r101_3 (@r101_4))))
def rs99 := And.intro @r99_0 (And.intro @r99_1 (And.intro @r99_2 (And.intro @r99_3 (@r99_4))))
def rs98 := And.intro @r98_0 (@r98_1)
def rs85 := And.intro @r85_0 (And.intro @r85_1 (And.intro @r85_2 (And.intro @r85_3 (And.intro @r85_4 (And.intro @r85_5 (And.intro @r85_6 (And.intro @r85_7 (And.intro @r85_8 (And.intro @r85_9 (And.intro @r85_10 (And.intro @r85_11 (And.intro @r85_12 (And.intro @r85_14 (And.intro @r85_15 (And.intro @r85_16 (And.intro @r85_17 (@r85_13)))))))))))))))))
def rs86 := And.intro @r86_0 (And.intro @r86_1 (And.intro @r86_2 (And.intro @r86_3 (And.intro @r86_4 (And.intro @r86_5 (@r86_6))))))
def rs87 := And.intro @r87_0 (And.intro @r87_1 (And.intro @r87_2 (And.intro @r87_3 (And.intro @r87_5 (And.intro @r87_6 (And.intro @r87_7 (And.intro @r87_8 (And.intro @r87_9 (And.intro @r87_10 (And.intro @r87_11 (And.intro @r87_12 (And.intro @r87_13 (And.intro @r87_14 (And.intro @r87_16 (And.intro @r87_17 (And.intro @r87_15 (And.intro @r87_18 (And.intro @r87_19 (And.intro @r87_20 (And.intro @r87_22 (And.intro @r87_23 (And.intro @r87_21 (And.intro @r87_4 (@r87_24))))))))))))))))))))))))
def rs89 := And.intro @r89_0 (And.intro @r89_1 (And.intro @r89_2 (And.intro @r89_3 (And.intro @r89_4 (And.intro @r89_5 (And.intro @r89_6 (And.intro @r89_7 (And.intro @r89_8 (And.intro @r89_9 (And.intro @r89_10 (And.intro @r89_11 (And.intro @r89_12 (And.intro @r89_13 (And.intro @r89_14 (And.intro @r89_15 (And.intro @r89_16 (And.intro @r89_17 (And.intro @r89_18 (And.intro @r89_19 (And.intro @r89_20 (And.intro @r89_21 (@r89_22))))))))))))))))))))))
def rs88 := And.intro @r88_0 (And.intro @r88_1 (And.intro @r88_2 (And.intro @r88_3 (And.intro @r88_4 (And.intro @r88_5 (And.intro @r88_6 (And.intro @r88_7 (And.intro @r88_8 (And.intro @r88_9 (And.intro @r88_10 (@r88_11)))))))))))
def rs96 := And.intro @r96_0 (And.intro @r96_1 (@r96_2))
def rs97 := And.intro @r97_0 (And.intro @r97_1 (And.intro @r97_2 (And.intro @r97_3 (@r97_4))))
def rs84 := And.intro @r84_0 (And.intro @r84_1 (And.intro @r84_2 (And.intro @r84_3 (And.intro @r84_4 (And.intro @r84_5 (And.intro @r84_6 (And.intro @r84_8 (And.intro @r84_9 (And.intro @r84_10 (And.intro @r84_11 (@r84_7)))))))))))
def rs60 := And.intro @r60_0 (And.intro @r60_1 (And.intro @r60_2 (And.intro @r60_3 (And.intro @r60_4 (And.intro @r60_5 (And.intro @r60_6 (And.intro @r60_7 (And.intro @r60_8 (And.intro @r60_9 (And.intro @r60_10 (And.intro @r60_11 (And.intro @r60_12 (And.intro @r60_13 (And.intro @r60_14 (And.intro @r60_15 (And.intro @r60_16 (And.intro @r60_17 (And.intro @r60_18 (And.intro @r60_19 (And.intro @r60_20 (And.intro @r60_21 (And.intro @r60_22 (And.intro @r60_23 (And.intro @r60_24 (And.intro @r60_25 (And.intro @r60_26 (And.intro @r60_27 (And.intro @r60_28 (And.intro @r60_29 (And.intro @r60_30 (@r60_31)))))))))))))))))))))))))))))))
def rs46 := And.intro @r46_0 (And.intro @r46_1 (And.intro @r46_2 (And.intro @r46_3 (@r46_4))))
def rs38 := And.intro @r38_0 (And.intro @r38_1 (And.intro @r38_2 (And.intro @r38_3 (And.intro @r38_4 (And.intro @r38_5 (And.intro @r38_6 (And.intro @r38_7 (And.intro @r38_8 (@r38_9)))))))))
def rs19 := And.intro @r19_0 (And.intro @r19_1 (And.intro @r19_2 (And.intro @r19_3 (And.intro @r19_4 (And.intro @r19_5 (And.intro @r19_6 (@r19_7)))))))
def rs22 := And.intro @r22_0 (And.intro @r22_1 (And.intro @r22_2 (And.intro @r22_3 (And.intro @r22_4 (And.intro @r22_5 (And.intro @r22_6 (@r22_7)))))))
def rs40 := And.intro @r40_0 (@r40_1)
def rs23 := And.intro @r23_0 (And.intro @r23_1 (And.intro @r23_2 (And.intro @r23_3 (And.intro @r23_4 (And.intro @r23_5 (And.intro @r23_6 (And.intro @r23_7 (And.intro @r23_8 (And.intro @r23_9 (And.intro @r23_10 (And.intro @r23_11 (And.intro @r23_12 (And.intro @r23_13 (And.intro @r23_14 (And.intro @r23_15 (@r23_16))))))))))))))))
def rs21 := And.intro @r21_0 (And.intro @r21_1 (And.intro @r21_2 (And.intro @r21_3 (@r21_4))))
def rs31 := And.intro @r31_0 (And.intro @r31_1 (And.intro @r31_2 (@r31_3)))
def rs39 := And.intro @r39_0 (And.intro @r39_1 (And.intro @r39_2 (And.intro @r39_3 (And.intro @r39_4 (And.intro @r39_5 (And.intro @r39_6 (And.intro @r39_7 (@r39_8))))))))
def rs20 := And.intro @r20_0 (And.intro @r20_1 (And.intro @r20_2 (And.intro @r20_3 (@r20_4))))
def rs6 := And.intro @r6_0 (And.intro @r6_1 (And.intro @r6_2 (And.intro @r6_3 (And.intro @r6_4 (And.intro @r6_5 (@r6_6))))))
def rs41 := And.intro @r41_0 (And.intro @r41_1 (And.intro @r41_2 (And.intro @r41_3 (And.intro @r41_4 (And.intro @r41_5 (And.intro @r41_7 (And.intro @r41_8 (And.intro @r41_6 (And.intro @r41_9 (@r41_10))))))))))
def rs24 := And.intro @r24_0 (And.intro @r24_1 (@r24_2))
def rs25 := And.intro @r25_0 (And.intro @r25_1 (And.intro @r25_2 (And.intro @r25_4 (And.intro @r25_5 (And.intro @r25_3 (@r25_6))))))
def rs7 := And.intro @r7_0 (And.intro @r7_1 (And.intro @r7_2 (And.intro @r7_3 (And.intro @r7_4 (And.intro @r7_6 (And.intro @r7_7 (And.intro @r7_8 (And.intro @r7_9 (And.intro @r7_10 (And.intro @r7_5 (And.intro @r7_11 (And.intro @r7_12 (@r7_13)))))))))))))
def rs8 := And.intro @r8_0 (And.intro @r8_1 (And.intro @r8_2 (And.intro @r8_3 (And.intro @r8_4 (And.intro @r8_6 (And.intro @r8_7 (And.intro @r8_5 (@r8_8))))))))
def rs42 := And.intro @r42_0 (And.intro @r42_1 (And.intro @r42_2 (And.intro @r42_3 (And.intro @r42_4 (And.intro @r42_5 (And.intro @r42_6 (@r42_7)))))))
def rs26 := And.intro @r26_0 (And.intro @r26_1 (And.intro @r26_2 (And.intro @r26_3 (And.intro @r26_4 (And.intro @r26_5 (And.intro @r26_7 (And.intro @r26_6 (@r26_8))))))))
def rs61 := And.intro @r61_0 (And.intro @r61_1 (And.intro @r61_2 (And.intro @r61_3 (And.intro @r61_4 (And.intro @r61_5 (And.intro @r61_6 (And.intro @r61_7 (And.intro @r61_8 (And.intro @r61_9 (And.intro @r61_10 (And.intro @r61_11 (And.intro @r61_12 (And.intro @r61_13 (And.intro @r61_14 (And.intro @r61_15 (And.intro @r61_16 (And.intro @r61_17 (And.intro @r61_18 (@r61_19)))))))))))))))))))
def rs90 := And.intro @r90_0 (And.intro @r90_1 (And.intro @r90_2 (And.intro @r90_3 (And.intro @r90_4 (And.intro @r90_5 (And.intro @r90_6 (@r90_7)))))))
def rs62 := And.intro @r62_0 (And.intro @r62_1 (And.intro @r62_2 (And.intro @r62_3 (And.intro @r62_4 (And.intro @r62_5 (And.intro @r62_6 (And.intro @r62_7 (And.intro @r62_8 (And.intro @r62_9 (And.intro @r62_10 (And.intro @r62_11 (And.intro @r62_12 (And.intro @r62_13 (And.intro @r62_14 (And.intro @r62_15 (And.intro @r62_16 (And.intro @r62_17 (And.intro @r62_18 (And.intro @r62_19 (And.intro @r62_20 (And.intro @r62_21 (And.intro @r62_22 (And.intro @r62_23 (And.intro @r62_24 (And.intro @r62_25 (And.intro @r62_26 (And.intro @r62_27 (And.intro @r62_28 (And.intro @r62_29 (And.intro @r62_30 (And.intro @r62_31 (And.intro @r62_32 (And.intro @r62_33 (And.intro @r62_34 (@r62_35)))))))))))))))))))))))))))))))))))
def rs50 := And.intro @r50_0 (And.intro @r50_1 (And.intro @r50_2 (And.intro @r50_3 (And.intro @r50_4 (And.intro @r50_5 (And.intro @r50_6 (And.intro @r50_7 (And.intro @r50_8 (And.intro @r50_9 (And.intro @r50_10 (And.intro @r50_11 (And.intro @r50_12 (And.intro @r50_13 (And.intro @r50_14 (And.intro @r50_15 (And.intro @r50_16 (@r50_17)))))))))))))))))
def rs91 := And.intro @r91_0 (And.intro @r91_1 (And.intro @r91_2 (And.intro @r91_3 (And.intro @r91_4 (And.intro @r91_5 (And.intro @r91_6 (And.intro @r91_7 (And.intro @r91_8 (And.intro @r91_9 (And.intro @r91_10 (And.intro @r91_11 (And.intro @r91_12 (And.intro @r91_13 (And.intro @r91_14 (And.intro @r91_15 (And.intro @r91_16 (And.intro @r91_17 (And.intro @r91_18 (And.intro @r91_19 (And.intro @r91_20 (@r91_21)))))))))))))))))))))
def rs64 := And.intro @r64_0 (And.intro @r64_1 (And.intro @r64_2 (And.intro @r64_3 (And.intro @r64_4 (And.intro @r64_5 (And.intro @r64_6 (And.intro @r64_7 (And.intro @r64_8 (And.intro @r64_9 (And.intro @r64_10 (@r64_11)))))))))))
def rs63 := And.intro @r63_0 (And.intro @r63_1 (And.intro @r63_2 (And.intro @r63_3 (And.intro @r63_4 (And.intro @r63_5 (And.intro @r63_6 (And.intro @r63_7 (And.intro @r63_8 (And.intro @r63_9 (@r63_10))))))))))
def rs48 := And.intro @r48_0 (And.intro @r48_1 (And.intro @r48_2 (And.intro @r48_3 (And.intro @r48_4 (And.intro @r48_6 (And.intro @r48_7 (And.intro @r48_5 (@r48_8))))))))
def rs49 := And.intro @r49_0 (And.intro @r49_1 (And.intro @r49_2 (And.intro @r49_3 (And.intro @r49_4 (And.intro @r49_5 (And.intro @r49_7 (And.intro @r49_8 (And.intro @r49_9 (And.intro @r49_6 (@r49_10))))))))))
def rs52 := And.intro @r52_0 (And.intro @r52_1 (And.intro @r52_2 (And.intro @r52_3 (And.intro @r52_4 (And.intro @r52_5 (And.intro @r52_6 (And.intro @r52_7 (And.intro @r52_8 (And.intro @r52_9 (And.intro @r52_10 (And.intro @r52_11 (And.intro @r52_12 (And.intro @r52_13 (And.intro @r52_14 (And.intro @r52_15 (And.intro @r52_16 (And.intro @r52_17 (And.intro @r52_18 (And.intro @r52_19 (And.intro @r52_20 (And.intro @r52_21 (And.intro @r52_22 (And.intro @r52_23 (And.intro @r52_24 (And.intro @r52_25 (And.intro @r52_26 (And.intro @r52_27 (And.intro @r52_28 (@r52_29)))))))))))))))))))))))))))))
def rs92 := And.intro @r92_0 (And.intro @r92_1 (And.intro @r92_2 (And.intro @r92_3 (And.intro @r92_4 (And.intro @r92_5 (And.intro @r92_6 (And.intro @r92_7 (And.intro @r92_8 (And.intro @r92_10 (And.intro @r92_11 (And.intro @r92_9 (@r92_12))))))))))))
def rs68 := And.intro @r68_0 (And.intro @r68_1 (And.intro @r68_2 (And.intro @r68_3 (And.intro @r68_4 (@r68_5)))))
def rs53 := And.intro @r53_0 (@r53_1)
def rs65 := And.intro @r65_0 (@r65_1)
def rs66 := And.intro @r66_0 (@r66_1)
def rs67 := And.intro @r67_0 (@r67_1)
def rs51 := And.intro @r51_0 (And.intro @r51_1 (And.intro @r51_2 (And.intro @r51_3 (And.intro @r51_4 (And.intro @r51_6 (And.intro @r51_7 (And.intro @r51_5 (@r51_8))))))))
def rs43 := And.intro @r43_0 (And.intro @r43_1 (And.intro @r43_2 (And.intro @r43_3 (And.intro @r43_4 (And.intro @r43_5 (And.intro @r43_6 (And.intro @r43_7 (And.intro @r43_8 (And.intro @r43_10 (And.intro @r43_11 (And.intro @r43_9 (@r43_12))))))))))))
def rs27 := And.intro @r27_0 (And.intro @r27_1 (And.intro @r27_2 (And.intro @r27_3 (And.intro @r27_5 (And.intro @r27_4 (@r27_6))))))
def rs9 := And.intro @r9_0 (And.intro @r9_1 (And.intro @r9_2 (@r9_3)))
def rs10 := And.intro @r10_0 (And.intro @r10_1 (And.intro @r10_2 (And.intro @r10_3 (And.intro @r10_5 (And.intro @r10_4 (@r10_6))))))
def rs28 := And.intro @r28_0 (And.intro @r28_1 (And.intro @r28_2 (And.intro @r28_3 (And.intro @r28_5 (And.intro @r28_4 (@r28_6))))))
def rs11 := And.intro @r11_0 (And.intro @r11_1 (And.intro @r11_2 (And.intro @r11_3 (And.intro @r11_5 (And.intro @r11_4 (@r11_6))))))
def rs29 := And.intro @r29_0 (And.intro @r29_1 (And.intro @r29_2 (And.intro @r29_3 (And.intro @r29_4 (And.intro @r29_6 (And.intro @r29_7 (And.intro @r29_5 (@r29_8))))))))
def rs12 := And.intro @r12_0 (And.intro @r12_1 (And.intro @r12_2 (And.intro @r12_3 (And.intro @r12_4 (And.intro @r12_6 (And.intro @r12_7 (And.intro @r12_5 (@r12_8))))))))
def rs3 := And.intro @r3_0 (And.intro @r3_1 (And.intro @r3_2 (And.intro @r3_3 (And.intro @r3_4 (And.intro @r3_5 (And.intro @r3_6 (And.intro @r3_7 (And.intro @r3_8 (@r3_9)))))))))
theorem a25 : aggT Tryz.prog 25 = some true := by kernel_rfl
theorem z25 : szOf Tryz.prog 25 = some 4 := by kernel_rfl
theorem a23 : aggT Tryz.prog 23 = some false := by kernel_rfl
theorem u23 : Tryz.prog.underlying 23 = some (.slice 25) := Tryz.underlying23
theorem u26 : Tryz.prog.underlying 26 = some (.slice 41) := Tryz.underlying26
theorem z41 : szOf Tryz.prog 41 = some 2 := by kernel_rfl
theorem u43 : Tryz.prog.underlying 43 = some (.slice 51) := Tryz.underlying43
theorem z51 : szOf Tryz.prog 51 = some 5 := by kernel_rfl
theorem a3 : aggT Tryz.prog 3 = some false := by kernel_rfl
theorem a9 : aggT Tryz.prog 9 = some false := by kernel_rfl
theorem a22 : aggT Tryz.prog 22 = some false := by kernel_rfl
theorem u22 : Tryz.prog.underlying 22 = some (.slice 9) := Tryz.underlying22
theorem z9 : szOf Tryz.prog 9 = some 1 := by kernel_rfl
theorem b9 : bytesOf Tryz.prog 9 = some 16 := by kernel_rfl
theorem zc9 : zeroCs Tryz.prog 9 = some [.v (.string ByteArray.empty)] := by kernel_rfl
theorem b51 : bytesOf Tryz.prog 51 = some 80 := by kernel_rfl
theorem zc51 : zeroCs Tryz.prog 51 = some [.v (.int .i64 (0 : Int)), .v (.int .i64 (0 : Int)), .v (.string ByteArray.empty), .lst true 0 [], .lst true 0 []] := by kernel_rfl
theorem u49 : Tryz.prog.underlying 49 = some (.slice 3) := Tryz.underlying49
theorem z3 : szOf Tryz.prog 3 = some 1 := by kernel_rfl
theorem b3 : bytesOf Tryz.prog 3 = some 8 := by kernel_rfl
theorem zc3 : zeroCs Tryz.prog 3 = some [.v (.int .i64 (0 : Int))] := by kernel_rfl
theorem z49 : szOf Tryz.prog 49 = some 1 := by kernel_rfl
theorem u61 : Tryz.prog.underlying 61 = some (.slice 4) := Tryz.underlying61
theorem z4 : szOf Tryz.prog 4 = some 1 := by kernel_rfl
theorem b4 : bytesOf Tryz.prog 4 = some 1 := by kernel_rfl
theorem zc4 : zeroCs Tryz.prog 4 = some [.v (.bool false)] := by kernel_rfl
theorem a41 : aggT Tryz.prog 41 = some true := by kernel_rfl
theorem a4 : aggT Tryz.prog 4 = some false := by kernel_rfl
theorem z43 : szOf Tryz.prog 43 = some 1 := by kernel_rfl
theorem b41 : bytesOf Tryz.prog 41 = some 16 := by kernel_rfl
theorem zc41 : zeroCs Tryz.prog 41 = some [.v (.int .i64 (0 : Int)), .v (.int .i64 (0 : Int))] := by kernel_rfl
theorem a26 : aggT Tryz.prog 26 = some false := by kernel_rfl
theorem z79 : szOf Tryz.prog 79 = some 3 := by kernel_rfl
theorem a79 : aggT Tryz.prog 79 = some true := by kernel_rfl
theorem a88 : aggT Tryz.prog 88 = some true := by kernel_rfl
theorem z88 : szOf Tryz.prog 88 = some 2 := by kernel_rfl
theorem a73 : aggT Tryz.prog 73 = some false := by kernel_rfl
theorem a81 : aggT Tryz.prog 81 = some false := by kernel_rfl
theorem z107 : szOf Tryz.prog 107 = some 1 := by kernel_rfl
theorem a107 : aggT Tryz.prog 107 = some false := by kernel_rfl
theorem z26 : szOf Tryz.prog 26 = some 1 := by kernel_rfl
theorem a43 : aggT Tryz.prog 43 = some false := by kernel_rfl
theorem z68 : szOf Tryz.prog 68 = some 6 := by kernel_rfl
theorem z35 : szOf Tryz.prog 35 = some 1 := by kernel_rfl
theorem a35 : aggT Tryz.prog 35 = some false := by kernel_rfl
theorem a53 : aggT Tryz.prog 53 = some false := by kernel_rfl
theorem b25 : bytesOf Tryz.prog 25 = some 72 := by kernel_rfl
theorem zc25 : zeroCs Tryz.prog 25 = some [.v (.int .i64 (0 : Int)), .v (.string ByteArray.empty), .lst true 0 [], .lst true 0 []] := by kernel_rfl
theorem z23 : szOf Tryz.prog 23 = some 1 := by kernel_rfl
theorem u9 : Tryz.prog.underlying 9 = some .string := Tryz.underlying9
theorem varlv_4_0_4 {c0 c1 c2 c3 : Pv} : lkOb (some (.var [.p c0, .p c1, .p c2, .p c3])) 0 4 = some (.p (.agg [c0, c1, c2, c3])) := rfl
theorem faP_25_3 {id o : Nat} : fieldAddrD Tryz.prog 25 (.ptr id o) 3 = some (.ptr id (o + 3)) := by kernel_rfl
theorem varld_4_0_3 {c0 c1 c2 c3 : Dv} : ldOb (some (.var [c0, c1, c2, c3])) (0 + 3) = some c3 := rfl
theorem idxL_23 {full : Bool} {l : List Node} {i : Int} (h0 : 0 ≤ i) (h1 : i < (l.length : Int)) : idxD Tryz.prog 23 (.p (.lst full l.length (encL en_Node l))) (.p (.v (.int .i64 i))) = some (.p (.iptr (encL en_Node l) (ato i 4))) := idx_lst u23 z25 (by decide) en_Node_len h0 h1
theorem lk_frz_25 {l : List Node} {i : Int} {v : Node} (h : rd l i = some v) : lkOb (some (.frz (encL en_Node l))) (ato i 4) 4 = some (.p (.agg [.v (.int .i64 v.Kind), .v (.string v.Text), .lst false v.Gaps.length (encL en_str v.Gaps), .lst false v.Kids.length (encL en_Node v.Kids)])) := (lkOb_frz en_Node_len h).trans (by rw [en_Node_eq])
theorem al_25 {H : List Ob} : allocD Tryz.prog 25 H = some (.ptr H.length 0, some (H ++ [.var [iv (0 : Int), .p (.v (.string ByteArray.empty)), .p (.lst true 0 []), .p (.lst true 0 [])]])) := by kernel_rfl
theorem faP_25_0 {id o : Nat} : fieldAddrD Tryz.prog 25 (.ptr id o) 0 = some (.ptr id (o + 0)) := by kernel_rfl
theorem varld_4_0_0 {c0 c1 c2 c3 : Dv} : ldOb (some (.var [c0, c1, c2, c3])) (0 + 0) = some c0 := rfl
theorem faP_25_1 {id o : Nat} : fieldAddrD Tryz.prog 25 (.ptr id o) 1 = some (.ptr id (o + 1)) := by kernel_rfl
theorem varld_4_0_1 {c0 c1 c2 c3 : Dv} : ldOb (some (.var [c0, c1, c2, c3])) (0 + 1) = some c1 := rfl
theorem faP_25_2 {id o : Nat} : fieldAddrD Tryz.prog 25 (.ptr id o) 2 = some (.ptr id (o + 2)) := by kernel_rfl
theorem varld_4_0_2 {c0 c1 c2 c3 : Dv} : ldOb (some (.var [c0, c1, c2, c3])) (0 + 2) = some c2 := rfl
theorem mk_22 {H : List Ob} {n : Int} (h0 : 0 ≤ n) (h1 : n * 16 ≤ 140737488355328) : makeD Tryz.prog H 22 (.p (.v (.int .i64 n))) (.p (.v (.int .i64 n))) = some (.ref H.length 0 (List.replicate n.toNat (ByteArray.empty)).length 1, H ++ [.arr (encL en_str (List.replicate n.toNat (ByteArray.empty)))]) := make_enc u22 z9 b9 (by rw [en_str_eq]; exact zc9) ⟨by decide, by decide, en_str_len _⟩ h0 h1
theorem cp_22 {H : List Ob} {t2 id n : Nat} {x y : List ByteArray} {full : Bool} (hid : H[id]? = some (.arr (encL en_str x))) (hn : n = x.length) : copyD Tryz.prog H #[22, t2] (.ref id 0 n 1) (.p (.lst full y.length (encL en_str y))) = some (.p (.v (.int .i64 ((Nat.min y.length x.length : Nat) : Int))), H.set id (.arr (encL en_str (cpL x y)))) := copy_enc u22 z9 (by decide) en_str_len hid hn
theorem bu_51_0_1_2_3 {p0_0 : Int} {p1_0 : Int} {p2_0 : ByteArray} {p3_0f : Bool} {p3_0n : Nat} {p3_0c : List Pv} : buildD Tryz.prog 51 [(0, .p (.v (.int .i64 p0_0))), (1, .p (.v (.int .i64 p1_0))), (2, .p (.v (.string p2_0))), (3, .p (.lst p3_0f p3_0n p3_0c))] = some (.p (.agg [.v (.int .i64 p0_0), .v (.int .i64 p1_0), .v (.string p2_0), .lst p3_0f p3_0n p3_0c, .lst true 0 []])) := by kernel_rfl
theorem bs_43_1 {p0_0 : Int} {p0_1 : Int} {p0_2 : ByteArray} {p0_3f : Bool} {p0_3n : Nat} {p0_3c : List Pv} {p0_4f : Bool} {p0_4n : Nat} {p0_4c : List Pv} {H : List Ob} : bsD Tryz.prog H 43 1 [(0, .p (.agg [.v (.int .i64 p0_0), .v (.int .i64 p0_1), .v (.string p0_2), .lst p0_3f p0_3n p0_3c, .lst p0_4f p0_4n p0_4c]))] = some (.p (.lst true 1 [.v (.int .i64 p0_0), .v (.int .i64 p0_1), .v (.string p0_2), .lst false p0_3n (wks p0_3c), .lst false p0_4n (wks p0_4c)]), none) := by kernel_rfl
theorem ap_43_43 {H : List Ob} {id off esz n m : Nat} {full : Bool} {new : List Pv} : appendD Tryz.prog H #[43, 43] (.ref id off n esz) (.p (.lst full m new)) = apOb H id off n m esz 5 80 new H[id]? := appendD_ap u43 u43 z51 b51 zc51 ⟨by decide, by decide, rfl⟩
theorem mk_49 {H : List Ob} {n : Int} (h0 : 0 ≤ n) (h1 : n * 8 ≤ 140737488355328) : makeD Tryz.prog H 49 (.p (.v (.int .i64 n))) (.p (.v (.int .i64 n))) = some (.ref H.length 0 (List.replicate n.toNat ((0 : Int))).length 1, H ++ [.arr (encL en_i64 (List.replicate n.toNat ((0 : Int))))]) := make_enc u49 z3 b3 (by rw [en_i64_eq]; exact zc3) ⟨by decide, by decide, en_i64_len _⟩ h0 h1
theorem sa_4_0_4 {H : List Ob} {id : Nat} {c0 c1 c2 c3 : Dv} {d0 d1 d2 d3 : Pv} : staOb H id 0 4 [d0, d1, d2, d3] (some (.var [c0, c1, c2, c3])) = some (H.set id (.var [(.p d0), (.p d1), (.p d2), (.p d3)])) := by simp [staOb, setAt]
theorem idxR_49 {id m : Nat} {i : Int} (h0 : 0 ≤ i) (h1 : i < (m : Int)) : idxD Tryz.prog 49 (.ref id 0 m 1) (.p (.v (.int .i64 i))) = some (.ptr id (ato i 1)) := idx_ref u49 z3 (by decide) h0 h1
theorem stf_3_x {H : List Ob} {id : Nat} {l : List Int} {i : Int} {v : Int} {p : Int} (h : rd l i = some v) : stdOb H id (ato i 1) (.p (.v (.int .i64 p))) (some (.arr (encL en_i64 l))) = some (H.set id (.arr (encL en_i64 (l.set i.toNat p)))) := std_enc0 en_i64_len h (by decide) (by rw [en_i64_eq, en_i64_eq]; rfl)
theorem idxR_43 {id m : Nat} {i : Int} (h0 : 0 ≤ i) (h1 : i < (m : Int)) : idxD Tryz.prog 43 (.ref id 0 m 5) (.p (.v (.int .i64 i))) = some (.ptr id (ato i 5)) := idx_ref u43 z51 (by decide) h0 h1
theorem faP_51_4 {id o : Nat} : fieldAddrD Tryz.prog 51 (.ptr id o) 4 = some (.ptr id (o + 4)) := by kernel_rfl
theorem mk_61 {H : List Ob} {n : Int} (h0 : 0 ≤ n) (h1 : n * 1 ≤ 140737488355328) : makeD Tryz.prog H 61 (.p (.v (.int .i64 n))) (.p (.v (.int .i64 n))) = some (.ref H.length 0 (List.replicate n.toNat (false)).length 1, H ++ [.arr (encL en_bool (List.replicate n.toNat (false)))]) := make_enc u61 z4 b4 (by rw [en_bool_eq]; exact zc4) ⟨by decide, by decide, en_bool_len _⟩ h0 h1
theorem idxL_26 {full : Bool} {l : List Pair} {i : Int} (h0 : 0 ≤ i) (h1 : i < (l.length : Int)) : idxD Tryz.prog 26 (.p (.lst full l.length (encL en_Pair l))) (.p (.v (.int .i64 i))) = some (.p (.iptr (encL en_Pair l) (ato i 2))) := idx_lst u26 z41 (by decide) en_Pair_len h0 h1
theorem lk_frz_41 {l : List Pair} {i : Int} {v : Pair} (h : rd l i = some v) : lkOb (some (.frz (encL en_Pair l))) (ato i 2) 2 = some (.p (.agg [.v (.int .i64 v.Old), .v (.int .i64 v.New)])) := (lkOb_frz en_Pair_len h).trans (by rw [en_Pair_eq])
theorem al_41 {H : List Ob} : allocD Tryz.prog 41 H = some (.ptr H.length 0, some (H ++ [.var [iv (0 : Int), iv (0 : Int)]])) := by kernel_rfl
theorem sa_2_0_2 {H : List Ob} {id : Nat} {c0 c1 : Dv} {d0 d1 : Pv} : staOb H id 0 2 [d0, d1] (some (.var [c0, c1])) = some (H.set id (.var [(.p d0), (.p d1)])) := by simp [staOb, setAt]
theorem faP_41_0 {id o : Nat} : fieldAddrD Tryz.prog 41 (.ptr id o) 0 = some (.ptr id (o + 0)) := by kernel_rfl
theorem varld_2_0_0 {c0 c1 : Dv} : ldOb (some (.var [c0, c1])) (0 + 0) = some c0 := rfl
theorem faP_41_1 {id o : Nat} : fieldAddrD Tryz.prog 41 (.ptr id o) 1 = some (.ptr id (o + 1)) := by kernel_rfl
theorem varld_2_0_1 {c0 c1 : Dv} : ldOb (some (.var [c0, c1])) (0 + 1) = some c1 := rfl
theorem idxR_61 {id m : Nat} {i : Int} (h0 : 0 ≤ i) (h1 : i < (m : Int)) : idxD Tryz.prog 61 (.ref id 0 m 1) (.p (.v (.int .i64 i))) = some (.ptr id (ato i 1)) := idx_ref u61 z4 (by decide) h0 h1
theorem ce_4_x {l : List Bool} {i : Int} {v : Bool} (h : rd l i = some v) : (encL en_bool l)[ato i 1]? = some (.v (.bool v)) := (encL_cell en_bool_len h (k := 0) (by decide)).trans (by rw [en_bool_eq]; rfl)
theorem idxL_43 {full : Bool} {l : List Row} {i : Int} (h0 : 0 ≤ i) (h1 : i < (l.length : Int)) : idxD Tryz.prog 43 (.p (.lst full l.length (encL en_Row l))) (.p (.v (.int .i64 i))) = some (.p (.iptr (encL en_Row l) (ato i 5))) := idx_lst u43 z51 (by decide) en_Row_len h0 h1
theorem faI_51_1 {cs : List Pv} {o : Nat} : fieldAddrD Tryz.prog 51 (.p (.iptr cs o)) 1 = some (.p (.iptr cs (o + 1))) := by kernel_rfl
theorem ce_51__1 {l : List Row} {i : Int} {v : Row} (h : rd l i = some v) : (encL en_Row l)[ato i 5 + 1]? = some (.v (.int .i64 v.Kind)) := (encL_cell en_Row_len h (k := 1) (by decide)).trans (by rw [en_Row_eq]; rfl)
theorem stf_4_x {H : List Ob} {id : Nat} {l : List Bool} {i : Int} {v : Bool} {p : Bool} (h : rd l i = some v) : stdOb H id (ato i 1) (.p (.v (.bool p))) (some (.arr (encL en_bool l))) = some (H.set id (.arr (encL en_bool (l.set i.toNat p)))) := std_enc0 en_bool_len h (by decide) (by rw [en_bool_eq, en_bool_eq]; rfl)
theorem al_43 {H : List Ob} : allocD Tryz.prog 43 H = some (.ptr H.length 0, some (H ++ [.var [.p (.lst true 0 [])]])) := by kernel_rfl
theorem sv_1_0_1 {H : List Ob} {id : Nat} {c0 : Dv} {d0 : Dv} : stdOb H id 0 d0 (some (.var [c0])) = some (H.set id (.var [d0])) := rfl
theorem bu_41_0_1 {p0_0 : Int} {p1_0 : Int} : buildD Tryz.prog 41 [(0, .p (.v (.int .i64 p0_0))), (1, .p (.v (.int .i64 p1_0)))] = some (.p (.agg [.v (.int .i64 p0_0), .v (.int .i64 p1_0)])) := by kernel_rfl
theorem bs_26_1 {p0_0 : Int} {p0_1 : Int} {H : List Ob} : bsD Tryz.prog H 26 1 [(0, .p (.agg [.v (.int .i64 p0_0), .v (.int .i64 p0_1)]))] = some (.p (.lst true 1 [.v (.int .i64 p0_0), .v (.int .i64 p0_1)]), none) := by kernel_rfl
theorem ap_26_26 {H : List Ob} {id off esz n m : Nat} {full : Bool} {new : List Pv} : appendD Tryz.prog H #[26, 26] (.ref id off n esz) (.p (.lst full m new)) = apOb H id off n m esz 2 16 new H[id]? := appendD_ap u26 u26 z41 b41 zc41 ⟨by decide, by decide, rfl⟩
theorem varld_1_0 {c0 : Dv} : ldOb (some (.var [c0])) 0 = some c0 := rfl
theorem al_79 {H : List Ob} : allocD Tryz.prog 79 H = some (.ptr H.length 0, some (H ++ [.var [.p (.v (.pointer none)), .p (.v (.pointer none)), .p (.v (.int .u64 (0 : Int)))]])) := by kernel_rfl
theorem sg_3_0_pqp {H : List Ob} {id : Nat} {c0 c1 c2 : Dv} {d0 d2 : Pv} {i1 o1 : Nat} : stgOb H id 0 3 [.p d0, .ptr i1 o1, .p d2] (some (.var [c0, c1, c2])) = some (H.set id (.var [.p d0, .ptr i1 o1, .p d2])) := by simp [stgOb, setAt]
theorem varlg_pqp {c0 : Pv} {c2 : Pv} {i1 o1 : Nat} : lkOb (some (.var [.p c0, .ptr i1 o1, .p c2])) 0 3 = some (.agg [.p c0, .ptr i1 o1, .p c2]) := rfl
theorem cv_3_85 {x : Int} : convD Tryz.prog 3 85 (.p (.v (.int .i64 x))) = some (.p (.v (.int .u64 (IntKind.wrap .u64 x)))) := by kernel_rfl
theorem cv_99_5 {x : Int} : convD Tryz.prog 99 5 (.p (.v (.int .u64 x))) = some (.p (.v (.int .u8 (IntKind.wrap .u8 x)))) := by kernel_rfl
theorem cv_5_3 {x : Int} : convD Tryz.prog 5 3 (.p (.v (.int .u8 x))) = some (.p (.v (.int .i64 (IntKind.wrap .i64 x)))) := by kernel_rfl
theorem bu_88_ff {f0 : Fn} {l0 : List Dv} {f1 : Fn} {l1 : List Dv} : buildD Tryz.prog 88 [(0, .fn f0 l0), (1, .fn f1 l1)] = some (.agg [.fn f0 l0, .fn f1 l1]) := by kernel_rfl
theorem varlg_ff {f0 : Fn} {l0 : List Dv} {f1 : Fn} {l1 : List Dv} : lkOb (some (.var [.fn f0 l0, .fn f1 l1])) 0 2 = some (.agg [.fn f0 l0, .fn f1 l1]) := rfl
theorem faP_88_0 {id o : Nat} : fieldAddrD Tryz.prog 88 (.ptr id o) 0 = some (.ptr id (o + 0)) := by kernel_rfl
theorem idxR_26 {id m : Nat} {i : Int} (h0 : 0 ≤ i) (h1 : i < (m : Int)) : idxD Tryz.prog 26 (.ref id 0 m 2) (.p (.v (.int .i64 i))) = some (.ptr id (ato i 2)) := idx_ref u26 z41 (by decide) h0 h1
theorem ce_41__0 {l : List Pair} {i : Int} {v : Pair} (h : rd l i = some v) : (encL en_Pair l)[ato i 2 + 0]? = some (.v (.int .i64 v.Old)) := (encL_cell en_Pair_len h (k := 0) (by decide)).trans (by rw [en_Pair_eq]; rfl)
theorem ce_41__1 {l : List Pair} {i : Int} {v : Pair} (h : rd l i = some v) : (encL en_Pair l)[ato i 2 + 1]? = some (.v (.int .i64 v.New)) := (encL_cell en_Pair_len h (k := 1) (by decide)).trans (by rw [en_Pair_eq]; rfl)
theorem faP_88_1 {id o : Nat} : fieldAddrD Tryz.prog 88 (.ptr id o) 1 = some (.ptr id (o + 1)) := by kernel_rfl
theorem swap79_callg {x0 x1 : Int} {o0 : List Pair} {r : List Pair} (h : swapL x0 x1 o0 = some r) : callW Tryz.prog A0 79 [iv x0, iv x1, .ref 0 0 o0.length 2, .p (.v (typeHandle Tryz.prog 41))] [.arr (encL en_Pair o0)] = some (.p (.tup []), [.arr (encL en_Pair r)]) := callW_swap rfl (by kernel_rfl) z41 a41 en_Pair_len rfl h
theorem al_3 {H : List Ob} : allocD Tryz.prog 3 H = some (.ptr H.length 0, some (H ++ [.var [iv (0 : Int)]])) := by kernel_rfl
theorem ex_2_0 {c0 c1 : Pv} : extractD (.p (.tup [c0, c1])) 0 = some (.p c0) := rfl
theorem ex_2_1 {c0 c1 : Pv} : extractD (.p (.tup [c0, c1])) 1 = some (.p c1) := rfl
theorem cv_3_107 {x : Int} : convD Tryz.prog 3 107 (.p (.v (.int .i64 x))) = some (.p (.v (.int .u64 (IntKind.wrap .u64 x)))) := by kernel_rfl
theorem al_107 {H : List Ob} : allocD Tryz.prog 107 H = some (.ptr H.length 0, some (H ++ [.var [.p (.v (.int .u64 (0 : Int)))]])) := by kernel_rfl
theorem cv_85_3 {x : Int} : convD Tryz.prog 85 3 (.p (.v (.int .u64 x))) = some (.p (.v (.int .i64 (IntKind.wrap .i64 x)))) := by kernel_rfl
theorem lk_arr_41 {l : List Pair} {i : Int} {v : Pair} (h : rd l i = some v) : lkOb (some (.arr (encL en_Pair l))) (ato i 2) 2 = some (.p (.agg [.v (.int .i64 v.Old), .v (.int .i64 v.New)])) := (lkOb_arr en_Pair_len h).trans (by rw [en_Pair_eq])
theorem varlv_2_0_2 {c0 c1 : Pv} : lkOb (some (.var [.p c0, .p c1])) 0 2 = some (.p (.agg [c0, c1])) := rfl
theorem eqA_41 (a0 b0 : Int)(a1 b1 : Int) : pureRun Tryz.prog (Op.equalIn 10000 41 (.agg #[.int .i64 a0, .int .i64 a1]) (.agg #[.int .i64 b0, .int .i64 b1])) = some (decide (a0 = b0 ∧ a1 = b1)) := by
 refine (pr_equal_struct (d := 9999) Tryz.underlying41 (by kernel_rfl)).trans ?_
 refine (pr_cons (by decide) rfl rfl (pr_equal_int Tryz.underlying3) (pr_cons (by decide) rfl rfl (pr_equal_int Tryz.underlying3) pr_nil)).trans ?_
 simp only [Bool.decide_and, Bool.and_true]
theorem neq_41 {a0 b0 : Int}{a1 b1 : Int} {xo yo : Operand} : binD Tryz.prog .neq 41 xo yo (.p (.agg [.v (.int .i64 a0), .v (.int .i64 a1)])) (.p (.agg [.v (.int .i64 b0), .v (.int .i64 b1)])) = some (.p (.v (.bool (!decide (a0 = b0 ∧ a1 = b1))))) := binD_neq_agg rfl rfl (by kernel_rfl) (eqA_41 a0 b0 a1 b1)
theorem al_26 {H : List Ob} : allocD Tryz.prog 26 H = some (.ptr H.length 0, some (H ++ [.var [.p (.lst true 0 [])]])) := by kernel_rfl
theorem faI_51_3 {cs : List Pv} {o : Nat} : fieldAddrD Tryz.prog 51 (.p (.iptr cs o)) 3 = some (.p (.iptr cs (o + 3))) := by kernel_rfl
theorem ce_51__3 {l : List Row} {i : Int} {v : Row} (h : rd l i = some v) : (encL en_Row l)[ato i 5 + 3]? = some (.lst false v.Gaps.length (encL en_str v.Gaps)) := (encL_cell en_Row_len h (k := 3) (by decide)).trans (by rw [en_Row_eq]; rfl)
theorem idxG_69 {cs : List Pv} {o : Nat} {i : Int} (h0 : 0 ≤ i) (h1 : i < 27) : idxD Tryz.prog 69 (.p (.iptr cs o)) (.p (.v (.int .i64 i))) = some (.p (.iptr cs (o + i.toNat * 6))) := idx_iptr Tryz.underlying69 z68 (by decide) h0 h1
theorem faI_68_4 {cs : List Pv} {o : Nat} : fieldAddrD Tryz.prog 68 (.p (.iptr cs o)) 4 = some (.p (.iptr cs (o + 5))) := by kernel_rfl
theorem al_35 {H : List Ob} : allocD Tryz.prog 35 H = some (.ptr H.length 0, some (H ++ [.var [.p (.v .nilFunc)]])) := by kernel_rfl
theorem sg_1_0_f {H : List Ob} {id : Nat} {c0 : Dv} {f0 : Fn} {l0 : List Dv} : stgOb H id 0 1 [.fn f0 l0] (some (.var [c0])) = some (H.set id (.var [.fn f0 l0])) := by simp [stgOb, setAt]
theorem bs_22_0 {H : List Ob} : bsD Tryz.prog H 22 0 [] = some (.p (.lst true 0 []), none) := by kernel_rfl
theorem apn_22_22 {H : List Ob} {m : Nat} {full : Bool} {new : List Pv} : appendD Tryz.prog H #[22, 22] (.p (.lst true 0 [])) (.p (.lst full m new)) = apN H m 1 16 new := appendD_apn u22 u22 z9 b9 zc9 ⟨by decide, by decide, rfl⟩
theorem bu_25_0_1_2 {p0_0 : Int} {p1_0 : ByteArray} {p2_0f : Bool} {p2_0n : Nat} {p2_0c : List Pv} : buildD Tryz.prog 25 [(0, .p (.v (.int .i64 p0_0))), (1, .p (.v (.string p1_0))), (2, .p (.lst p2_0f p2_0n p2_0c))] = some (.p (.agg [.v (.int .i64 p0_0), .v (.string p1_0), .lst p2_0f p2_0n p2_0c, .lst true 0 []])) := by kernel_rfl
theorem bs_23_1 {p0_0 : Int} {p0_1 : ByteArray} {p0_2f : Bool} {p0_2n : Nat} {p0_2c : List Pv} {p0_3f : Bool} {p0_3n : Nat} {p0_3c : List Pv} {H : List Ob} : bsD Tryz.prog H 23 1 [(0, .p (.agg [.v (.int .i64 p0_0), .v (.string p0_1), .lst p0_2f p0_2n p0_2c, .lst p0_3f p0_3n p0_3c]))] = some (.p (.lst true 1 [.v (.int .i64 p0_0), .v (.string p0_1), .lst false p0_2n (wks p0_2c), .lst false p0_3n (wks p0_3c)]), none) := by kernel_rfl
theorem ap_23_23 {H : List Ob} {id off esz n m : Nat} {full : Bool} {new : List Pv} : appendD Tryz.prog H #[23, 23] (.ref id off n esz) (.p (.lst full m new)) = apOb H id off n m esz 4 72 new H[id]? := appendD_ap u23 u23 z25 b25 zc25 ⟨by decide, by decide, rfl⟩
theorem sg_4_0_3_r {H : List Ob} {id : Nat} {c0 c1 c2 c3 : Dv} {i0 o0 n0 e0 : Nat} : stgOb H id (0 + 3) 1 [.ref i0 o0 n0 e0] (some (.var [c0, c1, c2, c3])) = some (H.set id (.var [c0, c1, c2, .ref i0 o0 n0 e0])) := by simp [stgOb, setAt]
theorem varlg_pppr {c0 : Pv} {c1 : Pv} {c2 : Pv} {i3 o3 n3 e3 : Nat} : lkOb (some (.var [.p c0, .p c1, .p c2, .ref i3 o3 n3 e3])) 0 4 = some (.agg [.p c0, .p c1, .p c2, .ref i3 o3 n3 e3]) := rfl
theorem sg_4_0_pppr {H : List Ob} {id : Nat} {c0 c1 c2 c3 : Dv} {d0 d1 d2 : Pv} {i3 o3 n3 e3 : Nat} : stgOb H id 0 4 [.p d0, .p d1, .p d2, .ref i3 o3 n3 e3] (some (.var [c0, c1, c2, c3])) = some (H.set id (.var [.p d0, .p d1, .p d2, .ref i3 o3 n3 e3])) := by simp [stgOb, setAt]
theorem bu_25_  : buildD Tryz.prog 25 [] = some (.p (.agg [.v (.int .i64 (0 : Int)), .v (.string ByteArray.empty), .lst true 0 [], .lst true 0 []])) := by kernel_rfl
theorem bs_49_1 {p0_0 : Int} {H : List Ob} : bsD Tryz.prog H 49 1 [(0, .p (.v (.int .i64 p0_0)))] = some (.p (.lst true 1 [.v (.int .i64 p0_0)]), none) := by kernel_rfl
theorem ap_49_49 {H : List Ob} {id off esz n m : Nat} {full : Bool} {new : List Pv} : appendD Tryz.prog H #[49, 49] (.ref id off n esz) (.p (.lst full m new)) = apOb H id off n m esz 1 8 new H[id]? := appendD_ap u49 u49 z3 b3 zc3 ⟨by decide, by decide, rfl⟩
theorem faI_41_0 {cs : List Pv} {o : Nat} : fieldAddrD Tryz.prog 41 (.p (.iptr cs o)) 0 = some (.p (.iptr cs (o + 0))) := by kernel_rfl
theorem shi_26 {H : List Ob} {full : Bool} {l : List Pair} {a : Int} (h0 : 0 ≤ a) (h1 : a ≤ (l.length : Int)) : sliceD Tryz.prog H 26 (.p (.lst full l.length (encL en_Pair l))) none (some (.p (.v (.int .i64 a)))) none = some (.p (.lst (full && decide (a.toNat = l.length)) (l.take a.toNat).length (encL en_Pair (l.take a.toNat)))) := shi_enc u26 z41 (by decide) en_Pair_len h0 h1
theorem faI_41_1 {cs : List Pv} {o : Nat} : fieldAddrD Tryz.prog 41 (.p (.iptr cs o)) 1 = some (.p (.iptr cs (o + 1))) := by kernel_rfl
theorem faI_25_0 {cs : List Pv} {o : Nat} : fieldAddrD Tryz.prog 25 (.p (.iptr cs o)) 0 = some (.p (.iptr cs (o + 0))) := by kernel_rfl
theorem ce_25__0 {l : List Node} {i : Int} {v : Node} (h : rd l i = some v) : (encL en_Node l)[ato i 4 + 0]? = some (.v (.int .i64 v.Kind)) := (encL_cell en_Node_len h (k := 0) (by decide)).trans (by rw [en_Node_eq]; rfl)
theorem idxL_22 {full : Bool} {l : List ByteArray} {i : Int} (h0 : 0 ≤ i) (h1 : i < (l.length : Int)) : idxD Tryz.prog 22 (.p (.lst full l.length (encL en_str l))) (.p (.v (.int .i64 i))) = some (.p (.iptr (encL en_str l) (ato i 1))) := idx_lst u22 z9 (by decide) en_str_len h0 h1
theorem ce_9_x {l : List ByteArray} {i : Int} {v : ByteArray} (h : rd l i = some v) : (encL en_str l)[ato i 1]? = some (.v (.string v)) := (encL_cell en_str_len h (k := 0) (by decide)).trans (by rw [en_str_eq]; rfl)
theorem bu_25_0_1 {p0_0 : Int} {p1_0 : ByteArray} : buildD Tryz.prog 25 [(0, .p (.v (.int .i64 p0_0))), (1, .p (.v (.string p1_0)))] = some (.p (.agg [.v (.int .i64 p0_0), .v (.string p1_0), .lst true 0 [], .lst true 0 []])) := by kernel_rfl
theorem bs_26_0 {H : List Ob} : bsD Tryz.prog H 26 0 [] = some (.p (.lst true 0 []), none) := by kernel_rfl
end Xr

