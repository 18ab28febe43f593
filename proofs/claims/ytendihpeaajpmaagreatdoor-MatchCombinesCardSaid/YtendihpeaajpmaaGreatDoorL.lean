/- A part of the proof: L. No conditions of its own. -/
import Derived.Test.YtendihpeaajpmaaGreatDoorProg
import Derived.KernelRfl
import Derived.Test.YtendihpeaajpmaaGreatDoorT
namespace Xr
open Go Go.Ev Go.Proofs
set_option linter.unusedSimpArgs false
set_option linter.unusedVariables false
set_option linter.defProp false
set_option maxRecDepth 20000
def bodyOf (f : Func) : Code := f.body.getD .skip
def loopsOf : Code → List Code
 | .seq a b => loopsOf a ++ loopsOf b
 | .cond _ a b => loopsOf a ++ loopsOf b
 | .block _ b => loopsOf b
 | .loop b => b :: loopsOf b
 | _ => []
noncomputable abbrev sw130 (i n : Nat) : Dv := .fn (.func 130) [.ref i 0 n 2, .p (.v (typeHandle Tryz.prog 43))]
noncomputable instance gl : Gl := ⟨fun g => none, fun t => ([69, 136] : List Nat).contains t⟩
theorem im_ (t : TypeId) (h : ([69, 136] : List Nat).contains t = false := by kernel_rfl) : Gl.isMap t = false := h
def dynOf : Nat → List (Nat × List (Nat × Nat))
 | 47 => [(5, [(2, 5), (2, 6), (2, 7), (5, 6), (5, 7), (5, 8), (6, 7)]), (11, [(3, 7), (5, 7)])]
 | 72 => [(3, [(0, 4), (0, 5), (1, 4), (1, 5), (2, 4), (2, 5), (3, 4), (3, 5), (4, 5)]), (21, [(1, 8), (3, 8), (5, 8), (7, 8)]), (28, [(0, 5), (0, 6), (0, 7), (2, 3), (2, 5), (2, 6), (2, 7), (3, 6), (3, 7), (3, 8), (5, 6), (5, 7), (5, 8), (6, 7)])]
 | 76 => [(1, [(2, 5)])]
 | 100 => [(1, [(0, 7), (1, 7), (2, 7), (3, 7), (4, 7), (5, 7)])]
 | 102 => [(7, [(2, 5)])]
 | _ => []
def lpOf : Nat → List (Nat × List (Nat × Nat))
 | 12 => [(2, [(7, 11)])]
 | 22 => [(5, [(2, 10)])]
 | 33 => [(6, [(3, 9), (3, 12)]), (12, [(3, 9), (3, 12)])]
 | 45 => [(6, [(2, 13), (5, 13), (7, 13)])]
 | 101 => [(17, [(2, 15), (5, 15)]), (18, [(0, 9)])]
 | _ => []
def preOf : Nat → List (Nat × List Ghost)
 | 133 => [(2, [.keep [1, 2, 3, 6]]), (3, [.keep [1, 2, 3, 6, 7]]), (5, [.keep [1, 2, 3, 6, 7]])]
 | 158 => [(2, [.keep [2, 3, 4, 8]])]
 | 134 => [(5, [.keep [3, 6, 7, 8, 9]]), (8, [.keep [3, 6, 7, 8, 9]]), (9, [.keep [3, 6, 7, 10]])]
 | 137 => [(3, [.keep [3, 6, 7]])]
 | 138 => [(3, [.keep [1, 2, 3, 7, 8]]), (4, [.keep [1, 2, 3, 7, 8, 10]]), (5, [.keep [1, 2, 3, 7, 8]]), (7, [.keep [1, 2, 3, 7, 8]]), (14, [.keep [1, 2, 3, 7, 8, 9]]), (18, [.keep [1, 2, 3, 7, 8, 9]]), (20, [.keep [1, 2, 3, 7, 8, 10]]), (24, [.keep [1, 2, 3, 7, 8]])]
 | 140 => [(3, [.keep [1, 4, 10, 11]]), (5, [.keep [1, 4, 10, 11], .keep [1, 4, 10, 11]]), (7, [.keep [1, 4, 10, 11]]), (13, [.keep [1, 4, 10, 11], .keep [1, 4, 10, 11]]), (15, [.keep [1, 4, 10, 11], .keep [1, 4, 10, 11]]), (17, [.keep [1, 4, 10, 11]]), (21, [.keep [1, 4, 10, 11]])]
 | 139 => [(3, [.keep [1, 4, 9, 10], .keep [1, 4, 9, 10]]), (5, [.keep [1, 4, 9, 10], .keep [1, 4, 9, 10]]), (7, [.keep [1, 4, 9, 10]]), (11, [.keep [1, 4, 9, 10]])]
 | 135 => [(6, [.keep [1, 3, 6, 7, 8, 9]])]
 | 96 => [(3, [.keep [1, 2, 3, 4, 8, 9]])]
 | 43 => [(4, [.own 3 2, .keep [1, 3, 10, 11, 12]]), (9, [.keep [1, 3, 10, 11, 12]])]
 | 20 => [(3, [.own 3 2, .weak [6], .keep [3, 6, 7, 8]]), (7, [.keep [3, 6, 7, 8]])]
 | 39 => [(4, [.own 5 2, .weak [0], .keep [0, 3, 5, 6, 7]]), (12, [.keep [0, 3, 5, 6, 7]])]
 | 21 => [(3, [.weak [0, 3], .keep [0, 3, 4]]), (6, [.keep [0, 3, 4]])]
 | 11 => [(4, [.weak [0, 1], .keep [0, 1, 5]]), (8, [.keep [0, 1, 5]])]
 | 23 => [(3, [.weak [0, 1, 5], .keep [0, 1, 5, 6]]), (4, [.keep [0, 1, 5, 6, 7]]), (6, [.weak [0, 1, 5], .keep [0, 1, 5, 6, 7]]), (10, [.keep [0, 1, 5, 6]])]
 | 45 => [(4, [.freeze 7])]
 | 114 => [(5, [.vary 5])]
 | 70 => [(2, [.pack 11])]
 | 67 => [(4, [.pack 6])]
 | 22 => [(8, [.own 8 2])]
 | _ => []
def A0 : Ann := { okf := fun _ => true, keeps := fun f => [27, 44, 50, 67, 68, 70].contains f, muts := fun f => [29, 33, 43, 44, 50, 64, 65, 68, 70, 92, 93, 94, 96, 124, 125, 126, 127, 128, 129, 130, 133, 134, 135, 136, 137, 138, 139, 140, 158, 160, 161, 162, 173].contains f, ros := fun f => [].contains f, loud := fun f r => ([(12, 2), (12, 2), (45, 6), (45, 6), (45, 7), (67, 10), (68, 6)] : List (Nat × Nat)).contains (f, r), pre := fun f r => ((preOf f).lookup r).getD [], clone := fun f => none, dyn := fun f q => (dynOf f).lookup q, lp := fun f q => (lpOf f).lookup q, outer := fun f => if f == 92 then some (.valueOf) else if f == 94 then some (.valLen) else if f == 93 then some (.swapper [(29, 122, 123, 130, 43)]) else if f == 124 then some (.swap) else if f == 125 then some (.swap) else if f == 126 then some (.swap) else if f == 127 then some (.swap) else if f == 128 then some (.swap) else if f == 129 then some (.swap) else if f == 130 then some (.swap) else none, full := fun f => ([68] : List Nat).contains f }
theorem clones : CloneOk Tryz.prog A0 := fun f sz h => by cases h
theorem swapper_is : ExtIs Tryz.prog (.swapper [(29, 122, 123, 130, 43)]) (Extern.ReflectliteSwapper.swapper "internal/reflectlite" (Extern.ReflectliteValue.valueError "Swapper")) := by
 intro t f0 f1 f2 h hl w s n cap
 by_cases ht : t = 29
 ·subst ht
  obtain ⟨rfl, rfl, rfl, rfl⟩ : f0 = 122 ∧ f1 = 123 ∧ f2 = 130 ∧ h = 43 := by
   have := Option.some.inj hl
   simp only [Prod.mk.injEq] at this
   exact ⟨this.1.symm, this.2.1.symm, this.2.2.1.symm, this.2.2.2.symm⟩
  match n with
  | 0 => show Sem.run _ _ _ = _; kernel_rfl
  | 1 => show Sem.run _ _ _ = _; kernel_rfl
  | n + 2 => show Sem.run _ _ _ = _; kernel_rfl
 ·simp [List.lookup, show (t == 29) = false from by simpa using ht] at hl
theorem exts : ExtOk Tryz.prog A0 := by
 intro f k h
 simp only [A0] at h
 split at h
 ·rename_i hf
  obtain rfl := Option.some.inj h
  obtain rfl : f = 92 := by simpa using hf
  exact ⟨Tryz.f92, _, Tryz.func92, by kernel_rfl, by kernel_rfl, by kernel_rfl, (by kernel_rfl : Extern.find Tryz.f92 = some (fun args => Extern.ReflectliteValue.unpack (args.getD 0 (.tuple #[])))), rfl⟩
 split at h
 ·rename_i hf
  obtain rfl := Option.some.inj h
  obtain rfl : f = 94 := by simpa using hf
  exact ⟨Tryz.f94, _, Tryz.func94, by kernel_rfl, by kernel_rfl, by kernel_rfl, (by kernel_rfl : Extern.find Tryz.f94 = some (Extern.ReflectliteValue.method (Extern.ReflectliteValue.valueError "reflectlite.Value.Len" 0) Extern.ReflectliteValue.len)), rfl⟩
 split at h
 ·rename_i hf
  obtain rfl := Option.some.inj h
  obtain rfl : f = 93 := by simpa using hf
  exact ⟨Tryz.f93, _, Tryz.func93, by kernel_rfl, by kernel_rfl, by kernel_rfl, (by kernel_rfl : Extern.find Tryz.f93 = some (Extern.ReflectliteSwapper.swapper "internal/reflectlite" (Extern.ReflectliteValue.valueError "Swapper"))), swapper_is⟩
 split at h
 ·rename_i hf
  obtain rfl := Option.some.inj h
  obtain rfl : f = 124 := by simpa using hf
  exact ⟨Tryz.f124, _, Tryz.func124, by kernel_rfl, by kernel_rfl, by kernel_rfl, (by kernel_rfl : Extern.find Tryz.f124 = some (Extern.ReflectliteSwapper.swap true)), ⟨true, rfl⟩⟩
 split at h
 ·rename_i hf
  obtain rfl := Option.some.inj h
  obtain rfl : f = 125 := by simpa using hf
  exact ⟨Tryz.f125, _, Tryz.func125, by kernel_rfl, by kernel_rfl, by kernel_rfl, (by kernel_rfl : Extern.find Tryz.f125 = some (Extern.ReflectliteSwapper.swap true)), ⟨true, rfl⟩⟩
 split at h
 ·rename_i hf
  obtain rfl := Option.some.inj h
  obtain rfl : f = 126 := by simpa using hf
  exact ⟨Tryz.f126, _, Tryz.func126, by kernel_rfl, by kernel_rfl, by kernel_rfl, (by kernel_rfl : Extern.find Tryz.f126 = some (Extern.ReflectliteSwapper.swap true)), ⟨true, rfl⟩⟩
 split at h
 ·rename_i hf
  obtain rfl := Option.some.inj h
  obtain rfl : f = 127 := by simpa using hf
  exact ⟨Tryz.f127, _, Tryz.func127, by kernel_rfl, by kernel_rfl, by kernel_rfl, (by kernel_rfl : Extern.find Tryz.f127 = some (Extern.ReflectliteSwapper.swap true)), ⟨true, rfl⟩⟩
 split at h
 ·rename_i hf
  obtain rfl := Option.some.inj h
  obtain rfl : f = 128 := by simpa using hf
  exact ⟨Tryz.f128, _, Tryz.func128, by kernel_rfl, by kernel_rfl, by kernel_rfl, (by kernel_rfl : Extern.find Tryz.f128 = some (Extern.ReflectliteSwapper.swap true)), ⟨true, rfl⟩⟩
 split at h
 ·rename_i hf
  obtain rfl := Option.some.inj h
  obtain rfl : f = 129 := by simpa using hf
  exact ⟨Tryz.f129, _, Tryz.func129, by kernel_rfl, by kernel_rfl, by kernel_rfl, (by kernel_rfl : Extern.find Tryz.f129 = some (Extern.ReflectliteSwapper.swap true)), ⟨true, rfl⟩⟩
 split at h
 ·rename_i hf
  obtain rfl := Option.some.inj h
  obtain rfl : f = 130 := by simpa using hf
  exact ⟨Tryz.f130, _, Tryz.func130, by kernel_rfl, by kernel_rfl, by kernel_rfl, (by kernel_rfl : Extern.find Tryz.f130 = some (Extern.ReflectliteSwapper.swap false)), ⟨false, rfl⟩⟩
 cases h
abbrev RG (f q : Nat) (g : List Ghost) (o : Array Oper) (d : Bool) (s : St) : Prop := evW Tryz.prog A0 f (.region q o d) s = regW Tryz.prog A0 (d && true) o o.toList (ghostsD g s)
abbrev RZq (f q : Nat) (g : List Ghost) (y : List (Nat × Nat)) (o : Array Oper) (s : St) : Prop := evW Tryz.prog A0 f (.region q o true) s = regZ Tryz.prog A0 (true && true) o y o.toList (ghostsD g s)
theorem r132_0 {o d s} : RG 132 0 [] o d s := w_region
theorem r132_1 {o d s} : RG 132 1 [] o d s := w_region
theorem r132_2 {o d s} : RG 132 2 [] o d s := w_region
theorem r132_3 {o d s} : RG 132 3 [] o d s := w_region
theorem r132_4 {o d s} : RG 132 4 [] o d s := w_region
theorem r132_5 {o d s} : RG 132 5 [] o d s := w_region
theorem r132_6 {o d s} : RG 132 6 [] o d s := w_region
theorem r132_7 {o d s} : RG 132 7 [] o d s := w_region
theorem r132_8 {o d s} : RG 132 8 [] o d s := w_region
theorem r132_9 {o d s} : RG 132 9 [] o d s := w_region
theorem r132_10 {o d s} : RG 132 10 [] o d s := w_region
theorem r95_0 {o d s} : RG 95 0 [] o d s := w_region
theorem r95_1 {o d s} : RG 95 1 [] o d s := w_region
theorem r95_2 {o d s} : RG 95 2 [] o d s := w_region
theorem r65_0 {o d s} : RG 65 0 [] o d s := w_region
theorem r65_1 {o d s} : RG 65 1 [] o d s := w_region
theorem r133_0 {o d s} : RG 133 0 [] o d s := w_region
theorem r133_1 {o d s} : RG 133 1 [] o d s := w_region
theorem r133_2 {o d s} : RG 133 2 [.keep [1, 2, 3, 6]] o d s := w_region
theorem r133_4 {o d s} : RG 133 4 [] o d s := w_region
theorem r133_5 {o d s} : RG 133 5 [.keep [1, 2, 3, 6, 7]] o d s := w_region
theorem r133_7 {o d s} : RG 133 7 [] o d s := w_region
theorem r133_6 {o d s} : RG 133 6 [] o d s := w_region
theorem r133_3 {o d s} : RG 133 3 [.keep [1, 2, 3, 6, 7]] o d s := w_region
theorem r158_0 {o d s} : RG 158 0 [] o d s := w_region
theorem r158_1 {o d s} : RG 158 1 [] o d s := w_region
theorem r158_2 {o d s} : RG 158 2 [.keep [2, 3, 4, 8]] o d s := w_region
theorem r158_3 {o d s} : RG 158 3 [] o d s := w_region
theorem r158_4 {o d s} : RG 158 4 [] o d s := w_region
theorem r158_5 {o d s} : RG 158 5 [] o d s := w_region
theorem r158_6 {o d s} : RG 158 6 [] o d s := w_region
theorem r158_7 {o d s} : RG 158 7 [] o d s := w_region
theorem r158_8 {o d s} : RG 158 8 [] o d s := w_region
theorem r134_0 {o d s} : RG 134 0 [] o d s := w_region
theorem r134_1 {o d s} : RG 134 1 [] o d s := w_region
theorem r134_2 {o d s} : RG 134 2 [] o d s := w_region
theorem r134_3 {o d s} : RG 134 3 [] o d s := w_region
theorem r134_4 {o d s} : RG 134 4 [] o d s := w_region
theorem r134_5 {o d s} : RG 134 5 [.keep [3, 6, 7, 8, 9]] o d s := w_region
theorem r134_7 {o d s} : RG 134 7 [] o d s := w_region
theorem r134_6 {o d s} : RG 134 6 [] o d s := w_region
theorem r134_8 {o d s} : RG 134 8 [.keep [3, 6, 7, 8, 9]] o d s := w_region
theorem r134_9 {o d s} : RG 134 9 [.keep [3, 6, 7, 10]] o d s := w_region
theorem r134_11 {o d s} : RG 134 11 [] o d s := w_region
theorem r134_12 {o d s} : RG 134 12 [] o d s := w_region
theorem r134_10 {o d s} : RG 134 10 [] o d s := w_region
theorem r173_0 {o d s} : RG 173 0 [] o d s := w_region
theorem r173_1 {o d s} : RG 173 1 [] o d s := w_region
theorem r173_2 {o d s} : RG 173 2 [] o d s := w_region
theorem r173_3 {o d s} : RG 173 3 [] o d s := w_region
theorem r173_4 {o d s} : RG 173 4 [] o d s := w_region
theorem r162_0 {o d s} : RG 162 0 [] o d s := w_region
theorem r162_1 {o d s} : RG 162 1 [] o d s := w_region
theorem r162_2 {o d s} : RG 162 2 [] o d s := w_region
theorem r162_3 {o d s} : RG 162 3 [] o d s := w_region
theorem r162_4 {o d s} : RG 162 4 [] o d s := w_region
theorem r161_0 {o d s} : RG 161 0 [] o d s := w_region
theorem r161_1 {o d s} : RG 161 1 [] o d s := w_region
theorem r136_0 {o d s} : RG 136 0 [] o d s := w_region
theorem r136_1 {o d s} : RG 136 1 [] o d s := w_region
theorem r136_2 {o d s} : RG 136 2 [] o d s := w_region
theorem r136_3 {o d s} : RG 136 3 [] o d s := w_region
theorem r136_4 {o d s} : RG 136 4 [] o d s := w_region
theorem r136_5 {o d s} : RG 136 5 [] o d s := w_region
theorem r136_6 {o d s} : RG 136 6 [] o d s := w_region
theorem r136_7 {o d s} : RG 136 7 [] o d s := w_region
theorem r136_8 {o d s} : RG 136 8 [] o d s := w_region
theorem r136_9 {o d s} : RG 136 9 [] o d s := w_region
theorem r136_10 {o d s} : RG 136 10 [] o d s := w_region
theorem r136_11 {o d s} : RG 136 11 [] o d s := w_region
theorem r136_12 {o d s} : RG 136 12 [] o d s := w_region
theorem r136_14 {o d s} : RG 136 14 [] o d s := w_region
theorem r136_15 {o d s} : RG 136 15 [] o d s := w_region
theorem r136_16 {o d s} : RG 136 16 [] o d s := w_region
theorem r136_17 {o d s} : RG 136 17 [] o d s := w_region
theorem r136_13 {o d s} : RG 136 13 [] o d s := w_region
theorem r137_0 {o d s} : RG 137 0 [] o d s := w_region
theorem r137_1 {o d s} : RG 137 1 [] o d s := w_region
theorem r137_2 {o d s} : RG 137 2 [] o d s := w_region
theorem r137_3 {o d s} : RG 137 3 [.keep [3, 6, 7]] o d s := w_region
theorem r137_4 {o d s} : RG 137 4 [] o d s := w_region
theorem r137_5 {o d s} : RG 137 5 [] o d s := w_region
theorem r137_6 {o d s} : RG 137 6 [] o d s := w_region
theorem r138_0 {o d s} : RG 138 0 [] o d s := w_region
theorem r138_1 {o d s} : RG 138 1 [] o d s := w_region
theorem r138_2 {o d s} : RG 138 2 [] o d s := w_region
theorem r138_3 {o d s} : RG 138 3 [.keep [1, 2, 3, 7, 8]] o d s := w_region
theorem r138_5 {o d s} : RG 138 5 [.keep [1, 2, 3, 7, 8]] o d s := w_region
theorem r138_6 {o d s} : RG 138 6 [] o d s := w_region
theorem r138_7 {o d s} : RG 138 7 [.keep [1, 2, 3, 7, 8]] o d s := w_region
theorem r138_8 {o d s} : RG 138 8 [] o d s := w_region
theorem r138_9 {o d s} : RG 138 9 [] o d s := w_region
theorem r138_10 {o d s} : RG 138 10 [] o d s := w_region
theorem r138_11 {o d s} : RG 138 11 [] o d s := w_region
theorem r138_12 {o d s} : RG 138 12 [] o d s := w_region
theorem r138_13 {o d s} : RG 138 13 [] o d s := w_region
theorem r138_14 {o d s} : RG 138 14 [.keep [1, 2, 3, 7, 8, 9]] o d s := w_region
theorem r138_16 {o d s} : RG 138 16 [] o d s := w_region
theorem r138_17 {o d s} : RG 138 17 [] o d s := w_region
theorem r138_15 {o d s} : RG 138 15 [] o d s := w_region
theorem r138_18 {o d s} : RG 138 18 [.keep [1, 2, 3, 7, 8, 9]] o d s := w_region
theorem r138_19 {o d s} : RG 138 19 [] o d s := w_region
theorem r138_20 {o d s} : RG 138 20 [.keep [1, 2, 3, 7, 8, 10]] o d s := w_region
theorem r138_22 {o d s} : RG 138 22 [] o d s := w_region
theorem r138_23 {o d s} : RG 138 23 [] o d s := w_region
theorem r138_21 {o d s} : RG 138 21 [] o d s := w_region
theorem r138_4 {o d s} : RG 138 4 [.keep [1, 2, 3, 7, 8, 10]] o d s := w_region
theorem r138_24 {o d s} : RG 138 24 [.keep [1, 2, 3, 7, 8]] o d s := w_region
theorem r140_0 {o d s} : RG 140 0 [] o d s := w_region
theorem r140_1 {o d s} : RG 140 1 [] o d s := w_region
theorem r140_2 {o d s} : RG 140 2 [] o d s := w_region
theorem r140_3 {o d s} : RG 140 3 [.keep [1, 4, 10, 11]] o d s := w_region
theorem r140_4 {o d s} : RG 140 4 [] o d s := w_region
theorem r140_5 {o d s} : RG 140 5 [.keep [1, 4, 10, 11], .keep [1, 4, 10, 11]] o d s := w_region
theorem r140_6 {o d s} : RG 140 6 [] o d s := w_region
theorem r140_7 {o d s} : RG 140 7 [.keep [1, 4, 10, 11]] o d s := w_region
theorem r140_8 {o d s} : RG 140 8 [] o d s := w_region
theorem r140_9 {o d s} : RG 140 9 [] o d s := w_region
theorem r140_10 {o d s} : RG 140 10 [] o d s := w_region
theorem r140_11 {o d s} : RG 140 11 [] o d s := w_region
theorem r140_12 {o d s} : RG 140 12 [] o d s := w_region
theorem r140_13 {o d s} : RG 140 13 [.keep [1, 4, 10, 11], .keep [1, 4, 10, 11]] o d s := w_region
theorem r140_14 {o d s} : RG 140 14 [] o d s := w_region
theorem r140_15 {o d s} : RG 140 15 [.keep [1, 4, 10, 11], .keep [1, 4, 10, 11]] o d s := w_region
theorem r140_16 {o d s} : RG 140 16 [] o d s := w_region
theorem r140_17 {o d s} : RG 140 17 [.keep [1, 4, 10, 11]] o d s := w_region
theorem r140_18 {o d s} : RG 140 18 [] o d s := w_region
theorem r140_19 {o d s} : RG 140 19 [] o d s := w_region
theorem r140_20 {o d s} : RG 140 20 [] o d s := w_region
theorem r140_21 {o d s} : RG 140 21 [.keep [1, 4, 10, 11]] o d s := w_region
theorem r140_22 {o d s} : RG 140 22 [] o d s := w_region
theorem r139_0 {o d s} : RG 139 0 [] o d s := w_region
theorem r139_1 {o d s} : RG 139 1 [] o d s := w_region
theorem r139_2 {o d s} : RG 139 2 [] o d s := w_region
theorem r139_3 {o d s} : RG 139 3 [.keep [1, 4, 9, 10], .keep [1, 4, 9, 10]] o d s := w_region
theorem r139_4 {o d s} : RG 139 4 [] o d s := w_region
theorem r139_5 {o d s} : RG 139 5 [.keep [1, 4, 9, 10], .keep [1, 4, 9, 10]] o d s := w_region
theorem r139_6 {o d s} : RG 139 6 [] o d s := w_region
theorem r139_7 {o d s} : RG 139 7 [.keep [1, 4, 9, 10]] o d s := w_region
theorem r139_8 {o d s} : RG 139 8 [] o d s := w_region
theorem r139_9 {o d s} : RG 139 9 [] o d s := w_region
theorem r139_10 {o d s} : RG 139 10 [] o d s := w_region
theorem r139_11 {o d s} : RG 139 11 [.keep [1, 4, 9, 10]] o d s := w_region
theorem r159_0 {o d s} : RG 159 0 [] o d s := w_region
theorem r159_1 {o d s} : RG 159 1 [] o d s := w_region
theorem r159_2 {o d s} : RG 159 2 [] o d s := w_region
theorem r160_0 {o d s} : RG 160 0 [] o d s := w_region
theorem r160_1 {o d s} : RG 160 1 [] o d s := w_region
theorem r160_2 {o d s} : RG 160 2 [] o d s := w_region
theorem r160_3 {o d s} : RG 160 3 [] o d s := w_region
theorem r160_4 {o d s} : RG 160 4 [] o d s := w_region
theorem r135_0 {o d s} : RG 135 0 [] o d s := w_region
theorem r135_1 {o d s} : RG 135 1 [] o d s := w_region
theorem r135_2 {o d s} : RG 135 2 [] o d s := w_region
theorem r135_3 {o d s} : RG 135 3 [] o d s := w_region
theorem r135_4 {o d s} : RG 135 4 [] o d s := w_region
theorem r135_5 {o d s} : RG 135 5 [] o d s := w_region
theorem r135_6 {o d s} : RG 135 6 [.keep [1, 3, 6, 7, 8, 9]] o d s := w_region
theorem r135_8 {o d s} : RG 135 8 [] o d s := w_region
theorem r135_9 {o d s} : RG 135 9 [] o d s := w_region
theorem r135_10 {o d s} : RG 135 10 [] o d s := w_region
theorem r135_11 {o d s} : RG 135 11 [] o d s := w_region
theorem r135_7 {o d s} : RG 135 7 [] o d s := w_region
theorem r96_0 {o d s} : RG 96 0 [] o d s := w_region
theorem r96_1 {o d s} : RG 96 1 [] o d s := w_region
theorem r96_2 {o d s} : RG 96 2 [] o d s := w_region
theorem r96_3 {o d s} : RG 96 3 [.keep [1, 2, 3, 4, 8, 9]] o d s := w_region
theorem r96_4 {o d s} : RG 96 4 [] o d s := w_region
theorem r96_5 {o d s} : RG 96 5 [] o d s := w_region
theorem r96_6 {o d s} : RG 96 6 [] o d s := w_region
theorem r96_7 {o d s} : RG 96 7 [] o d s := w_region
theorem r96_8 {o d s} : RG 96 8 [] o d s := w_region
theorem r96_9 {o d s} : RG 96 9 [] o d s := w_region
theorem r96_10 {o d s} : RG 96 10 [] o d s := w_region
theorem r96_11 {o d s} : RG 96 11 [] o d s := w_region
theorem r96_12 {o d s} : RG 96 12 [] o d s := w_region
theorem r96_13 {o d s} : RG 96 13 [] o d s := w_region
theorem r96_14 {o d s} : RG 96 14 [] o d s := w_region
theorem r96_15 {o d s} : RG 96 15 [] o d s := w_region
theorem r96_16 {o d s} : RG 96 16 [] o d s := w_region
theorem r96_17 {o d s} : RG 96 17 [] o d s := w_region
theorem r96_18 {o d s} : RG 96 18 [] o d s := w_region
theorem r96_19 {o d s} : RG 96 19 [] o d s := w_region
theorem r96_20 {o d s} : RG 96 20 [] o d s := w_region
theorem r96_21 {o d s} : RG 96 21 [] o d s := w_region
theorem r96_22 {o d s} : RG 96 22 [] o d s := w_region
theorem r96_23 {o d s} : RG 96 23 [] o d s := w_region
theorem r96_24 {o d s} : RG 96 24 [] o d s := w_region
theorem r96_25 {o d s} : RG 96 25 [] o d s := w_region
theorem r96_26 {o d s} : RG 96 26 [] o d s := w_region
theorem r96_27 {o d s} : RG 96 27 [] o d s := w_region
theorem r96_28 {o d s} : RG 96 28 [] o d s := w_region
theorem r96_29 {o d s} : RG 96 29 [] o d s := w_region
theorem r96_30 {o d s} : RG 96 30 [] o d s := w_region
theorem r96_31 {o d s} : RG 96 31 [] o d s := w_region
theorem r64_0 {o d s} : RG 64 0 [] o d s := w_region
theorem r64_1 {o d s} : RG 64 1 [] o d s := w_region
theorem r64_2 {o d s} : RG 64 2 [] o d s := w_region
theorem r64_3 {o d s} : RG 64 3 [] o d s := w_region
theorem r64_4 {o d s} : RG 64 4 [] o d s := w_region
theorem r43_0 {o d s} : RG 43 0 [] o d s := w_region
theorem r43_1 {o d s} : RG 43 1 [] o d s := w_region
theorem r43_2 {o d s} : RG 43 2 [] o d s := w_region
theorem r43_3 {o d s} : RG 43 3 [] o d s := w_region
theorem r43_4 {o d s} : RG 43 4 [.own 3 2, .keep [1, 3, 10, 11, 12]] o d s := w_region
theorem r43_5 {o d s} : RG 43 5 [] o d s := w_region
theorem r43_6 {o d s} : RG 43 6 [] o d s := w_region
theorem r43_7 {o d s} : RG 43 7 [] o d s := w_region
theorem r43_8 {o d s} : RG 43 8 [] o d s := w_region
theorem r43_9 {o d s} : RG 43 9 [.keep [1, 3, 10, 11, 12]] o d s := w_region
theorem r20_0 {o d s} : RG 20 0 [] o d s := w_region
theorem r20_1 {o d s} : RG 20 1 [] o d s := w_region
theorem r20_2 {o d s} : RG 20 2 [] o d s := w_region
theorem r20_3 {o d s} : RG 20 3 [.own 3 2, .weak [6], .keep [3, 6, 7, 8]] o d s := w_region
theorem r20_4 {o d s} : RG 20 4 [] o d s := w_region
theorem r20_5 {o d s} : RG 20 5 [] o d s := w_region
theorem r20_6 {o d s} : RG 20 6 [] o d s := w_region
theorem r20_7 {o d s} : RG 20 7 [.keep [3, 6, 7, 8]] o d s := w_region
theorem r39_0 {o d s} : RG 39 0 [] o d s := w_region
theorem r39_1 {o d s} : RG 39 1 [] o d s := w_region
theorem r39_2 {o d s} : RG 39 2 [] o d s := w_region
theorem r39_3 {o d s} : RG 39 3 [] o d s := w_region
theorem r39_4 {o d s} : RG 39 4 [.own 5 2, .weak [0], .keep [0, 3, 5, 6, 7]] o d s := w_region
theorem r39_6 {o d s} : RG 39 6 [] o d s := w_region
theorem r39_7 {o d s} : RG 39 7 [] o d s := w_region
theorem r39_8 {o d s} : RG 39 8 [] o d s := w_region
theorem r39_9 {o d s} : RG 39 9 [] o d s := w_region
theorem r39_10 {o d s} : RG 39 10 [] o d s := w_region
theorem r39_11 {o d s} : RG 39 11 [] o d s := w_region
theorem r39_5 {o d s} : RG 39 5 [] o d s := w_region
theorem r39_12 {o d s} : RG 39 12 [.keep [0, 3, 5, 6, 7]] o d s := w_region
theorem r39_13 {o d s} : RG 39 13 [] o d s := w_region
theorem r39_14 {o d s} : RG 39 14 [] o d s := w_region
theorem r21_0 {o d s} : RG 21 0 [] o d s := w_region
theorem r21_1 {o d s} : RG 21 1 [] o d s := w_region
theorem r21_2 {o d s} : RG 21 2 [] o d s := w_region
theorem r21_3 {o d s} : RG 21 3 [.weak [0, 3], .keep [0, 3, 4]] o d s := w_region
theorem r21_5 {o d s} : RG 21 5 [] o d s := w_region
theorem r21_4 {o d s} : RG 21 4 [] o d s := w_region
theorem r21_6 {o d s} : RG 21 6 [.keep [0, 3, 4]] o d s := w_region
theorem r11_0 {o d s} : RG 11 0 [] o d s := w_region
theorem r11_1 {o d s} : RG 11 1 [] o d s := w_region
theorem r11_2 {o d s} : RG 11 2 [] o d s := w_region
theorem r11_3 {o d s} : RG 11 3 [] o d s := w_region
theorem r11_4 {o d s} : RG 11 4 [.weak [0, 1], .keep [0, 1, 5]] o d s := w_region
theorem r11_6 {o d s} : RG 11 6 [] o d s := w_region
theorem r11_7 {o d s} : RG 11 7 [] o d s := w_region
theorem r11_5 {o d s} : RG 11 5 [] o d s := w_region
theorem r11_8 {o d s} : RG 11 8 [.keep [0, 1, 5]] o d s := w_region
theorem r23_0 {o d s} : RG 23 0 [] o d s := w_region
theorem r23_1 {o d s} : RG 23 1 [] o d s := w_region
theorem r23_2 {o d s} : RG 23 2 [] o d s := w_region
theorem r23_3 {o d s} : RG 23 3 [.weak [0, 1, 5], .keep [0, 1, 5, 6]] o d s := w_region
theorem r23_5 {o d s} : RG 23 5 [] o d s := w_region
theorem r23_6 {o d s} : RG 23 6 [.weak [0, 1, 5], .keep [0, 1, 5, 6, 7]] o d s := w_region
theorem r23_8 {o d s} : RG 23 8 [] o d s := w_region
theorem r23_9 {o d s} : RG 23 9 [] o d s := w_region
theorem r23_7 {o d s} : RG 23 7 [] o d s := w_region
theorem r23_4 {o d s} : RG 23 4 [.keep [0, 1, 5, 6, 7]] o d s := w_region
theorem r23_10 {o d s} : RG 23 10 [.keep [0, 1, 5, 6]] o d s := w_region
theorem r6_0 {o d s} : RG 6 0 [] o d s := w_region
theorem r6_1 {o d s} : RG 6 1 [] o d s := w_region
theorem r6_2 {o d s} : RG 6 2 [] o d s := w_region
theorem r6_3 {o d s} : RG 6 3 [] o d s := w_region
def bs := And.intro @w_seq (And.intro @ghosts_nil (And.intro @regW_some (And.intro @regY_some (And.intro @doneY_some (And.intro @regZ_some (And.intro @doneZ_some (And.intro @ops_move (And.intro @ops_assign (And.intro @ops_bin (And.intro @ops_load (And.intro @ops_indexAddr (And.intro @ops_len (And.intro @ops_store (And.intro @ops_call (And.intro @opsP_some (And.intro @opsQ_none (And.intro @opsQ_some (And.intro @opsQ_loud (And.intro @ops_nil (And.intro @doneW_some (And.intro @seqW_normal (And.intro @seqW_ret (And.intro @seqW_exit (And.intro @w_cond (And.intro @w_block (And.intro @condW_true (And.intro @condW_false (And.intro @evalO_tmp (And.intro @evalO_const (And.intro @evalO_func (And.intro @ofVal_int (And.intro @ofVal_bool (And.intro @ofVal_nil (And.intro @ofVal_str (And.intro @set8 (And.intro @getD8 (And.intro @List.set_cons_succ.{0} (And.intro @List.set_cons_zero.{0} (And.intro @List.getD_cons_succ.{0} (And.intro @List.getD_cons_zero.{0} (And.intro @binN_tmp (And.intro @binN_int (And.intro @binN_bool (And.intro @binN_str (And.intro @binD_add (And.intro @binD_sub (And.intro @binD_mul (And.intro @binD_lss (And.intro @binD_leq (And.intro @binD_gtr (And.intro @binD_geq (And.intro @binD_eql (And.intro @binD_neq (And.intro @boolD_bv (And.intro @Option.map_some.{0, 0} (And.intro @blockW_normal (And.intro @blockW_ret (And.intro @blockW_exit (And.intro @blockW_other (And.intro @Bool.false_and (And.intro @Bool.and_false (And.intro @Bool.and_true (And.intro @Bool.true_and (And.intro @Bool.not_true (And.intro @Bool.not_false (And.intro @decide_true (And.intro @decide_false (And.intro @ops_guard (And.intro @opsG_true (And.intro @opsG_false (And.intro @wantT_some (And.intro @yield_bv (And.intro @yield_undef (And.intro @putD_some (And.intro @putD_none (And.intro @beq_true' (And.intro @beq_false' (And.intro @List.getElem?_toArray.{0} (And.intro @List.getElem?_cons_succ.{0} (And.intro @List.getElem?_cons_zero.{0} (And.intro @Option.bind_some.{0, 0} (And.intro @Option.bind_none.{0, 0} (And.intro @Option.map_none.{0, 0} (And.intro @ops_pick (And.intro @List.length_cons.{0} (And.intro @List.length_nil.{0} (And.intro @List.cons_append.{0} (And.intro @List.nil_append.{0} (And.intro @ldOb_arr (And.intro @ldOb_frz (And.intro @callV_fn (And.intro @pickD_true (And.intro @pickD_false (And.intro @ops_un (And.intro @unD_not (And.intro @ops_max (And.intro @ops_min (And.intro @ops_bs (And.intro @ops_append (And.intro @ops_make (And.intro @ops_slice (And.intro @ops_extract (And.intro @ops_fieldAddr (And.intro @ops_field (And.intro @ops_build (And.intro @ops_alloc (And.intro @ops_box (And.intro @ops_index (And.intro @ops_conv (And.intro @boxD_leaf (And.intro @boxD_agg (And.intro @boxD_str (And.intro @boxD_bool (And.intro @boxD_lst (And.intro @boxD_ref (And.intro @if_true.{1} (And.intro @if_false.{1} (And.intro @evW_skip (And.intro @evW_exit (And.intro @evW_ret (And.intro @callV_func (And.intro @List.map_cons.{0, 0} (And.intro @List.map_nil.{0, 0} (And.intro @Wp_some (And.intro @condW_t (And.intro @condW_f (And.intro @condW_nt (And.intro @condW_nf (And.intro @opsG_t (And.intro @opsG_f (And.intro @opsG_nt (And.intro @opsG_nf (And.intro @pickD_t (And.intro @pickD_f (And.intro @pickD_nt (And.intro @pickD_nf (And.intro @Bool.not_not (@callV_pfn))))))))))))))))))))))))))))))))))))))))))))))))))))))))))))))))))))))))))))))))))))))))))))))))))))))))))))))))))))))))))))))))))))))))))
abbrev J : Dv := .junk
def ens := And.intro @Option.getD_some.{0} (And.intro @List.append_nil.{0} (And.intro @List.nil_append.{0} (And.intro @List.cons_append.{0} (And.intro @List.getD_cons_zero.{0} (And.intro @List.getD_cons_succ.{0} (And.intro @List.length_cons.{0} (And.intro @List.length_nil.{0} (And.intro @List.replicate_succ.{0} (@List.replicate_zero.{0})))))))))
def rs132 := And.intro @r132_0 (And.intro @r132_1 (And.intro @r132_2 (And.intro @r132_3 (And.intro @r132_4 (And.intro @r132_5 (And.intro @r132_6 (And.intro @r132_7 (And.intro @r132_8 (And.intro @r132_9 (@r132_10))))))))))
def rs95 := And.intro @r95_0 (And.intro @r95_1 (@r95_2))
def rs65 := And.intro @r65_0 (@r65_1)
def rs133 := And.intro @r133_0 (And.intro @r133_1 (And.intro @r133_2 (And.intro @r133_4 (And.intro @r133_5 (And.intro @r133_7 (And.intro @r133_6 (@r133_3)))))))
def rs158 := And.intro @r158_0 (And.intro @r158_1 (And.intro @r158_2 (And.intro @r158_3 (And.intro @r158_4 (And.intro @r158_5 (And.intro @r158_6 (And.intro @r158_7 (@r158_8))))))))
def rs134 := And.intro @r134_0 (And.intro @r134_1 (And.intro @r134_2 (And.intro @r134_3 (And.intro @r134_4 (And.intro @r134_5 (And.intro @r134_7 (And.intro @r134_6 (And.intro @r134_8 (And.intro @r134_9 (And.intro @r134_11 (And.intro @r134_12 (@r134_10))))))))))))
def rs173 := And.intro @r173_0 (And.intro @r173_1 (And.intro @r173_2 (And.intro @r173_3 (@r173_4))))
def rs162 := And.intro @r162_0 (And.intro @r162_1 (And.intro @r162_2 (And.intro @r162_3 (@r162_4))))
def rs161 := And.intro @r161_0 (@r161_1)
def rs136 := And.intro @r136_0 (And.intro @r136_1 (And.intro @r136_2 (And.intro @r136_3 (And.intro @r136_4 (And.intro @r136_5 (And.intro @r136_6 (And.intro @r136_7 (And.intro @r136_8 (And.intro @r136_9 (And.intro @r136_10 (And.intro @r136_11 (And.intro @r136_12 (And.intro @r136_14 (And.intro @r136_15 (And.intro @r136_16 (And.intro @r136_17 (@r136_13)))))))))))))))))
def rs137 := And.intro @r137_0 (And.intro @r137_1 (And.intro @r137_2 (And.intro @r137_3 (And.intro @r137_4 (And.intro @r137_5 (@r137_6))))))
def rs138 := And.intro @r138_0 (And.intro @r138_1 (And.intro @r138_2 (And.intro @r138_3 (And.intro @r138_5 (And.intro @r138_6 (And.intro @r138_7 (And.intro @r138_8 (And.intro @r138_9 (And.intro @r138_10 (And.intro @r138_11 (And.intro @r138_12 (And.intro @r138_13 (And.intro @r138_14 (And.intro @r138_16 (And.intro @r138_17 (And.intro @r138_15 (And.intro @r138_18 (And.intro @r138_19 (And.intro @r138_20 (And.intro @r138_22 (And.intro @r138_23 (And.intro @r138_21 (And.intro @r138_4 (@r138_24))))))))))))))))))))))))
def rs140 := And.intro @r140_0 (And.intro @r140_1 (And.intro @r140_2 (And.intro @r140_3 (And.intro @r140_4 (And.intro @r140_5 (And.intro @r140_6 (And.intro @r140_7 (And.intro @r140_8 (And.intro @r140_9 (And.intro @r140_10 (And.intro @r140_11 (And.intro @r140_12 (And.intro @r140_13 (And.intro @r140_14 (And.intro @r140_15 (And.intro @r140_16 (And.intro @r140_17 (And.intro @r140_18 (And.intro @r140_19 (And.intro @r140_20 (And.intro @r140_21 (@r140_22))))))))))))))))))))))
def rs139 := And.intro @r139_0 (And.intro @r139_1 (And.intro @r139_2 (And.intro @r139_3 (And.intro @r139_4 (And.intro @r139_5 (And.intro @r139_6 (And.intro @r139_7 (And.intro @r139_8 (And.intro @r139_9 (And.intro @r139_10 (@r139_11)))))))))))
def rs159 := And.intro @r159_0 (And.intro @r159_1 (@r159_2))
def rs160 := And.intro @r160_0 (And.intro @r160_1 (And.intro @r160_2 (And.intro @r160_3 (@r160_4))))
def rs135 := And.intro @r135_0 (And.intro @r135_1 (And.intro @r135_2 (And.intro @r135_3 (And.intro @r135_4 (And.intro @r135_5 (And.intro @r135_6 (And.intro @r135_8 (And.intro @r135_9 (And.intro @r135_10 (And.intro @r135_11 (@r135_7)))))))))))
def rs96 := And.intro @r96_0 (And.intro @r96_1 (And.intro @r96_2 (And.intro @r96_3 (And.intro @r96_4 (And.intro @r96_5 (And.intro @r96_6 (And.intro @r96_7 (And.intro @r96_8 (And.intro @r96_9 (And.intro @r96_10 (And.intro @r96_11 (And.intro @r96_12 (And.intro @r96_13 (And.intro @r96_14 (And.intro @r96_15 (And.intro @r96_16 (And.intro @r96_17 (And.intro @r96_18 (And.intro @r96_19 (And.intro @r96_20 (And.intro @r96_21 (And.intro @r96_22 (And.intro @r96_23 (And.intro @r96_24 (And.intro @r96_25 (And.intro @r96_26 (And.intro @r96_27 (And.intro @r96_28 (And.intro @r96_29 (And.intro @r96_30 (@r96_31)))))))))))))))))))))))))))))))
def rs64 := And.intro @r64_0 (And.intro @r64_1 (And.intro @r64_2 (And.intro @r64_3 (@r64_4))))
def rs43 := And.intro @r43_0 (And.intro @r43_1 (And.intro @r43_2 (And.intro @r43_3 (And.intro @r43_4 (And.intro @r43_5 (And.intro @r43_6 (And.intro @r43_7 (And.intro @r43_8 (@r43_9)))))))))
def rs20 := And.intro @r20_0 (And.intro @r20_1 (And.intro @r20_2 (And.intro @r20_3 (And.intro @r20_4 (And.intro @r20_5 (And.intro @r20_6 (@r20_7)))))))
def rs39 := And.intro @r39_0 (And.intro @r39_1 (And.intro @r39_2 (And.intro @r39_3 (And.intro @r39_4 (And.intro @r39_6 (And.intro @r39_7 (And.intro @r39_8 (And.intro @r39_9 (And.intro @r39_10 (And.intro @r39_11 (And.intro @r39_5 (And.intro @r39_12 (And.intro @r39_13 (@r39_14))))))))))))))
def rs21 := And.intro @r21_0 (And.intro @r21_1 (And.intro @r21_2 (And.intro @r21_3 (And.intro @r21_5 (And.intro @r21_4 (@r21_6))))))
def rs11 := And.intro @r11_0 (And.intro @r11_1 (And.intro @r11_2 (And.intro @r11_3 (And.intro @r11_4 (And.intro @r11_6 (And.intro @r11_7 (And.intro @r11_5 (@r11_8))))))))
def rs23 := And.intro @r23_0 (And.intro @r23_1 (And.intro @r23_2 (And.intro @r23_3 (And.intro @r23_5 (And.intro @r23_6 (And.intro @r23_8 (And.intro @r23_9 (And.intro @r23_7 (And.intro @r23_4 (@r23_10))))))))))
def rs6 := And.intro @r6_0 (And.intro @r6_1 (And.intro @r6_2 (@r6_3)))
theorem u29 : Tryz.prog.underlying 29 = some (.slice 43) := Tryz.underlying29
theorem z43 : szOf Tryz.prog 43 = some 2 := by kernel_rfl
theorem a43 : aggT Tryz.prog 43 = some true := by kernel_rfl
theorem a3 : aggT Tryz.prog 3 = some false := by kernel_rfl
theorem b43 : bytesOf Tryz.prog 43 = some 16 := by kernel_rfl
theorem zc43 : zeroCs Tryz.prog 43 = some [.v (.int .i64 (0 : Int)), .v (.int .i64 (0 : Int))] := by kernel_rfl
theorem a29 : aggT Tryz.prog 29 = some false := by kernel_rfl
theorem z121 : szOf Tryz.prog 121 = some 3 := by kernel_rfl
theorem a121 : aggT Tryz.prog 121 = some true := by kernel_rfl
theorem a129 : aggT Tryz.prog 129 = some true := by kernel_rfl
theorem z129 : szOf Tryz.prog 129 = some 2 := by kernel_rfl
theorem a85 : aggT Tryz.prog 85 = some false := by kernel_rfl
theorem a55 : aggT Tryz.prog 55 = some false := by kernel_rfl
theorem z3 : szOf Tryz.prog 3 = some 1 := by kernel_rfl
theorem z186 : szOf Tryz.prog 186 = some 1 := by kernel_rfl
theorem a186 : aggT Tryz.prog 186 = some false := by kernel_rfl
theorem u50 : Tryz.prog.underlying 50 = some (.slice 3) := Tryz.underlying50
theorem b3 : bytesOf Tryz.prog 3 = some 8 := by kernel_rfl
theorem zc3 : zeroCs Tryz.prog 3 = some [.v (.int .i64 (0 : Int))] := by kernel_rfl
theorem idxL_29 {full : Bool} {l : List Pair} {i : Int} (h0 : 0 ≤ i) (h1 : i < (l.length : Int)) : idxD Tryz.prog 29 (.p (.lst full l.length (encL en_Pair l))) (.p (.v (.int .i64 i))) = some (.p (.iptr (encL en_Pair l) (ato i 2))) := idx_lst u29 z43 (by decide) en_Pair_len h0 h1
theorem lk_frz_43 {l : List Pair} {i : Int} {v : Pair} (h : rd l i = some v) : lkOb (some (.frz (encL en_Pair l))) (ato i 2) 2 = some (.p (.agg [.v (.int .i64 v.Old), .v (.int .i64 v.New)])) := (lkOb_frz en_Pair_len h).trans (by rw [en_Pair_eq])
theorem al_43 {H : List Ob} : allocD Tryz.prog 43 H = some (.ptr H.length 0, some (H ++ [.var [iv (0 : Int), iv (0 : Int)]])) := by kernel_rfl
theorem sa_2_0_2 {H : List Ob} {id : Nat} {c0 c1 : Dv} {d0 d1 : Pv} : staOb H id 0 2 [d0, d1] (some (.var [c0, c1])) = some (H.set id (.var [(.p d0), (.p d1)])) := by simp [staOb, setAt]
theorem faP_43_1 {id o : Nat} : fieldAddrD Tryz.prog 43 (.ptr id o) 1 = some (.ptr id (o + 1)) := by kernel_rfl
theorem varld_2_0_1 {c0 c1 : Dv} : ldOb (some (.var [c0, c1])) (0 + 1) = some c1 := rfl
theorem faP_43_0 {id o : Nat} : fieldAddrD Tryz.prog 43 (.ptr id o) 0 = some (.ptr id (o + 0)) := by kernel_rfl
theorem varld_2_0_0 {c0 c1 : Dv} : ldOb (some (.var [c0, c1])) (0 + 0) = some c0 := rfl
theorem bu_43_0_1 {p0_0 : Int} {p1_0 : Int} : buildD Tryz.prog 43 [(0, .p (.v (.int .i64 p0_0))), (1, .p (.v (.int .i64 p1_0)))] = some (.p (.agg [.v (.int .i64 p0_0), .v (.int .i64 p1_0)])) := by kernel_rfl
theorem bs_29_1 {p0_0 : Int} {p0_1 : Int} {H : List Ob} : bsD Tryz.prog H 29 1 [(0, .p (.agg [.v (.int .i64 p0_0), .v (.int .i64 p0_1)]))] = some (.p (.lst true 1 [.v (.int .i64 p0_0), .v (.int .i64 p0_1)]), none) := by kernel_rfl
theorem ap_29_29 {H : List Ob} {id off esz n m : Nat} {full : Bool} {new : List Pv} : appendD Tryz.prog H #[29, 29] (.ref id off n esz) (.p (.lst full m new)) = apOb H id off n m esz 2 16 new H[id]? := appendD_ap u29 u29 z43 b43 zc43 ⟨by decide, by decide, rfl⟩
theorem varld_1_0 {c0 : Dv} : ldOb (some (.var [c0])) 0 = some c0 := rfl
theorem al_121 {H : List Ob} : allocD Tryz.prog 121 H = some (.ptr H.length 0, some (H ++ [.var [.p (.v (.pointer none)), .p (.v (.pointer none)), .p (.v (.int .u64 (0 : Int)))]])) := by kernel_rfl
theorem sg_3_0_pqp {H : List Ob} {id : Nat} {c0 c1 c2 : Dv} {d0 d2 : Pv} {i1 o1 : Nat} : stgOb H id 0 3 [.p d0, .ptr i1 o1, .p d2] (some (.var [c0, c1, c2])) = some (H.set id (.var [.p d0, .ptr i1 o1, .p d2])) := by simp [stgOb, setAt]
theorem varlg_pqp {c0 : Pv} {c2 : Pv} {i1 o1 : Nat} : lkOb (some (.var [.p c0, .ptr i1 o1, .p c2])) 0 3 = some (.agg [.p c0, .ptr i1 o1, .p c2]) := rfl
theorem cv_3_126 {x : Int} : convD Tryz.prog 3 126 (.p (.v (.int .i64 x))) = some (.p (.v (.int .u64 (IntKind.wrap .u64 x)))) := by kernel_rfl
theorem cv_137_5 {x : Int} : convD Tryz.prog 137 5 (.p (.v (.int .u64 x))) = some (.p (.v (.int .u8 (IntKind.wrap .u8 x)))) := by kernel_rfl
theorem cv_5_3 {x : Int} : convD Tryz.prog 5 3 (.p (.v (.int .u8 x))) = some (.p (.v (.int .i64 (IntKind.wrap .i64 x)))) := by kernel_rfl
theorem bu_129_ff {f0 : Fn} {l0 : List Dv} {f1 : Fn} {l1 : List Dv} : buildD Tryz.prog 129 [(0, .fn f0 l0), (1, .fn f1 l1)] = some (.agg [.fn f0 l0, .fn f1 l1]) := by kernel_rfl
theorem varlg_ff {f0 : Fn} {l0 : List Dv} {f1 : Fn} {l1 : List Dv} : lkOb (some (.var [.fn f0 l0, .fn f1 l1])) 0 2 = some (.agg [.fn f0 l0, .fn f1 l1]) := rfl
theorem faP_129_0 {id o : Nat} : fieldAddrD Tryz.prog 129 (.ptr id o) 0 = some (.ptr id (o + 0)) := by kernel_rfl
theorem idxR_29 {id m : Nat} {i : Int} (h0 : 0 ≤ i) (h1 : i < (m : Int)) : idxD Tryz.prog 29 (.ref id 0 m 2) (.p (.v (.int .i64 i))) = some (.ptr id (ato i 2)) := idx_ref u29 z43 (by decide) h0 h1
theorem ce_43__0 {l : List Pair} {i : Int} {v : Pair} (h : rd l i = some v) : (encL en_Pair l)[ato i 2 + 0]? = some (.v (.int .i64 v.Old)) := (encL_cell en_Pair_len h (k := 0) (by decide)).trans (by rw [en_Pair_eq]; rfl)
theorem ce_43__1 {l : List Pair} {i : Int} {v : Pair} (h : rd l i = some v) : (encL en_Pair l)[ato i 2 + 1]? = some (.v (.int .i64 v.New)) := (encL_cell en_Pair_len h (k := 1) (by decide)).trans (by rw [en_Pair_eq]; rfl)
theorem faP_129_1 {id o : Nat} : fieldAddrD Tryz.prog 129 (.ptr id o) 1 = some (.ptr id (o + 1)) := by kernel_rfl
theorem swap130_callg {x0 x1 : Int} {o0 : List Pair} {r : List Pair} (h : swapL x0 x1 o0 = some r) : callW Tryz.prog A0 130 [iv x0, iv x1, .ref 0 0 o0.length 2, .p (.v (typeHandle Tryz.prog 43))] [.arr (encL en_Pair o0)] = some (.p (.tup []), [.arr (encL en_Pair r)]) := callW_swap rfl (by kernel_rfl) z43 a43 en_Pair_len rfl h
theorem al_3 {H : List Ob} : allocD Tryz.prog 3 H = some (.ptr H.length 0, some (H ++ [.var [iv (0 : Int)]])) := by kernel_rfl
theorem sv_1_0_1 {H : List Ob} {id : Nat} {c0 : Dv} {d0 : Dv} : stdOb H id 0 d0 (some (.var [c0])) = some (H.set id (.var [d0])) := rfl
theorem ex_2_0 {c0 c1 : Pv} : extractD (.p (.tup [c0, c1])) 0 = some (.p c0) := rfl
theorem ex_2_1 {c0 c1 : Pv} : extractD (.p (.tup [c0, c1])) 1 = some (.p c1) := rfl
theorem cv_3_186 {x : Int} : convD Tryz.prog 3 186 (.p (.v (.int .i64 x))) = some (.p (.v (.int .u64 (IntKind.wrap .u64 x)))) := by kernel_rfl
theorem al_186 {H : List Ob} : allocD Tryz.prog 186 H = some (.ptr H.length 0, some (H ++ [.var [.p (.v (.int .u64 (0 : Int)))]])) := by kernel_rfl
theorem cv_126_3 {x : Int} : convD Tryz.prog 126 3 (.p (.v (.int .u64 x))) = some (.p (.v (.int .i64 (IntKind.wrap .i64 x)))) := by kernel_rfl
theorem lk_arr_43 {l : List Pair} {i : Int} {v : Pair} (h : rd l i = some v) : lkOb (some (.arr (encL en_Pair l))) (ato i 2) 2 = some (.p (.agg [.v (.int .i64 v.Old), .v (.int .i64 v.New)])) := (lkOb_arr en_Pair_len h).trans (by rw [en_Pair_eq])
theorem varlv_2_0_2 {c0 c1 : Pv} : lkOb (some (.var [.p c0, .p c1])) 0 2 = some (.p (.agg [c0, c1])) := rfl
theorem eqA_43 (a0 b0 : Int)(a1 b1 : Int) : pureRun Tryz.prog (Op.equalIn 10000 43 (.agg #[.int .i64 a0, .int .i64 a1]) (.agg #[.int .i64 b0, .int .i64 b1])) = some (decide (a0 = b0 ∧ a1 = b1)) := by
 refine (pr_equal_struct (d := 9999) Tryz.underlying43 (by kernel_rfl)).trans ?_
 refine (pr_cons (by decide) rfl rfl (pr_equal_int Tryz.underlying3) (pr_cons (by decide) rfl rfl (pr_equal_int Tryz.underlying3) pr_nil)).trans ?_
 simp only [Bool.decide_and, Bool.and_true]
theorem neq_43 {a0 b0 : Int}{a1 b1 : Int} {xo yo : Operand} : binD Tryz.prog .neq 43 xo yo (.p (.agg [.v (.int .i64 a0), .v (.int .i64 a1)])) (.p (.agg [.v (.int .i64 b0), .v (.int .i64 b1)])) = some (.p (.v (.bool (!decide (a0 = b0 ∧ a1 = b1))))) := binD_neq_agg rfl rfl (by kernel_rfl) (eqA_43 a0 b0 a1 b1)
theorem bs_29_0 {H : List Ob} : bsD Tryz.prog H 29 0 [] = some (.p (.lst true 0 []), none) := by kernel_rfl
theorem faI_43_1 {cs : List Pv} {o : Nat} : fieldAddrD Tryz.prog 43 (.p (.iptr cs o)) 1 = some (.p (.iptr cs (o + 1))) := by kernel_rfl
theorem faI_43_0 {cs : List Pv} {o : Nat} : fieldAddrD Tryz.prog 43 (.p (.iptr cs o)) 0 = some (.p (.iptr cs (o + 0))) := by kernel_rfl
theorem eql_43 {a0 b0 : Int}{a1 b1 : Int} {xo yo : Operand} : binD Tryz.prog .eql 43 xo yo (.p (.agg [.v (.int .i64 a0), .v (.int .i64 a1)])) (.p (.agg [.v (.int .i64 b0), .v (.int .i64 b1)])) = some (.p (.v (.bool (decide (a0 = b0 ∧ a1 = b1))))) := binD_eql_agg rfl rfl (by kernel_rfl) (eqA_43 a0 b0 a1 b1)
theorem idxR_50 {id m : Nat} {i : Int} (h0 : 0 ≤ i) (h1 : i < (m : Int)) : idxD Tryz.prog 50 (.ref id 0 m 1) (.p (.v (.int .i64 i))) = some (.ptr id (ato i 1)) := idx_ref u50 z3 (by decide) h0 h1
end Xr

