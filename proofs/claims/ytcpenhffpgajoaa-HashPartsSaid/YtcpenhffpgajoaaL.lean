/- A part of the proof: L. No conditions of its own. -/
import Derived.Test.YtcpenhffpgajoaaProg
import Derived.KernelRfl
import Derived.Test.YtcpenhffpgajoaaT
namespace Xr
open Go Go.Ev Go.Proofs
set_option linter.unusedSimpArgs false
set_option linter.unusedVariables false
set_option linter.defProp false
set_option maxRecDepth 20000
def bodyOf (f : Func) : Code := f.body.getD .skip
def loopsOf : Code → List Code
 | .seq a b => loopsOf a ++ loopsOf b
 | .cond _ a b => loopsOf a ++ loopsOf b
 | .block _ b => loopsOf b
 | .loop b => b :: loopsOf b
 | _ => []
noncomputable instance gl : Gl := ⟨fun g => none, fun t => ([62] : List Nat).contains t⟩
theorem im_ (t : TypeId) (h : ([62] : List Nat).contains t = false := by kernel_rfl) : Gl.isMap t = false := h
def dynOf : Nat → List (Nat × List (Nat × Nat))
 | 20 => [(17, [(2, 5)])]
 | _ => []
def lpOf : Nat → List (Nat × List (Nat × Nat))
 | 17 => [(18, [(4, 13)])]
 | 20 => [(1, [(1, 2)])]
 | _ => []
def preOf : Nat → List (Nat × List Ghost)
 | 48 => [(5, [.keep [2, 3, 7, 8]]), (10, [.keep [2, 3, 7, 8]])]
 | 31 => [(5, [.keep [2, 5, 6]]), (10, [.keep [2, 5, 6]]), (11, [.keep [2, 5, 7]]), (16, [.keep [2, 5, 7]])]
 | 46 => [(0, [.own 0 4]), (3, [.keep [0, 3, 5]]), (6, [.keep [0, 3, 5]])]
 | 38 => [(0, [.own 0 4]), (3, [.weak [12], .keep [0, 12, 13, 14]]), (7, [.keep [0, 12, 13, 14]])]
 | 50 => [(3, [.keep [0, 3, 6, 7]]), (7, [.keep [0, 3, 6, 7]])]
 | 49 => [(3, [.keep [5, 11, 12]]), (6, [.keep [5, 7, 8, 11, 12]]), (9, [.keep [5, 7, 8, 11, 12]]), (10, [.keep [5, 11, 12]])]
 | 33 => [(0, [.own 0 1]), (5, [.weak [27], .keep [0, 2, 4, 8, 9, 27, 28, 29]]), (11, [.keep [0, 2, 4, 8, 9, 27, 28, 29]])]
 | 39 => [(4, [.keep [2, 3, 29, 30]]), (9, [.keep [2, 3, 29, 30]])]
 | 24 => [(4, [.keep [2, 3, 5]]), (8, [.keep [2, 3, 5]])]
 | 52 => [(3, [.keep [0, 3, 4]]), (6, [.keep [0, 3, 4]])]
 | 62 => [(3, [.keep [1, 5, 6]]), (6, [.keep [1, 5, 6]])]
 | 8 => [(7, [.own 5 1, .weak [3, 4], .keep [3, 4, 5, 6]]), (10, [.keep [3, 4, 5, 6]]), (11, [.weak [3, 4], .keep [3, 4, 5, 7]]), (16, [.weak [3, 4], .keep [3, 4, 5, 7, 8]]), (22, [.keep [3, 4, 5, 7, 8]]), (24, [.keep [3, 4, 5, 7]]), (25, [.weak [3], .keep [3, 5, 10]]), (26, [.keep [3, 5, 10, 11]]), (28, [.weak [3], .keep [3, 5, 10, 11]]), (33, [.keep [3, 5, 10]])]
 | 17 => [(19, [.vary 5])]
 | _ => []
def A0 : Ann := { okf := fun _ => true, keeps := fun f => [33, 38, 46, 53].contains f, muts := fun f => [33, 38, 41, 43, 46, 53, 55, 56, 57, 58, 60, 66, 67, 68, 69, 70, 71, 72, 73, 74, 77, 78, 80, 81, 82, 83, 84, 85, 87, 88, 89, 90, 91].contains f, ros := fun f => [].contains f, loud := fun f r => ([(20, 1), (20, 1)] : List (Nat × Nat)).contains (f, r), pre := fun f r => ((preOf f).lookup r).getD [], clone := fun f => none, dyn := fun f q => (dynOf f).lookup q, lp := fun f q => (lpOf f).lookup q, outer := fun f => if f == 55 then some (.valueOf) else if f == 58 then some (.valLen) else if f == 56 then some (.swapper [(40, 64, 65, 68, 3), (36, 64, 65, 72, 43)]) else if f == 66 then some (.swap) else if f == 67 then some (.swap) else if f == 68 then some (.swap) else if f == 69 then some (.swap) else if f == 70 then some (.swap) else if f == 71 then some (.swap) else if f == 72 then some (.swap) else none }
theorem clones : CloneOk Try.prog A0 := fun f sz h => by cases h
theorem swapper_is : ExtIs Try.prog (.swapper [(40, 64, 65, 68, 3), (36, 64, 65, 72, 43)]) (Extern.ReflectliteSwapper.swapper "internal/reflectlite" (Extern.ReflectliteValue.valueError "Swapper")) := by
 intro t f0 f1 f2 h hl w s n cap
 by_cases ht : t = 40
 ·subst ht
  obtain ⟨rfl, rfl, rfl, rfl⟩ : f0 = 64 ∧ f1 = 65 ∧ f2 = 68 ∧ h = 3 := by
   have := Option.some.inj hl
   simp only [Prod.mk.injEq] at this
   exact ⟨this.1.symm, this.2.1.symm, this.2.2.1.symm, this.2.2.2.symm⟩
  match n with
  | 0 => show Sem.run _ _ _ = _; kernel_rfl
  | 1 => show Sem.run _ _ _ = _; kernel_rfl
  | n + 2 => show Sem.run _ _ _ = _; kernel_rfl
 ·by_cases ht2 : t = 36
  ·subst ht2
   obtain ⟨rfl, rfl, rfl, rfl⟩ : f0 = 64 ∧ f1 = 65 ∧ f2 = 72 ∧ h = 43 := by
    have := Option.some.inj hl
    simp only [Prod.mk.injEq] at this
    exact ⟨this.1.symm, this.2.1.symm, this.2.2.1.symm, this.2.2.2.symm⟩
   match n with
   | 0 => show Sem.run _ _ _ = _; kernel_rfl
   | 1 => show Sem.run _ _ _ = _; kernel_rfl
   | n + 2 => show Sem.run _ _ _ = _; kernel_rfl
  ·simp [List.lookup, show (t == 40) = false from by simpa using ht, show (t == 36) = false from by simpa using ht2] at hl
theorem exts : ExtOk Try.prog A0 := by
 intro f k h
 simp only [A0] at h
 split at h
 ·rename_i hf
  obtain rfl := Option.some.inj h
  obtain rfl : f = 55 := by simpa using hf
  exact ⟨Try.f55, _, Try.func55, by kernel_rfl, by kernel_rfl, by kernel_rfl, (by kernel_rfl : Extern.find Try.f55 = some (fun args => Extern.ReflectliteValue.unpack (args.getD 0 (.tuple #[])))), rfl⟩
 split at h
 ·rename_i hf
  obtain rfl := Option.some.inj h
  obtain rfl : f = 58 := by simpa using hf
  exact ⟨Try.f58, _, Try.func58, by kernel_rfl, by kernel_rfl, by kernel_rfl, (by kernel_rfl : Extern.find Try.f58 = some (Extern.ReflectliteValue.method (Extern.ReflectliteValue.valueError "reflectlite.Value.Len" 0) Extern.ReflectliteValue.len)), rfl⟩
 split at h
 ·rename_i hf
  obtain rfl := Option.some.inj h
  obtain rfl : f = 56 := by simpa using hf
  exact ⟨Try.f56, _, Try.func56, by kernel_rfl, by kernel_rfl, by kernel_rfl, (by kernel_rfl : Extern.find Try.f56 = some (Extern.ReflectliteSwapper.swapper "internal/reflectlite" (Extern.ReflectliteValue.valueError "Swapper"))), swapper_is⟩
 split at h
 ·rename_i hf
  obtain rfl := Option.some.inj h
  obtain rfl : f = 66 := by simpa using hf
  exact ⟨Try.f66, _, Try.func66, by kernel_rfl, by kernel_rfl, by kernel_rfl, (by kernel_rfl : Extern.find Try.f66 = some (Extern.ReflectliteSwapper.swap true)), ⟨true, rfl⟩⟩
 split at h
 ·rename_i hf
  obtain rfl := Option.some.inj h
  obtain rfl : f = 67 := by simpa using hf
  exact ⟨Try.f67, _, Try.func67, by kernel_rfl, by kernel_rfl, by kernel_rfl, (by kernel_rfl : Extern.find Try.f67 = some (Extern.ReflectliteSwapper.swap true)), ⟨true, rfl⟩⟩
 split at h
 ·rename_i hf
  obtain rfl := Option.some.inj h
  obtain rfl : f = 68 := by simpa using hf
  exact ⟨Try.f68, _, Try.func68, by kernel_rfl, by kernel_rfl, by kernel_rfl, (by kernel_rfl : Extern.find Try.f68 = some (Extern.ReflectliteSwapper.swap true)), ⟨true, rfl⟩⟩
 split at h
 ·rename_i hf
  obtain rfl := Option.some.inj h
  obtain rfl : f = 69 := by simpa using hf
  exact ⟨Try.f69, _, Try.func69, by kernel_rfl, by kernel_rfl, by kernel_rfl, (by kernel_rfl : Extern.find Try.f69 = some (Extern.ReflectliteSwapper.swap true)), ⟨true, rfl⟩⟩
 split at h
 ·rename_i hf
  obtain rfl := Option.some.inj h
  obtain rfl : f = 70 := by simpa using hf
  exact ⟨Try.f70, _, Try.func70, by kernel_rfl, by kernel_rfl, by kernel_rfl, (by kernel_rfl : Extern.find Try.f70 = some (Extern.ReflectliteSwapper.swap true)), ⟨true, rfl⟩⟩
 split at h
 ·rename_i hf
  obtain rfl := Option.some.inj h
  obtain rfl : f = 71 := by simpa using hf
  exact ⟨Try.f71, _, Try.func71, by kernel_rfl, by kernel_rfl, by kernel_rfl, (by kernel_rfl : Extern.find Try.f71 = some (Extern.ReflectliteSwapper.swap true)), ⟨true, rfl⟩⟩
 split at h
 ·rename_i hf
  obtain rfl := Option.some.inj h
  obtain rfl : f = 72 := by simpa using hf
  exact ⟨Try.f72, _, Try.func72, by kernel_rfl, by kernel_rfl, by kernel_rfl, (by kernel_rfl : Extern.find Try.f72 = some (Extern.ReflectliteSwapper.swap false)), ⟨false, rfl⟩⟩
 cases h
abbrev RG (f q : Nat) (g : List Ghost) (o : Array Oper) (d : Bool) (s : St) : Prop := evW Try.prog A0 f (.region q o d) s = regW Try.prog A0 (d && true) o o.toList (ghostsD g s)
abbrev RZq (f q : Nat) (g : List Ghost) (y : List (Nat × Nat)) (o : Array Oper) (s : St) : Prop := evW Try.prog A0 f (.region q o true) s = regZ Try.prog A0 (true && true) o y o.toList (ghostsD g s)
theorem r48_0 {o d s} : RG 48 0 [] o d s := w_region
theorem r48_1 {o d s} : RG 48 1 [] o d s := w_region
theorem r48_2 {o d s} : RG 48 2 [] o d s := w_region
theorem r48_3 {o d s} : RG 48 3 [] o d s := w_region
theorem r48_4 {o d s} : RG 48 4 [] o d s := w_region
theorem r48_5 {o d s} : RG 48 5 [.keep [2, 3, 7, 8]] o d s := w_region
theorem r48_7 {o d s} : RG 48 7 [] o d s := w_region
theorem r48_8 {o d s} : RG 48 8 [] o d s := w_region
theorem r48_9 {o d s} : RG 48 9 [] o d s := w_region
theorem r48_6 {o d s} : RG 48 6 [] o d s := w_region
theorem r48_10 {o d s} : RG 48 10 [.keep [2, 3, 7, 8]] o d s := w_region
theorem r30_0 {o d s} : RG 30 0 [] o d s := w_region
theorem r30_1 {o d s} : RG 30 1 [] o d s := w_region
theorem r31_0 {o d s} : RG 31 0 [] o d s := w_region
theorem r31_1 {o d s} : RG 31 1 [] o d s := w_region
theorem r31_2 {o d s} : RG 31 2 [] o d s := w_region
theorem r31_3 {o d s} : RG 31 3 [] o d s := w_region
theorem r31_4 {o d s} : RG 31 4 [] o d s := w_region
theorem r31_5 {o d s} : RG 31 5 [.keep [2, 5, 6]] o d s := w_region
theorem r31_7 {o d s} : RG 31 7 [] o d s := w_region
theorem r31_8 {o d s} : RG 31 8 [] o d s := w_region
theorem r31_9 {o d s} : RG 31 9 [] o d s := w_region
theorem r31_6 {o d s} : RG 31 6 [] o d s := w_region
theorem r31_10 {o d s} : RG 31 10 [.keep [2, 5, 6]] o d s := w_region
theorem r31_11 {o d s} : RG 31 11 [.keep [2, 5, 7]] o d s := w_region
theorem r31_13 {o d s} : RG 31 13 [] o d s := w_region
theorem r31_14 {o d s} : RG 31 14 [] o d s := w_region
theorem r31_15 {o d s} : RG 31 15 [] o d s := w_region
theorem r31_12 {o d s} : RG 31 12 [] o d s := w_region
theorem r31_16 {o d s} : RG 31 16 [.keep [2, 5, 7]] o d s := w_region
theorem r9_0 {o d s} : RG 9 0 [] o d s := w_region
theorem r9_1 {o d s} : RG 9 1 [] o d s := w_region
theorem r46_0 {o d s} : RG 46 0 [.own 0 4] o d s := w_region
theorem r46_1 {o d s} : RG 46 1 [] o d s := w_region
theorem r46_2 {o d s} : RG 46 2 [] o d s := w_region
theorem r46_3 {o d s} : RG 46 3 [.keep [0, 3, 5]] o d s := w_region
theorem r46_5 {o d s} : RG 46 5 [] o d s := w_region
theorem r46_4 {o d s} : RG 46 4 [] o d s := w_region
theorem r46_6 {o d s} : RG 46 6 [.keep [0, 3, 5]] o d s := w_region
theorem r22_0 {o d s} : RG 22 0 [] o d s := w_region
theorem r22_1 {o d s} : RG 22 1 [] o d s := w_region
theorem r22_2 {o d s} : RG 22 2 [] o d s := w_region
theorem r38_0 {o d s} : RG 38 0 [.own 0 4] o d s := w_region
theorem r38_1 {o d s} : RG 38 1 [] o d s := w_region
theorem r38_2 {o d s} : RG 38 2 [] o d s := w_region
theorem r38_3 {o d s} : RG 38 3 [.weak [12], .keep [0, 12, 13, 14]] o d s := w_region
theorem r38_4 {o d s} : RG 38 4 [] o d s := w_region
theorem r38_5 {o d s} : RG 38 5 [] o d s := w_region
theorem r38_6 {o d s} : RG 38 6 [] o d s := w_region
theorem r38_7 {o d s} : RG 38 7 [.keep [0, 12, 13, 14]] o d s := w_region
theorem r34_0 {o d s} : RG 34 0 [] o d s := w_region
theorem r34_1 {o d s} : RG 34 1 [] o d s := w_region
theorem r61_0 {o d s} : RG 61 0 [] o d s := w_region
theorem r61_1 {o d s} : RG 61 1 [] o d s := w_region
theorem r50_0 {o d s} : RG 50 0 [] o d s := w_region
theorem r50_1 {o d s} : RG 50 1 [] o d s := w_region
theorem r50_2 {o d s} : RG 50 2 [] o d s := w_region
theorem r50_3 {o d s} : RG 50 3 [.keep [0, 3, 6, 7]] o d s := w_region
theorem r50_4 {o d s} : RG 50 4 [] o d s := w_region
theorem r50_5 {o d s} : RG 50 5 [] o d s := w_region
theorem r50_6 {o d s} : RG 50 6 [] o d s := w_region
theorem r50_7 {o d s} : RG 50 7 [.keep [0, 3, 6, 7]] o d s := w_region
theorem r49_0 {o d s} : RG 49 0 [] o d s := w_region
theorem r49_1 {o d s} : RG 49 1 [] o d s := w_region
theorem r49_2 {o d s} : RG 49 2 [] o d s := w_region
theorem r49_3 {o d s} : RG 49 3 [.keep [5, 11, 12]] o d s := w_region
theorem r49_4 {o d s} : RG 49 4 [] o d s := w_region
theorem r49_5 {o d s} : RG 49 5 [] o d s := w_region
theorem r49_6 {o d s} : RG 49 6 [.keep [5, 7, 8, 11, 12]] o d s := w_region
theorem r49_8 {o d s} : RG 49 8 [] o d s := w_region
theorem r49_7 {o d s} : RG 49 7 [] o d s := w_region
theorem r49_9 {o d s} : RG 49 9 [.keep [5, 7, 8, 11, 12]] o d s := w_region
theorem r49_10 {o d s} : RG 49 10 [.keep [5, 11, 12]] o d s := w_region
theorem r33_0 {o d s} : RG 33 0 [.own 0 1] o d s := w_region
theorem r33_1 {o d s} : RG 33 1 [] o d s := w_region
theorem r33_2 {o d s} : RG 33 2 [] o d s := w_region
theorem r33_3 {o d s} : RG 33 3 [] o d s := w_region
theorem r33_4 {o d s} : RG 33 4 [] o d s := w_region
theorem r33_5 {o d s} : RG 33 5 [.weak [27], .keep [0, 2, 4, 8, 9, 27, 28, 29]] o d s := w_region
theorem r33_6 {o d s} : RG 33 6 [] o d s := w_region
theorem r33_7 {o d s} : RG 33 7 [] o d s := w_region
theorem r33_8 {o d s} : RG 33 8 [] o d s := w_region
theorem r33_9 {o d s} : RG 33 9 [] o d s := w_region
theorem r33_10 {o d s} : RG 33 10 [] o d s := w_region
theorem r33_11 {o d s} : RG 33 11 [.keep [0, 2, 4, 8, 9, 27, 28, 29]] o d s := w_region
theorem r33_12 {o d s} : RG 33 12 [] o d s := w_region
theorem r33_13 {o d s} : RG 33 13 [] o d s := w_region
theorem r12_0 {o d s} : RG 12 0 [] o d s := w_region
theorem r12_1 {o d s} : RG 12 1 [] o d s := w_region
theorem r12_2 {o d s} : RG 12 2 [] o d s := w_region
theorem r39_0 {o d s} : RG 39 0 [] o d s := w_region
theorem r39_1 {o d s} : RG 39 1 [] o d s := w_region
theorem r39_2 {o d s} : RG 39 2 [] o d s := w_region
theorem r39_3 {o d s} : RG 39 3 [] o d s := w_region
theorem r39_4 {o d s} : RG 39 4 [.keep [2, 3, 29, 30]] o d s := w_region
theorem r39_5 {o d s} : RG 39 5 [] o d s := w_region
theorem r39_6 {o d s} : RG 39 6 [] o d s := w_region
theorem r39_7 {o d s} : RG 39 7 [] o d s := w_region
theorem r39_8 {o d s} : RG 39 8 [] o d s := w_region
theorem r39_9 {o d s} : RG 39 9 [.keep [2, 3, 29, 30]] o d s := w_region
theorem r24_0 {o d s} : RG 24 0 [] o d s := w_region
theorem r24_1 {o d s} : RG 24 1 [] o d s := w_region
theorem r24_2 {o d s} : RG 24 2 [] o d s := w_region
theorem r24_3 {o d s} : RG 24 3 [] o d s := w_region
theorem r24_4 {o d s} : RG 24 4 [.keep [2, 3, 5]] o d s := w_region
theorem r24_6 {o d s} : RG 24 6 [] o d s := w_region
theorem r24_7 {o d s} : RG 24 7 [] o d s := w_region
theorem r24_5 {o d s} : RG 24 5 [] o d s := w_region
theorem r24_8 {o d s} : RG 24 8 [.keep [2, 3, 5]] o d s := w_region
theorem r63_0 {o d s} : RG 63 0 [] o d s := w_region
theorem r63_1 {o d s} : RG 63 1 [] o d s := w_region
theorem r52_0 {o d s} : RG 52 0 [] o d s := w_region
theorem r52_1 {o d s} : RG 52 1 [] o d s := w_region
theorem r52_2 {o d s} : RG 52 2 [] o d s := w_region
theorem r52_3 {o d s} : RG 52 3 [.keep [0, 3, 4]] o d s := w_region
theorem r52_5 {o d s} : RG 52 5 [] o d s := w_region
theorem r52_4 {o d s} : RG 52 4 [] o d s := w_region
theorem r52_6 {o d s} : RG 52 6 [.keep [0, 3, 4]] o d s := w_region
theorem r62_0 {o d s} : RG 62 0 [] o d s := w_region
theorem r62_1 {o d s} : RG 62 1 [] o d s := w_region
theorem r62_2 {o d s} : RG 62 2 [] o d s := w_region
theorem r62_3 {o d s} : RG 62 3 [.keep [1, 5, 6]] o d s := w_region
theorem r62_5 {o d s} : RG 62 5 [] o d s := w_region
theorem r62_4 {o d s} : RG 62 4 [] o d s := w_region
theorem r62_6 {o d s} : RG 62 6 [.keep [1, 5, 6]] o d s := w_region
theorem r51_0 {o d s} : RG 51 0 [] o d s := w_region
theorem r51_1 {o d s} : RG 51 1 [] o d s := w_region
theorem r8_0 {o d s} : RG 8 0 [] o d s := w_region
theorem r8_1 {o d s} : RG 8 1 [] o d s := w_region
theorem r8_2 {o d s} : RG 8 2 [] o d s := w_region
theorem r8_3 {o d s} : RG 8 3 [] o d s := w_region
theorem r8_4 {o d s} : RG 8 4 [] o d s := w_region
theorem r8_5 {o d s} : RG 8 5 [] o d s := w_region
theorem r8_6 {o d s} : RG 8 6 [] o d s := w_region
theorem r8_7 {o d s} : RG 8 7 [.own 5 1, .weak [3, 4], .keep [3, 4, 5, 6]] o d s := w_region
theorem r8_9 {o d s} : RG 8 9 [] o d s := w_region
theorem r8_8 {o d s} : RG 8 8 [] o d s := w_region
theorem r8_10 {o d s} : RG 8 10 [.keep [3, 4, 5, 6]] o d s := w_region
theorem r8_11 {o d s} : RG 8 11 [.weak [3, 4], .keep [3, 4, 5, 7]] o d s := w_region
theorem r8_13 {o d s} : RG 8 13 [] o d s := w_region
theorem r8_14 {o d s} : RG 8 14 [] o d s := w_region
theorem r8_15 {o d s} : RG 8 15 [] o d s := w_region
theorem r8_16 {o d s} : RG 8 16 [.weak [3, 4], .keep [3, 4, 5, 7, 8]] o d s := w_region
theorem r8_18 {o d s} : RG 8 18 [] o d s := w_region
theorem r8_19 {o d s} : RG 8 19 [] o d s := w_region
theorem r8_20 {o d s} : RG 8 20 [] o d s := w_region
theorem r8_21 {o d s} : RG 8 21 [] o d s := w_region
theorem r8_17 {o d s} : RG 8 17 [] o d s := w_region
theorem r8_22 {o d s} : RG 8 22 [.keep [3, 4, 5, 7, 8]] o d s := w_region
theorem r8_23 {o d s} : RG 8 23 [] o d s := w_region
theorem r8_12 {o d s} : RG 8 12 [] o d s := w_region
theorem r8_24 {o d s} : RG 8 24 [.keep [3, 4, 5, 7]] o d s := w_region
theorem r8_25 {o d s} : RG 8 25 [.weak [3], .keep [3, 5, 10]] o d s := w_region
theorem r8_27 {o d s} : RG 8 27 [] o d s := w_region
theorem r8_28 {o d s} : RG 8 28 [.weak [3], .keep [3, 5, 10, 11]] o d s := w_region
theorem r8_30 {o d s} : RG 8 30 [] o d s := w_region
theorem r8_31 {o d s} : RG 8 31 [] o d s := w_region
theorem r8_32 {o d s} : RG 8 32 [] o d s := w_region
theorem r8_29 {o d s} : RG 8 29 [] o d s := w_region
theorem r8_26 {o d s} : RG 8 26 [.keep [3, 5, 10, 11]] o d s := w_region
theorem r8_33 {o d s} : RG 8 33 [.keep [3, 5, 10]] o d s := w_region
def bs := And.intro @w_seq (And.intro @ghosts_nil (And.intro @regW_some (And.intro @regY_some (And.intro @doneY_some (And.intro @regZ_some (And.intro @doneZ_some (And.intro @ops_move (And.intro @ops_assign (And.intro @ops_bin (And.intro @ops_load (And.intro @ops_indexAddr (And.intro @ops_len (And.intro @ops_store (And.intro @ops_call (And.intro @opsP_some (And.intro @opsQ_none (And.intro @opsQ_some (And.intro @opsQ_loud (And.intro @ops_nil (And.intro @doneW_some (And.intro @seqW_normal (And.intro @seqW_ret (And.intro @seqW_exit (And.intro @w_cond (And.intro @w_block (And.intro @condW_true (And.intro @condW_false (And.intro @evalO_tmp (And.intro @evalO_const (And.intro @evalO_func (And.intro @ofVal_int (And.intro @ofVal_bool (And.intro @ofVal_nil (And.intro @ofVal_str (And.intro @set8 (And.intro @getD8 (And.intro @List.set_cons_succ.{0} (And.intro @List.set_cons_zero.{0} (And.intro @List.getD_cons_succ.{0} (And.intro @List.getD_cons_zero.{0} (And.intro @binN_tmp (And.intro @binN_int (And.intro @binN_bool (And.intro @binN_str (And.intro @binD_add (And.intro @binD_sub (And.intro @binD_mul (And.intro @binD_lss (And.intro @binD_leq (And.intro @binD_gtr (And.intro @binD_geq (And.intro @binD_eql (And.intro @binD_neq (And.intro @boolD_bv (And.intro @Option.map_some.{0, 0} (And.intro @blockW_normal (And.intro @blockW_ret (And.intro @blockW_exit (And.intro @blockW_other (And.intro @Bool.false_and (And.intro @Bool.and_false (And.intro @Bool.and_true (And.intro @Bool.true_and (And.intro @Bool.not_true (And.intro @Bool.not_false (And.intro @decide_true (And.intro @decide_false (And.intro @ops_guard (And.intro @opsG_true (And.intro @opsG_false (And.intro @wantT_some (And.intro @yield_bv (And.intro @yield_undef (And.intro @putD_some (And.intro @putD_none (And.intro @beq_true' (And.intro @beq_false' (And.intro @List.getElem?_toArray.{0} (And.intro @List.getElem?_cons_succ.{0} (And.intro @List.getElem?_cons_zero.{0} (And.intro @Option.bind_some.{0, 0} (And.intro @Option.bind_none.{0, 0} (And.intro @Option.map_none.{0, 0} (And.intro @ops_pick (And.intro @List.length_cons.{0} (And.intro @List.length_nil.{0} (And.intro @List.cons_append.{0} (And.intro @List.nil_append.{0} (And.intro @ldOb_arr (And.intro @ldOb_frz (And.intro @callV_fn (And.intro @pickD_true (And.intro @pickD_false (And.intro @ops_un (And.intro @unD_not (And.intro @ops_max (And.intro @ops_min (And.intro @ops_bs (And.intro @ops_append (And.intro @ops_make (And.intro @ops_slice (And.intro @ops_extract (And.intro @ops_fieldAddr (And.intro @ops_field (And.intro @ops_build (And.intro @ops_alloc (And.intro @ops_box (And.intro @ops_index (And.intro @ops_conv (And.intro @boxD_leaf (And.intro @boxD_agg (And.intro @boxD_str (And.intro @boxD_bool (And.intro @boxD_lst (And.intro @boxD_ref (And.intro @if_true.{1} (And.intro @if_false.{1} (And.intro @evW_skip (And.intro @evW_exit (And.intro @evW_ret (And.intro @callV_func (And.intro @List.map_cons.{0, 0} (And.intro @List.map_nil.{0, 0} (And.intro @Wp_some (And.intro @condW_t (And.intro @condW_f (And.intro @condW_nt (And.intro @condW_nf (And.intro @opsG_t (And.intro @opsG_f (And.intro @opsG_nt (And.intro @opsG_nf (And.intro @pickD_t (And.intro @pickD_f (And.intro @pickD_nt (And.intro @pickD_nf (And.intro @Bool.not_not (@callV_pfn))))))))))))))))))))))))))))))))))))))))))))))))))))))))))))))))))))))))))))))))))))))))))))))))))))))))))))))))))))))))))))))))))))))))))
abbrev J : Dv := .junk
def ens := And.intro @Option.getD_some.{0} (And.intro @List.append_nil.{0} (And.intro @List.nil_append.{0} (And.intro @List.cons_append.{0} (And.intro @List.getD_cons_zero.{0} (And.intro @List.getD_cons_succ.{0} (And.intro @List.length_cons.{0} (And.intro @List.length_nil.{0} (And.intro @List.replicate_succ.{0} (@List.replicate_zero.{0})))))))))
def rs48 := And.intro @r48_0 (And.intro @r48_1 (And.intro @r48_2 (And.intro @r48_3 (And.intro @r48_4 (And.intro @r48_5 (And.intro @r48_7 (And.intro @r48_8 (And.intro @r48_9 (And.intro @r48_6 (@r48_10))))))))))
def rs30 := And.intro @r30_0 (@r30_1)
def rs31 := And.intro @r31_0 (And.intro @r31_1 (And.intro @r31_2 (And.intro @r31_3 (And.intro @r31_4 (And.intro @r31_5 (And.intro @r31_7 (And.intro @r31_8 (And.intro @r31_9 (And.intro @r31_6 (And.intro @r31_10 (And.intro @r31_11 (And.intro @r31_13 (And.intro @r31_14 (And.intro @r31_15 (And.intro @r31_12 (@r31_16))))))))))))))))
def rs9 := And.intro @r9_0 (@r9_1)
def rs46 := And.intro @r46_0 (And.intro @r46_1 (And.intro @r46_2 (And.intro @r46_3 (And.intro @r46_5 (And.intro @r46_4 (@r46_6))))))
def rs22 := And.intro @r22_0 (And.intro @r22_1 (@r22_2))
def rs38 := And.intro @r38_0 (And.intro @r38_1 (And.intro @r38_2 (And.intro @r38_3 (And.intro @r38_4 (And.intro @r38_5 (And.intro @r38_6 (@r38_7)))))))
def rs34 := And.intro @r34_0 (@r34_1)
def rs61 := And.intro @r61_0 (@r61_1)
def rs50 := And.intro @r50_0 (And.intro @r50_1 (And.intro @r50_2 (And.intro @r50_3 (And.intro @r50_4 (And.intro @r50_5 (And.intro @r50_6 (@r50_7)))))))
def rs49 := And.intro @r49_0 (And.intro @r49_1 (And.intro @r49_2 (And.intro @r49_3 (And.intro @r49_4 (And.intro @r49_5 (And.intro @r49_6 (And.intro @r49_8 (And.intro @r49_7 (And.intro @r49_9 (@r49_10))))))))))
def rs33 := And.intro @r33_0 (And.intro @r33_1 (And.intro @r33_2 (And.intro @r33_3 (And.intro @r33_4 (And.intro @r33_5 (And.intro @r33_6 (And.intro @r33_7 (And.intro @r33_8 (And.intro @r33_9 (And.intro @r33_10 (And.intro @r33_11 (And.intro @r33_12 (@r33_13)))))))))))))
def rs12 := And.intro @r12_0 (And.intro @r12_1 (@r12_2))
def rs39 := And.intro @r39_0 (And.intro @r39_1 (And.intro @r39_2 (And.intro @r39_3 (And.intro @r39_4 (And.intro @r39_5 (And.intro @r39_6 (And.intro @r39_7 (And.intro @r39_8 (@r39_9)))))))))
def rs24 := And.intro @r24_0 (And.intro @r24_1 (And.intro @r24_2 (And.intro @r24_3 (And.intro @r24_4 (And.intro @r24_6 (And.intro @r24_7 (And.intro @r24_5 (@r24_8))))))))
def rs63 := And.intro @r63_0 (@r63_1)
def rs52 := And.intro @r52_0 (And.intro @r52_1 (And.intro @r52_2 (And.intro @r52_3 (And.intro @r52_5 (And.intro @r52_4 (@r52_6))))))
def rs62 := And.intro @r62_0 (And.intro @r62_1 (And.intro @r62_2 (And.intro @r62_3 (And.intro @r62_5 (And.intro @r62_4 (@r62_6))))))
def rs51 := And.intro @r51_0 (@r51_1)
def rs8 := And.intro @r8_0 (And.intro @r8_1 (And.intro @r8_2 (And.intro @r8_3 (And.intro @r8_4 (And.intro @r8_5 (And.intro @r8_6 (And.intro @r8_7 (And.intro @r8_9 (And.intro @r8_8 (And.intro @r8_10 (And.intro @r8_11 (And.intro @r8_13 (And.intro @r8_14 (And.intro @r8_15 (And.intro @r8_16 (And.intro @r8_18 (And.intro @r8_19 (And.intro @r8_20 (And.intro @r8_21 (And.intro @r8_17 (And.intro @r8_22 (And.intro @r8_23 (And.intro @r8_12 (And.intro @r8_24 (And.intro @r8_25 (And.intro @r8_27 (And.intro @r8_28 (And.intro @r8_30 (And.intro @r8_31 (And.intro @r8_32 (And.intro @r8_29 (And.intro @r8_26 (@r8_33)))))))))))))))))))))))))))))))))
theorem a25 : aggT Try.prog 25 = some true := by kernel_rfl
theorem z25 : szOf Try.prog 25 = some 4 := by kernel_rfl
theorem a23 : aggT Try.prog 23 = some false := by kernel_rfl
theorem u23 : Try.prog.underlying 23 = some (.slice 25) := Try.underlying23
theorem a9 : aggT Try.prog 9 = some false := by kernel_rfl
theorem u9 : Try.prog.underlying 9 = some .string := Try.underlying9
theorem a22 : aggT Try.prog 22 = some false := by kernel_rfl
theorem u22 : Try.prog.underlying 22 = some (.slice 9) := Try.underlying22
theorem z9 : szOf Try.prog 9 = some 1 := by kernel_rfl
theorem b25 : bytesOf Try.prog 25 = some 72 := by kernel_rfl
theorem zc25 : zeroCs Try.prog 25 = some [.v (.int .i64 (0 : Int)), .v (.string ByteArray.empty), .lst true 0 [], .lst true 0 []] := by kernel_rfl
theorem u29 : Try.prog.underlying 29 = some (.slice 50) := Try.underlying29
theorem z50 : szOf Try.prog 50 = some 1 := by kernel_rfl
theorem b50 : bytesOf Try.prog 50 = some 8 := by kernel_rfl
theorem zc50 : zeroCs Try.prog 50 = some [.v (.int .u64 (0 : Int))] := by kernel_rfl
theorem a3 : aggT Try.prog 3 = some false := by kernel_rfl
theorem a50 : aggT Try.prog 50 = some false := by kernel_rfl
theorem u40 : Try.prog.underlying 40 = some (.slice 3) := Try.underlying40
theorem z3 : szOf Try.prog 3 = some 1 := by kernel_rfl
theorem b3 : bytesOf Try.prog 3 = some 8 := by kernel_rfl
theorem zc3 : zeroCs Try.prog 3 = some [.v (.int .i64 (0 : Int))] := by kernel_rfl
theorem z40 : szOf Try.prog 40 = some 1 := by kernel_rfl
theorem a40 : aggT Try.prog 40 = some false := by kernel_rfl
theorem u33 : Try.prog.underlying 33 = some (.slice 40) := Try.underlying33
theorem zc40 : zeroCs Try.prog 40 = some [.lst true 0 []] := by kernel_rfl
theorem b40 : bytesOf Try.prog 40 = some 24 := by kernel_rfl
theorem varlv_4_0_4 {c0 c1 c2 c3 : Pv} : lkOb (some (.var [.p c0, .p c1, .p c2, .p c3])) 0 4 = some (.p (.agg [c0, c1, c2, c3])) := rfl
theorem faP_25_3 {id o : Nat} : fieldAddrD Try.prog 25 (.ptr id o) 3 = some (.ptr id (o + 3)) := by kernel_rfl
theorem varld_4_0_3 {c0 c1 c2 c3 : Dv} : ldOb (some (.var [c0, c1, c2, c3])) (0 + 3) = some c3 := rfl
theorem idxL_23 {full : Bool} {l : List Node} {i : Int} (h0 : 0 ≤ i) (h1 : i < (l.length : Int)) : idxD Try.prog 23 (.p (.lst full l.length (encL en_Node l))) (.p (.v (.int .i64 i))) = some (.p (.iptr (encL en_Node l) (ato i 4))) := idx_lst u23 z25 (by decide) en_Node_len h0 h1
theorem lk_frz_25 {l : List Node} {i : Int} {v : Node} (h : rd l i = some v) : lkOb (some (.frz (encL en_Node l))) (ato i 4) 4 = some (.p (.agg [.v (.int .i64 v.Kind), .v (.string v.Text), .lst false v.Gaps.length (encL en_str v.Gaps), .lst false v.Kids.length (encL en_Node v.Kids)])) := (lkOb_frz en_Node_len h).trans (by rw [en_Node_eq])
theorem faP_25_1 {id o : Nat} : fieldAddrD Try.prog 25 (.ptr id o) 1 = some (.ptr id (o + 1)) := by kernel_rfl
theorem varld_4_0_1 {c0 c1 c2 c3 : Dv} : ldOb (some (.var [c0, c1, c2, c3])) (0 + 1) = some c1 := rfl
theorem faP_25_2 {id o : Nat} : fieldAddrD Try.prog 25 (.ptr id o) 2 = some (.ptr id (o + 2)) := by kernel_rfl
theorem varld_4_0_2 {c0 c1 c2 c3 : Dv} : ldOb (some (.var [c0, c1, c2, c3])) (0 + 2) = some c2 := rfl
theorem idxL_22 {full : Bool} {l : List ByteArray} {i : Int} (h0 : 0 ≤ i) (h1 : i < (l.length : Int)) : idxD Try.prog 22 (.p (.lst full l.length (encL en_str l))) (.p (.v (.int .i64 i))) = some (.p (.iptr (encL en_str l) (ato i 1))) := idx_lst u22 z9 (by decide) en_str_len h0 h1
theorem ce_9_x {l : List ByteArray} {i : Int} {v : ByteArray} (h : rd l i = some v) : (encL en_str l)[ato i 1]? = some (.v (.string v)) := (encL_cell en_str_len h (k := 0) (by decide)).trans (by rw [en_str_eq]; rfl)
theorem bs_23_1 {p0_0 : Int} {p0_1 : ByteArray} {p0_2f : Bool} {p0_2n : Nat} {p0_2c : List Pv} {p0_3f : Bool} {p0_3n : Nat} {p0_3c : List Pv} {H : List Ob} : bsD Try.prog H 23 1 [(0, .p (.agg [.v (.int .i64 p0_0), .v (.string p0_1), .lst p0_2f p0_2n p0_2c, .lst p0_3f p0_3n p0_3c]))] = some (.p (.lst true 1 [.v (.int .i64 p0_0), .v (.string p0_1), .lst false p0_2n (wks p0_2c), .lst false p0_3n (wks p0_3c)]), none) := by kernel_rfl
theorem ap_23_23 {H : List Ob} {id off esz n m : Nat} {full : Bool} {new : List Pv} : appendD Try.prog H #[23, 23] (.ref id off n esz) (.p (.lst full m new)) = apOb H id off n m esz 4 72 new H[id]? := appendD_ap u23 u23 z25 b25 zc25 ⟨by decide, by decide, rfl⟩
theorem al_25 {H : List Ob} : allocD Try.prog 25 H = some (.ptr H.length 0, some (H ++ [.var [iv (0 : Int), .p (.v (.string ByteArray.empty)), .p (.lst true 0 []), .p (.lst true 0 [])]])) := by kernel_rfl
theorem sa_4_0_4 {H : List Ob} {id : Nat} {c0 c1 c2 c3 : Dv} {d0 d1 d2 d3 : Pv} : staOb H id 0 4 [d0, d1, d2, d3] (some (.var [c0, c1, c2, c3])) = some (H.set id (.var [(.p d0), (.p d1), (.p d2), (.p d3)])) := by simp [staOb, setAt]
theorem bs_29_1 {p0_0 : Int} {H : List Ob} : bsD Try.prog H 29 1 [(0, .p (.v (.int .u64 p0_0)))] = some (.p (.lst true 1 [.v (.int .u64 p0_0)]), none) := by kernel_rfl
theorem ap_29_29 {H : List Ob} {id off esz n m : Nat} {full : Bool} {new : List Pv} : appendD Try.prog H #[29, 29] (.ref id off n esz) (.p (.lst full m new)) = apOb H id off n m esz 1 8 new H[id]? := appendD_ap u29 u29 z50 b50 zc50 ⟨by decide, by decide, rfl⟩
theorem faP_25_0 {id o : Nat} : fieldAddrD Try.prog 25 (.ptr id o) 0 = some (.ptr id (o + 0)) := by kernel_rfl
theorem varld_4_0_0 {c0 c1 c2 c3 : Dv} : ldOb (some (.var [c0, c1, c2, c3])) (0 + 0) = some c0 := rfl
theorem cv_3_50 {x : Int} : convD Try.prog 3 50 (.p (.v (.int .i64 x))) = some (.p (.v (.int .u64 (IntKind.wrap .u64 x)))) := by kernel_rfl
theorem cv_5_50 {x : Int} : convD Try.prog 5 50 (.p (.v (.int .u8 x))) = some (.p (.v (.int .u64 (IntKind.wrap .u64 x)))) := by kernel_rfl
theorem bu_89_0_1 {p0_0 : Int} {p1_0 : Int} : buildD Try.prog 89 [(0, .p (.v (.int .u64 p0_0))), (1, .p (.v (.int .u64 p1_0)))] = some (.p (.agg [.v (.int .u64 p0_0), .v (.int .u64 p1_0)])) := by kernel_rfl
theorem ixa_89 {c0 c1 i v : Int} (h : rd [c0, c1] i = some v) : indexD Try.prog 89 (.p (.agg [.v (.int .u64 c0), .v (.int .u64 c1)])) (.p (.v (.int .i64 i))) = some (.p (.v (.int .u64 v))) := indexD_arr (l := [c0, c1]) Try.underlying89 a50 z50 rfl h
theorem cv_3_87 {x : Int} : convD Try.prog 3 87 (.p (.v (.int .i64 x))) = some (.p (.v (.int .u64 (IntKind.wrap .u64 x)))) := by kernel_rfl
theorem cv_50_5 {x : Int} : convD Try.prog 50 5 (.p (.v (.int .u64 x))) = some (.p (.v (.int .u8 (IntKind.wrap .u8 x)))) := by kernel_rfl
theorem exr_2_0 {c0 c1 : Dv} : extractD (.tup [c0, c1]) 0 = some c0 := rfl
theorem exr_2_1 {c0 c1 : Dv} : extractD (.tup [c0, c1]) 1 = some c1 := rfl
theorem idxR_29 {id m : Nat} {i : Int} (h0 : 0 ≤ i) (h1 : i < (m : Int)) : idxD Try.prog 29 (.ref id 0 m 1) (.p (.v (.int .i64 i))) = some (.ptr id (ato i 1)) := idx_ref u29 z50 (by decide) h0 h1
theorem stf_50_x {H : List Ob} {id : Nat} {l : List Int} {i : Int} {v : Int} {p : Int} (h : rd l i = some v) : stdOb H id (ato i 1) (.p (.v (.int .u64 p))) (some (.arr (encL en_u64 l))) = some (H.set id (.arr (encL en_u64 (l.set i.toNat p)))) := std_enc0 en_u64_len h (by decide) (by rw [en_u64_eq, en_u64_eq]; rfl)
theorem ce_50_x {l : List Int} {i : Int} {v : Int} (h : rd l i = some v) : (encL en_u64 l)[ato i 1]? = some (.v (.int .u64 v)) := (encL_cell en_u64_len h (k := 0) (by decide)).trans (by rw [en_u64_eq]; rfl)
theorem idxL_29 {full : Bool} {l : List Int} {i : Int} (h0 : 0 ≤ i) (h1 : i < (l.length : Int)) : idxD Try.prog 29 (.p (.lst full l.length (encL en_u64 l))) (.p (.v (.int .i64 i))) = some (.p (.iptr (encL en_u64 l) (ato i 1))) := idx_lst u29 z50 (by decide) en_u64_len h0 h1
theorem bsr_33_1 {H : List Ob} {id n : Nat} {x : List Int} (hid : H[id]? = some (.arr (encL en_i64 x))) (hn : n = x.length) : bsD Try.prog H 33 1 [(0, .ref id 0 n 1)] = some (.p (.lst true 1 [.lst false x.length (encL en_i64 x)]), some (H.set id (.frz (encL en_i64 x)))) := bsD_row u33 u40 z40 zc40 en_i64_len en_i64_wk hid hn
theorem bs_40_1 {p0_0 : Int} {H : List Ob} : bsD Try.prog H 40 1 [(0, .p (.v (.int .i64 p0_0)))] = some (.p (.lst true 1 [.v (.int .i64 p0_0)]), none) := by kernel_rfl
theorem ap_40_40 {H : List Ob} {id off esz n m : Nat} {full : Bool} {new : List Pv} : appendD Try.prog H #[40, 40] (.ref id off n esz) (.p (.lst full m new)) = apOb H id off n m esz 1 8 new H[id]? := appendD_ap u40 u40 z3 b3 zc3 ⟨by decide, by decide, rfl⟩
theorem idxL_33 {full : Bool} {l : List (List Int)} {i : Int} (h0 : 0 ≤ i) (h1 : i < (l.length : Int)) : idxD Try.prog 33 (.p (.lst full l.length (encL en_Li64 l))) (.p (.v (.int .i64 i))) = some (.p (.iptr (encL en_Li64 l) (ato i 1))) := idx_lst u33 z40 (by decide) en_Li64_len h0 h1
theorem ce_40_x {l : List (List Int)} {i : Int} {v : (List Int)} (h : rd l i = some v) : (encL en_Li64 l)[ato i 1]? = some (.lst false v.length (encL en_i64 v)) := (encL_cell en_Li64_len h (k := 0) (by decide)).trans (by rw [en_Li64_eq]; rfl)
theorem idxL_40 {full : Bool} {l : List Int} {i : Int} (h0 : 0 ≤ i) (h1 : i < (l.length : Int)) : idxD Try.prog 40 (.p (.lst full l.length (encL en_i64 l))) (.p (.v (.int .i64 i))) = some (.p (.iptr (encL en_i64 l) (ato i 1))) := idx_lst u40 z3 (by decide) en_i64_len h0 h1
theorem ce_3_x {l : List Int} {i : Int} {v : Int} (h : rd l i = some v) : (encL en_i64 l)[ato i 1]? = some (.v (.int .i64 v)) := (encL_cell en_i64_len h (k := 0) (by decide)).trans (by rw [en_i64_eq]; rfl)
theorem idxR_40 {id m : Nat} {i : Int} (h0 : 0 ≤ i) (h1 : i < (m : Int)) : idxD Try.prog 40 (.ref id 0 m 1) (.p (.v (.int .i64 i))) = some (.ptr id (ato i 1)) := idx_ref u40 z3 (by decide) h0 h1
theorem stf_3_x {H : List Ob} {id : Nat} {l : List Int} {i : Int} {v : Int} {p : Int} (h : rd l i = some v) : stdOb H id (ato i 1) (.p (.v (.int .i64 p))) (some (.arr (encL en_i64 l))) = some (H.set id (.arr (encL en_i64 (l.set i.toNat p)))) := std_enc0 en_i64_len h (by decide) (by rw [en_i64_eq, en_i64_eq]; rfl)
end Xr

