/- A part of the proof: L. No conditions of its own. -/
import Derived.Test.YtdknlgpdjmjlnaaDoorRows
import Derived.KernelRfl
import Derived.Test.YtdknlgpdjmjlnaaDoorT
namespace Xr
open Go Go.Ev Go.Proofs
set_option linter.unusedSimpArgs false
set_option linter.unusedVariables false
set_option linter.defProp false
def bodyOf (f : Func) : Code := f.body.getD .skip
def loopsOf : Code → List Code
  | .seq a b => loopsOf a ++ loopsOf b
  | .cond _ a b => loopsOf a ++ loopsOf b
  | .block _ b => loopsOf b
  | .loop b => b :: loopsOf b
  | _ => []
noncomputable def gc0 : List Pv := flatD YtdknlgpdjmjlnaaDoor.Rows.laid_treemerge_grammar_shapes
noncomputable instance gl : Gl := ⟨fun g => if g = 0 then some gc0 else none, fun t => ([] : List Nat).contains t⟩
theorem evalO_g0 {tm : List Dv} : evalO tm (.global 0) = .p (.iptr gc0 0) := rfl
theorem gl0_5_at : ∀ n, n < 27 → gc0[0 + n * 6 + 5]? = (gt0_5[n]?).map fun v => .v (.int .i64 v)
  | 0, _ => by kernel_rfl
  | 1, _ => by kernel_rfl
  | 2, _ => by kernel_rfl
  | 3, _ => by kernel_rfl
  | 4, _ => by kernel_rfl
  | 5, _ => by kernel_rfl
  | 6, _ => by kernel_rfl
  | 7, _ => by kernel_rfl
  | 8, _ => by kernel_rfl
  | 9, _ => by kernel_rfl
  | 10, _ => by kernel_rfl
  | 11, _ => by kernel_rfl
  | 12, _ => by kernel_rfl
  | 13, _ => by kernel_rfl
  | 14, _ => by kernel_rfl
  | 15, _ => by kernel_rfl
  | 16, _ => by kernel_rfl
  | 17, _ => by kernel_rfl
  | 18, _ => by kernel_rfl
  | 19, _ => by kernel_rfl
  | 20, _ => by kernel_rfl
  | 21, _ => by kernel_rfl
  | 22, _ => by kernel_rfl
  | 23, _ => by kernel_rfl
  | 24, _ => by kernel_rfl
  | 25, _ => by kernel_rfl
  | 26, _ => by kernel_rfl
  | n + 27, h => absurd h (by omega)
theorem gl0_5_ok {i v : Int} (h : gl0_5 i = some v) : gc0[0 + i.toNat * 6 + 5]? = some (.v (.int .i64 v)) := by
  unfold gl0_5 at h
  split at h
  · rw [gl0_5_at _ (by omega), h]; rfl
  · cases h
theorem im_ (t : TypeId) : Gl.isMap t = false := rfl
def dynOf : Nat → List (Nat × List (Nat × Nat))
  | 49 => [(2, [(1, 10), (3, 10), (4, 10), (5, 10), (6, 10), (7, 10), (8, 10)])]
  | 59 => [(1, [(4, 16), (9, 16), (14, 16)])]
  | _ => []
def lpOf : Nat → List (Nat × List (Nat × Nat))
  | 49 => [(6, [(1, 4), (1, 5)])]
  | _ => []
def preOf : Nat → List (Nat × List Ghost)
  | 48 => [(5, [.keep [2, 3, 7, 8]]), (10, [.keep [2, 3, 7, 8]])]
  | 62 => [(1, [.keep [0, 1, 2]]), (14, [.keep [0, 1, 2]])]
  | 30 => [(4, [.weak [14], .keep [2, 14, 15, 16]]), (9, [.keep [2, 14, 15, 16]])]
  | 49 => [(4, [.ownC 6 3 4, .weak [22], .keep [3, 5, 6, 22, 23, 24]]), (8, [.keep [3, 5, 6, 22, 23, 24]])]
  | 20 => [(4, [.keep [2, 3, 5]]), (8, [.keep [2, 3, 5]])]
  | 8 => [(4, [.weak [0, 1], .keep [0, 1, 5]]), (8, [.keep [0, 1, 5]])]
  | 15 => [(4, [.keep [2, 3, 5]]), (8, [.keep [2, 3, 5]])]
  | 22 => [(3, [.ownC 3 3 4, .keep [1, 2, 3, 4]]), (6, [.keep [1, 2, 3, 4]])]
  | 44 => [(5, [.keep [1, 2, 5, 6]]), (8, [.keep [1, 2, 5, 6]])]
  | 70 => [(4, [.keep [1, 3]]), (8, [.keep [1, 3]])]
  | 71 => [(5, [.keep [0, 3, 4]]), (10, [.keep [0, 3, 4]])]
  | 76 => [(8, [.keep [0, 1, 5]]), (12, [.keep [0, 1, 5]])]
  | 64 => [(3, [.keep [0, 1]]), (5, [.keep [0, 1]])]
  | 73 => [(4, [.keep [0, 3]]), (8, [.keep [0, 3]])]
  | 61 => [(8, [.keep [1, 3]]), (12, [.keep [1, 3]])]
  | 45 => [(3, [.keep [1, 3, 4]]), (6, [.keep [1, 3, 4]])]
  | 33 => [(4, [.keep [1, 3]]), (8, [.keep [1, 3]])]
  | 17 => [(5, [.ownC 3 3 4, .keep [1, 2, 3, 4]]), (8, [.keep [1, 2, 3, 4]])]
  | 18 => [(6, [.freeze 9, .freeze 10])]
  | _ => []
def A0 : Ann := { okf := fun _ => true, keeps := fun f => [53, 56, 57].contains f, muts := fun f => [49, 53, 54, 56, 57, 66, 77, 78, 81, 93, 94, 95, 96, 97, 98, 99, 102, 103, 104, 105, 106, 107, 108, 109, 113, 115, 116, 117, 118].contains f, ros := fun f => [].contains f, loud := fun f r => ([(49, 6)] : List (Nat × Nat)).contains (f, r), pre := fun f r => ((preOf f).lookup r).getD [], clone := fun f => if f == 23 then some 0 else none, dyn := fun f q => (dynOf f).lookup q, lp := fun f q => (lpOf f).lookup q, outer := fun f => if f == 112 then some (.pure Extern.BytealgIndexByte.indexByte) else if f == 77 then some (.valueOf) else if f == 79 then some (.valLen) else if f == 78 then some (.swapper [(33, 91, 92, 99, 43)]) else if f == 93 then some (.swap) else if f == 94 then some (.swap) else if f == 95 then some (.swap) else if f == 96 then some (.swap) else if f == 97 then some (.swap) else if f == 98 then some (.swap) else if f == 99 then some (.swap) else none }
theorem clones : CloneOk Tryd.prog A0 := by
  intro f sz h call oa cap
  simp only [A0] at h
  split at h
  · rename_i hf
    obtain rfl := Option.some.inj h
    obtain rfl : f = 23 := by simpa using hf
    refine ⟨1, ?_⟩
    cases oa with
    | none => right; right; exact ⟨by decide, by kernel_rfl⟩
    | some a => right; right; exact ⟨by decide, by kernel_rfl⟩
  cases h
theorem swapper_is : ExtIs Tryd.prog (.swapper [(33, 91, 92, 99, 43)]) (Extern.ReflectliteSwapper.swapper "internal/reflectlite" (Extern.ReflectliteValue.valueError "Swapper")) := by
  intro t f0 f1 f2 h hl w s n cap
  by_cases ht : t = 33
  · subst ht
    obtain ⟨rfl, rfl, rfl, rfl⟩ : f0 = 91 ∧ f1 = 92 ∧ f2 = 99 ∧ h = 43 := by
      have := Option.some.inj hl
      simp only [Prod.mk.injEq] at this
      exact ⟨this.1.symm, this.2.1.symm, this.2.2.1.symm, this.2.2.2.symm⟩
    match n with
    | 0 => show Sem.run _ _ _ = _; kernel_rfl
    | 1 => show Sem.run _ _ _ = _; kernel_rfl
    | n + 2 => show Sem.run _ _ _ = _; kernel_rfl
  · simp [List.lookup, show (t == 33) = false from by simpa using ht] at hl
theorem internal_bytealg_IndexByteString_call {H : List Ob} {x0 : ByteArray} {x1 : Int} {r : Int} (h : internal_bytealg_IndexByteString x0 x1 = some r) : callD (callW Tryd.prog A0) A0 H 112 [.p (.v (.string x0)), .p (.v (.int .u8 x1))] = some (.p (.v (.int .i64 r)), none) := by
  obtain rfl := Option.some.inj h
  exact callD_byte (b := true) rfl rfl rfl
theorem exts : ExtOk Tryd.prog A0 := by
  intro f k h
  simp only [A0] at h
  split at h
  · rename_i hf
    obtain rfl := Option.some.inj h
    obtain rfl : f = 112 := by simpa using hf
    exact ⟨Tryd.f112, _, Tryd.func112, by kernel_rfl, by kernel_rfl, by kernel_rfl, (by kernel_rfl : Extern.find Tryd.f112 = some (Extern.BytealgIndexByte.indexByte)), rfl⟩
  split at h
  · rename_i hf
    obtain rfl := Option.some.inj h
    obtain rfl : f = 77 := by simpa using hf
    exact ⟨Tryd.f77, _, Tryd.func77, by kernel_rfl, by kernel_rfl, by kernel_rfl, (by kernel_rfl : Extern.find Tryd.f77 = some (fun args => Extern.ReflectliteValue.unpack (args.getD 0 (.tuple #[])))), rfl⟩
  split at h
  · rename_i hf
    obtain rfl := Option.some.inj h
    obtain rfl : f = 79 := by simpa using hf
    exact ⟨Tryd.f79, _, Tryd.func79, by kernel_rfl, by kernel_rfl, by kernel_rfl, (by kernel_rfl : Extern.find Tryd.f79 = some (Extern.ReflectliteValue.method (Extern.ReflectliteValue.valueError "reflectlite.Value.Len" 0) Extern.ReflectliteValue.len)), rfl⟩
  split at h
  · rename_i hf
    obtain rfl := Option.some.inj h
    obtain rfl : f = 78 := by simpa using hf
    exact ⟨Tryd.f78, _, Tryd.func78, by kernel_rfl, by kernel_rfl, by kernel_rfl, (by kernel_rfl : Extern.find Tryd.f78 = some (Extern.ReflectliteSwapper.swapper "internal/reflectlite" (Extern.ReflectliteValue.valueError "Swapper"))), swapper_is⟩
  split at h
  · rename_i hf
    obtain rfl := Option.some.inj h
    obtain rfl : f = 93 := by simpa using hf
    exact ⟨Tryd.f93, _, Tryd.func93, by kernel_rfl, by kernel_rfl, by kernel_rfl, (by kernel_rfl : Extern.find Tryd.f93 = some (Extern.ReflectliteSwapper.swap true)), ⟨true, rfl⟩⟩
  split at h
  · rename_i hf
    obtain rfl := Option.some.inj h
    obtain rfl : f = 94 := by simpa using hf
    exact ⟨Tryd.f94, _, Tryd.func94, by kernel_rfl, by kernel_rfl, by kernel_rfl, (by kernel_rfl : Extern.find Tryd.f94 = some (Extern.ReflectliteSwapper.swap true)), ⟨true, rfl⟩⟩
  split at h
  · rename_i hf
    obtain rfl := Option.some.inj h
    obtain rfl : f = 95 := by simpa using hf
    exact ⟨Tryd.f95, _, Tryd.func95, by kernel_rfl, by kernel_rfl, by kernel_rfl, (by kernel_rfl : Extern.find Tryd.f95 = some (Extern.ReflectliteSwapper.swap true)), ⟨true, rfl⟩⟩
  split at h
  · rename_i hf
    obtain rfl := Option.some.inj h
    obtain rfl : f = 96 := by simpa using hf
    exact ⟨Tryd.f96, _, Tryd.func96, by kernel_rfl, by kernel_rfl, by kernel_rfl, (by kernel_rfl : Extern.find Tryd.f96 = some (Extern.ReflectliteSwapper.swap true)), ⟨true, rfl⟩⟩
  split at h
  · rename_i hf
    obtain rfl := Option.some.inj h
    obtain rfl : f = 97 := by simpa using hf
    exact ⟨Tryd.f97, _, Tryd.func97, by kernel_rfl, by kernel_rfl, by kernel_rfl, (by kernel_rfl : Extern.find Tryd.f97 = some (Extern.ReflectliteSwapper.swap true)), ⟨true, rfl⟩⟩
  split at h
  · rename_i hf
    obtain rfl := Option.some.inj h
    obtain rfl : f = 98 := by simpa using hf
    exact ⟨Tryd.f98, _, Tryd.func98, by kernel_rfl, by kernel_rfl, by kernel_rfl, (by kernel_rfl : Extern.find Tryd.f98 = some (Extern.ReflectliteSwapper.swap true)), ⟨true, rfl⟩⟩
  split at h
  · rename_i hf
    obtain rfl := Option.some.inj h
    obtain rfl : f = 99 := by simpa using hf
    exact ⟨Tryd.f99, _, Tryd.func99, by kernel_rfl, by kernel_rfl, by kernel_rfl, (by kernel_rfl : Extern.find Tryd.f99 = some (Extern.ReflectliteSwapper.swap false)), ⟨false, rfl⟩⟩
  cases h
abbrev RG (f q : Nat) (g : List Ghost) (o : Array Oper) (d : Bool) (s : St) : Prop := evW Tryd.prog A0 f (.region q o d) s = regW Tryd.prog A0 (d && true) o o.toList (ghostsD g s)
abbrev RY (f q : Nat) (g : List Ghost) (y : List (Nat × Nat)) (o : Array Oper) (s : St) : Prop := evW Tryd.prog A0 f (.region q o true) s = regY Tryd.prog A0 (true && true) o y o.toList (ghostsD g s)
abbrev RZ (f q : Nat) (g : List Ghost) (y : List (Nat × Nat)) (o : Array Oper) (s : St) : Prop := evW Tryd.prog A0 f (.region q o true) s = regZ Tryd.prog A0 (true && false) o y o.toList (ghostsD g s)
theorem r48_0 {o d s} : RG 48 0 [] o d s := w_region
theorem r48_1 {o d s} : RG 48 1 [] o d s := w_region
theorem r48_2 {o d s} : RG 48 2 [] o d s := w_region
theorem r48_3 {o d s} : RG 48 3 [] o d s := w_region
theorem r48_4 {o d s} : RG 48 4 [] o d s := w_region
theorem r48_5 {o d s} : RG 48 5 [.keep [2, 3, 7, 8]] o d s := w_region
theorem r48_7 {o d s} : RG 48 7 [] o d s := w_region
theorem r48_8 {o d s} : RG 48 8 [] o d s := w_region
theorem r48_9 {o d s} : RG 48 9 [] o d s := w_region
theorem r48_6 {o d s} : RG 48 6 [] o d s := w_region
theorem r48_10 {o d s} : RG 48 10 [.keep [2, 3, 7, 8]] o d s := w_region
theorem r28_0 {o d s} : RG 28 0 [] o d s := w_region
theorem r28_1 {o d s} : RG 28 1 [] o d s := w_region
theorem r14_0 {o d s} : RG 14 0 [] o d s := w_region
theorem r14_1 {o d s} : RG 14 1 [] o d s := w_region
theorem r50_0 {o d s} : RG 50 0 [] o d s := w_region
theorem r50_1 {o d s} : RG 50 1 [] o d s := w_region
theorem r31_0 {o d s} : RG 31 0 [] o d s := w_region
theorem r31_1 {o d s} : RG 31 1 [] o d s := w_region
theorem r31_2 {o d s} : RG 31 2 [] o d s := w_region
theorem r31_3 {o d s} : RG 31 3 [] o d s := w_region
theorem r31_4 {o d s} : RG 31 4 [] o d s := w_region
theorem r31_5 {o d s} : RG 31 5 [] o d s := w_region
theorem r31_6 {o d s} : RG 31 6 [] o d s := w_region
theorem r31_7 {o d s} : RG 31 7 [] o d s := w_region
theorem r31_8 {o d s} : RG 31 8 [] o d s := w_region
theorem r31_9 {o d s} : RG 31 9 [] o d s := w_region
theorem r31_10 {o d s} : RG 31 10 [] o d s := w_region
theorem r31_11 {o d s} : RG 31 11 [] o d s := w_region
theorem r31_12 {o d s} : RG 31 12 [] o d s := w_region
theorem r31_13 {o d s} : RG 31 13 [] o d s := w_region
theorem r31_14 {o d s} : RG 31 14 [] o d s := w_region
theorem r31_15 {o d s} : RG 31 15 [] o d s := w_region
theorem r31_16 {o d s} : RG 31 16 [] o d s := w_region
theorem r89_0 {o d s} : RG 89 0 [] o d s := w_region
theorem r89_1 {o d s} : RG 89 1 [] o d s := w_region
theorem r74_0 {o d s} : RG 74 0 [] o d s := w_region
theorem r74_1 {o d s} : RG 74 1 [] o d s := w_region
theorem r90_0 {o d s} : RG 90 0 [] o d s := w_region
theorem r90_1 {o d s} : RG 90 1 [] o d s := w_region
theorem r75_0 {o d s} : RG 75 0 [] o d s := w_region
theorem r75_1 {o d s} : RG 75 1 [] o d s := w_region
theorem r62_0 {o d s} : RG 62 0 [] o d s := w_region
theorem r62_1 {o d s} : RG 62 1 [.keep [0, 1, 2]] o d s := w_region
theorem r62_2 {o d s} : RG 62 2 [] o d s := w_region
theorem r62_3 {o d s} : RG 62 3 [] o d s := w_region
theorem r62_4 {o d s} : RG 62 4 [] o d s := w_region
theorem r62_5 {o d s} : RG 62 5 [] o d s := w_region
theorem r62_6 {o d s} : RG 62 6 [] o d s := w_region
theorem r62_7 {o d s} : RG 62 7 [] o d s := w_region
theorem r62_8 {o d s} : RG 62 8 [] o d s := w_region
theorem r62_9 {o d s} : RG 62 9 [] o d s := w_region
theorem r62_10 {o d s} : RG 62 10 [] o d s := w_region
theorem r62_11 {o d s} : RG 62 11 [] o d s := w_region
theorem r62_12 {o d s} : RG 62 12 [] o d s := w_region
theorem r62_13 {o d s} : RG 62 13 [] o d s := w_region
theorem r62_14 {o d s} : RG 62 14 [.keep [0, 1, 2]] o d s := w_region
theorem r51_0 {o d s} : RG 51 0 [] o d s := w_region
theorem r51_1 {o d s} : RG 51 1 [] o d s := w_region
theorem r51_2 {o d s} : RG 51 2 [] o d s := w_region
theorem r51_3 {o d s} : RG 51 3 [] o d s := w_region
theorem r32_0 {o d s} : RG 32 0 [] o d s := w_region
theorem r32_1 {o d s} : RG 32 1 [] o d s := w_region
theorem r30_0 {o d s} : RG 30 0 [] o d s := w_region
theorem r30_1 {o d s} : RG 30 1 [] o d s := w_region
theorem r30_2 {o d s} : RG 30 2 [] o d s := w_region
theorem r30_3 {o d s} : RG 30 3 [] o d s := w_region
theorem r30_4 {o d s} : RG 30 4 [.weak [14], .keep [2, 14, 15, 16]] o d s := w_region
theorem r30_5 {o d s} : RG 30 5 [] o d s := w_region
theorem r30_6 {o d s} : RG 30 6 [] o d s := w_region
theorem r30_7 {o d s} : RG 30 7 [] o d s := w_region
theorem r30_8 {o d s} : RG 30 8 [] o d s := w_region
theorem r30_9 {o d s} : RG 30 9 [.keep [2, 14, 15, 16]] o d s := w_region
theorem r23_0 {o d s} : RG 23 0 [] o d s := w_region
theorem r23_1 {o d s} : RG 23 1 [] o d s := w_region
theorem r23_2 {o d s} : RG 23 2 [] o d s := w_region
theorem r23_3 {o d s} : RG 23 3 [] o d s := w_region
theorem r49_0 {o d s} : RG 49 0 [] o d s := w_region
theorem r49_1 {o d s} : RG 49 1 [] o d s := w_region
theorem r49_2 {o s} : RY 49 2 [] [(1, 10), (3, 10), (4, 10), (5, 10), (6, 10), (7, 10), (8, 10)] o s := w_regionY rfl
theorem r49_3 {o d s} : RG 49 3 [] o d s := w_region
theorem r49_4 {o d s} : RG 49 4 [.ownC 6 3 4, .weak [22], .keep [3, 5, 6, 22, 23, 24]] o d s := w_region
theorem r49_5 {o d s} : RG 49 5 [] o d s := w_region
theorem r49_6 {o s} : RZ 49 6 [] [(1, 4), (1, 5)] o s := w_regionZ rfl rfl
theorem r49_7 {o d s} : RG 49 7 [] o d s := w_region
theorem r49_8 {o d s} : RG 49 8 [.keep [3, 5, 6, 22, 23, 24]] o d s := w_region
theorem r29_0 {o d s} : RG 29 0 [] o d s := w_region
theorem r29_1 {o d s} : RG 29 1 [] o d s := w_region
theorem r29_2 {o d s} : RG 29 2 [] o d s := w_region
theorem r29_3 {o d s} : RG 29 3 [] o d s := w_region
theorem r29_4 {o d s} : RG 29 4 [] o d s := w_region
theorem r16_0 {o d s} : RG 16 0 [] o d s := w_region
theorem r16_1 {o d s} : RG 16 1 [] o d s := w_region
theorem r20_0 {o d s} : RG 20 0 [] o d s := w_region
theorem r20_1 {o d s} : RG 20 1 [] o d s := w_region
theorem r20_2 {o d s} : RG 20 2 [] o d s := w_region
theorem r20_3 {o d s} : RG 20 3 [] o d s := w_region
theorem r20_4 {o d s} : RG 20 4 [.keep [2, 3, 5]] o d s := w_region
theorem r20_6 {o d s} : RG 20 6 [] o d s := w_region
theorem r20_7 {o d s} : RG 20 7 [] o d s := w_region
theorem r20_5 {o d s} : RG 20 5 [] o d s := w_region
theorem r20_8 {o d s} : RG 20 8 [.keep [2, 3, 5]] o d s := w_region
theorem r8_0 {o d s} : RG 8 0 [] o d s := w_region
theorem r8_1 {o d s} : RG 8 1 [] o d s := w_region
theorem r8_2 {o d s} : RG 8 2 [] o d s := w_region
theorem r8_3 {o d s} : RG 8 3 [] o d s := w_region
theorem r8_4 {o d s} : RG 8 4 [.weak [0, 1], .keep [0, 1, 5]] o d s := w_region
theorem r8_6 {o d s} : RG 8 6 [] o d s := w_region
theorem r8_7 {o d s} : RG 8 7 [] o d s := w_region
theorem r8_5 {o d s} : RG 8 5 [] o d s := w_region
theorem r8_8 {o d s} : RG 8 8 [.keep [0, 1, 5]] o d s := w_region
theorem r15_0 {o d s} : RG 15 0 [] o d s := w_region
theorem r15_1 {o d s} : RG 15 1 [] o d s := w_region
theorem r15_2 {o d s} : RG 15 2 [] o d s := w_region
theorem r15_3 {o d s} : RG 15 3 [] o d s := w_region
theorem r15_4 {o d s} : RG 15 4 [.keep [2, 3, 5]] o d s := w_region
theorem r15_6 {o d s} : RG 15 6 [] o d s := w_region
theorem r15_7 {o d s} : RG 15 7 [] o d s := w_region
theorem r15_5 {o d s} : RG 15 5 [] o d s := w_region
theorem r15_8 {o d s} : RG 15 8 [.keep [2, 3, 5]] o d s := w_region
theorem r22_0 {o d s} : RG 22 0 [] o d s := w_region
theorem r22_1 {o d s} : RG 22 1 [] o d s := w_region
theorem r22_2 {o d s} : RG 22 2 [] o d s := w_region
theorem r22_3 {o d s} : RG 22 3 [.ownC 3 3 4, .keep [1, 2, 3, 4]] o d s := w_region
theorem r22_5 {o d s} : RG 22 5 [] o d s := w_region
theorem r22_4 {o d s} : RG 22 4 [] o d s := w_region
theorem r22_6 {o d s} : RG 22 6 [.keep [1, 2, 3, 4]] o d s := w_region
theorem r60_0 {o d s} : RG 60 0 [] o d s := w_region
theorem r60_1 {o d s} : RG 60 1 [] o d s := w_region
theorem r60_2 {o d s} : RG 60 2 [] o d s := w_region
theorem r60_3 {o d s} : RG 60 3 [] o d s := w_region
theorem r60_4 {o d s} : RG 60 4 [] o d s := w_region
theorem r60_5 {o d s} : RG 60 5 [] o d s := w_region
theorem r60_6 {o d s} : RG 60 6 [] o d s := w_region
theorem r60_7 {o d s} : RG 60 7 [] o d s := w_region
theorem r44_0 {o d s} : RG 44 0 [] o d s := w_region
theorem r44_1 {o d s} : RG 44 1 [] o d s := w_region
theorem r44_2 {o d s} : RG 44 2 [] o d s := w_region
theorem r44_3 {o d s} : RG 44 3 [] o d s := w_region
theorem r44_4 {o d s} : RG 44 4 [] o d s := w_region
theorem r44_5 {o d s} : RG 44 5 [.keep [1, 2, 5, 6]] o d s := w_region
theorem r44_7 {o d s} : RG 44 7 [] o d s := w_region
theorem r44_6 {o d s} : RG 44 6 [] o d s := w_region
theorem r44_8 {o d s} : RG 44 8 [.keep [1, 2, 5, 6]] o d s := w_region
theorem r82_0 {o d s} : RG 82 0 [] o d s := w_region
theorem r82_1 {o d s} : RG 82 1 [] o d s := w_region
theorem r82_2 {o d s} : RG 82 2 [] o d s := w_region
theorem r82_3 {o d s} : RG 82 3 [] o d s := w_region
theorem r82_4 {o d s} : RG 82 4 [] o d s := w_region
theorem r82_5 {o d s} : RG 82 5 [] o d s := w_region
theorem r82_6 {o d s} : RG 82 6 [] o d s := w_region
theorem r82_7 {o d s} : RG 82 7 [] o d s := w_region
theorem r82_8 {o d s} : RG 82 8 [] o d s := w_region
theorem r82_9 {o d s} : RG 82 9 [] o d s := w_region
theorem r82_10 {o d s} : RG 82 10 [] o d s := w_region
theorem r82_11 {o d s} : RG 82 11 [] o d s := w_region
theorem r82_12 {o d s} : RG 82 12 [] o d s := w_region
theorem r82_13 {o d s} : RG 82 13 [] o d s := w_region
theorem r82_14 {o d s} : RG 82 14 [] o d s := w_region
theorem r82_15 {o d s} : RG 82 15 [] o d s := w_region
theorem r82_16 {o d s} : RG 82 16 [] o d s := w_region
theorem r82_17 {o d s} : RG 82 17 [] o d s := w_region
theorem r82_18 {o d s} : RG 82 18 [] o d s := w_region
theorem r82_19 {o d s} : RG 82 19 [] o d s := w_region
theorem r110_0 {o d s} : RG 110 0 [] o d s := w_region
theorem r110_1 {o d s} : RG 110 1 [] o d s := w_region
theorem r110_2 {o d s} : RG 110 2 [] o d s := w_region
theorem r110_3 {o d s} : RG 110 3 [] o d s := w_region
theorem r110_4 {o d s} : RG 110 4 [] o d s := w_region
theorem r110_5 {o d s} : RG 110 5 [] o d s := w_region
theorem r110_6 {o d s} : RG 110 6 [] o d s := w_region
theorem r110_7 {o d s} : RG 110 7 [] o d s := w_region
theorem r83_0 {o d s} : RG 83 0 [] o d s := w_region
theorem r83_1 {o d s} : RG 83 1 [] o d s := w_region
theorem r83_2 {o d s} : RG 83 2 [] o d s := w_region
theorem r83_3 {o d s} : RG 83 3 [] o d s := w_region
theorem r83_4 {o d s} : RG 83 4 [] o d s := w_region
theorem r83_5 {o d s} : RG 83 5 [] o d s := w_region
theorem r83_6 {o d s} : RG 83 6 [] o d s := w_region
theorem r83_7 {o d s} : RG 83 7 [] o d s := w_region
theorem r83_8 {o d s} : RG 83 8 [] o d s := w_region
theorem r83_9 {o d s} : RG 83 9 [] o d s := w_region
theorem r83_10 {o d s} : RG 83 10 [] o d s := w_region
theorem r83_11 {o d s} : RG 83 11 [] o d s := w_region
theorem r83_12 {o d s} : RG 83 12 [] o d s := w_region
theorem r83_13 {o d s} : RG 83 13 [] o d s := w_region
theorem r83_14 {o d s} : RG 83 14 [] o d s := w_region
theorem r83_15 {o d s} : RG 83 15 [] o d s := w_region
theorem r83_16 {o d s} : RG 83 16 [] o d s := w_region
theorem r83_17 {o d s} : RG 83 17 [] o d s := w_region
theorem r83_18 {o d s} : RG 83 18 [] o d s := w_region
theorem r83_19 {o d s} : RG 83 19 [] o d s := w_region
theorem r83_20 {o d s} : RG 83 20 [] o d s := w_region
theorem r83_21 {o d s} : RG 83 21 [] o d s := w_region
theorem r83_22 {o d s} : RG 83 22 [] o d s := w_region
theorem r83_23 {o d s} : RG 83 23 [] o d s := w_region
theorem r83_24 {o d s} : RG 83 24 [] o d s := w_region
theorem r83_25 {o d s} : RG 83 25 [] o d s := w_region
theorem r83_26 {o d s} : RG 83 26 [] o d s := w_region
theorem r83_27 {o d s} : RG 83 27 [] o d s := w_region
theorem r83_28 {o d s} : RG 83 28 [] o d s := w_region
theorem r83_29 {o d s} : RG 83 29 [] o d s := w_region
theorem r83_30 {o d s} : RG 83 30 [] o d s := w_region
theorem r83_31 {o d s} : RG 83 31 [] o d s := w_region
theorem r83_32 {o d s} : RG 83 32 [] o d s := w_region
theorem r83_33 {o d s} : RG 83 33 [] o d s := w_region
theorem r83_34 {o d s} : RG 83 34 [] o d s := w_region
theorem r83_35 {o d s} : RG 83 35 [] o d s := w_region
theorem r72_0 {o d s} : RG 72 0 [] o d s := w_region
theorem r72_1 {o d s} : RG 72 1 [] o d s := w_region
theorem r72_2 {o d s} : RG 72 2 [] o d s := w_region
theorem r72_3 {o d s} : RG 72 3 [] o d s := w_region
theorem r72_4 {o d s} : RG 72 4 [] o d s := w_region
theorem r72_5 {o d s} : RG 72 5 [] o d s := w_region
theorem r72_6 {o d s} : RG 72 6 [] o d s := w_region
theorem r72_7 {o d s} : RG 72 7 [] o d s := w_region
theorem r72_8 {o d s} : RG 72 8 [] o d s := w_region
theorem r72_9 {o d s} : RG 72 9 [] o d s := w_region
theorem r72_10 {o d s} : RG 72 10 [] o d s := w_region
theorem r72_11 {o d s} : RG 72 11 [] o d s := w_region
theorem r72_12 {o d s} : RG 72 12 [] o d s := w_region
theorem r72_13 {o d s} : RG 72 13 [] o d s := w_region
theorem r72_14 {o d s} : RG 72 14 [] o d s := w_region
theorem r72_15 {o d s} : RG 72 15 [] o d s := w_region
theorem r72_16 {o d s} : RG 72 16 [] o d s := w_region
theorem r72_17 {o d s} : RG 72 17 [] o d s := w_region
theorem r111_0 {o d s} : RG 111 0 [] o d s := w_region
theorem r111_1 {o d s} : RG 111 1 [] o d s := w_region
theorem r111_2 {o d s} : RG 111 2 [] o d s := w_region
theorem r111_3 {o d s} : RG 111 3 [] o d s := w_region
theorem r111_4 {o d s} : RG 111 4 [] o d s := w_region
theorem r111_5 {o d s} : RG 111 5 [] o d s := w_region
theorem r111_6 {o d s} : RG 111 6 [] o d s := w_region
theorem r111_7 {o d s} : RG 111 7 [] o d s := w_region
theorem r111_8 {o d s} : RG 111 8 [] o d s := w_region
theorem r111_9 {o d s} : RG 111 9 [] o d s := w_region
theorem r111_10 {o d s} : RG 111 10 [] o d s := w_region
theorem r111_11 {o d s} : RG 111 11 [] o d s := w_region
theorem r111_12 {o d s} : RG 111 12 [] o d s := w_region
theorem r111_13 {o d s} : RG 111 13 [] o d s := w_region
theorem r111_14 {o d s} : RG 111 14 [] o d s := w_region
theorem r111_15 {o d s} : RG 111 15 [] o d s := w_region
theorem r111_16 {o d s} : RG 111 16 [] o d s := w_region
theorem r111_17 {o d s} : RG 111 17 [] o d s := w_region
theorem r111_18 {o d s} : RG 111 18 [] o d s := w_region
theorem r111_19 {o d s} : RG 111 19 [] o d s := w_region
theorem r111_20 {o d s} : RG 111 20 [] o d s := w_region
theorem r111_21 {o d s} : RG 111 21 [] o d s := w_region
theorem r85_0 {o d s} : RG 85 0 [] o d s := w_region
theorem r85_1 {o d s} : RG 85 1 [] o d s := w_region
theorem r85_2 {o d s} : RG 85 2 [] o d s := w_region
theorem r85_3 {o d s} : RG 85 3 [] o d s := w_region
theorem r85_4 {o d s} : RG 85 4 [] o d s := w_region
theorem r85_5 {o d s} : RG 85 5 [] o d s := w_region
theorem r85_6 {o d s} : RG 85 6 [] o d s := w_region
theorem r85_7 {o d s} : RG 85 7 [] o d s := w_region
theorem r85_8 {o d s} : RG 85 8 [] o d s := w_region
theorem r85_9 {o d s} : RG 85 9 [] o d s := w_region
theorem r85_10 {o d s} : RG 85 10 [] o d s := w_region
theorem r85_11 {o d s} : RG 85 11 [] o d s := w_region
theorem r84_0 {o d s} : RG 84 0 [] o d s := w_region
theorem r84_1 {o d s} : RG 84 1 [] o d s := w_region
theorem r84_2 {o d s} : RG 84 2 [] o d s := w_region
theorem r84_3 {o d s} : RG 84 3 [] o d s := w_region
theorem r84_4 {o d s} : RG 84 4 [] o d s := w_region
theorem r84_5 {o d s} : RG 84 5 [] o d s := w_region
theorem r84_6 {o d s} : RG 84 6 [] o d s := w_region
theorem r84_7 {o d s} : RG 84 7 [] o d s := w_region
theorem r84_8 {o d s} : RG 84 8 [] o d s := w_region
theorem r84_9 {o d s} : RG 84 9 [] o d s := w_region
theorem r84_10 {o d s} : RG 84 10 [] o d s := w_region
theorem r70_0 {o d s} : RG 70 0 [] o d s := w_region
theorem r70_1 {o d s} : RG 70 1 [] o d s := w_region
theorem r70_2 {o d s} : RG 70 2 [] o d s := w_region
theorem r70_3 {o d s} : RG 70 3 [] o d s := w_region
theorem r70_4 {o d s} : RG 70 4 [.keep [1, 3]] o d s := w_region
theorem r70_6 {o d s} : RG 70 6 [] o d s := w_region
theorem r70_7 {o d s} : RG 70 7 [] o d s := w_region
theorem r70_5 {o d s} : RG 70 5 [] o d s := w_region
theorem r70_8 {o d s} : RG 70 8 [.keep [1, 3]] o d s := w_region
theorem r71_0 {o d s} : RG 71 0 [] o d s := w_region
theorem r71_1 {o d s} : RG 71 1 [] o d s := w_region
theorem r71_2 {o d s} : RG 71 2 [] o d s := w_region
theorem r71_3 {o d s} : RG 71 3 [] o d s := w_region
theorem r71_4 {o d s} : RG 71 4 [] o d s := w_region
theorem r71_5 {o d s} : RG 71 5 [.keep [0, 3, 4]] o d s := w_region
theorem r71_7 {o d s} : RG 71 7 [] o d s := w_region
theorem r71_8 {o d s} : RG 71 8 [] o d s := w_region
theorem r71_9 {o d s} : RG 71 9 [] o d s := w_region
theorem r71_6 {o d s} : RG 71 6 [] o d s := w_region
theorem r71_10 {o d s} : RG 71 10 [.keep [0, 3, 4]] o d s := w_region
theorem r42_0 {o d s} : RG 42 0 [] o d s := w_region
theorem r42_1 {o d s} : RG 42 1 [] o d s := w_region
theorem r42_2 {o d s} : RG 42 2 [] o d s := w_region
theorem r42_3 {o d s} : RG 42 3 [] o d s := w_region
theorem r42_4 {o d s} : RG 42 4 [] o d s := w_region
theorem r42_5 {o d s} : RG 42 5 [] o d s := w_region
theorem r42_6 {o d s} : RG 42 6 [] o d s := w_region
theorem r42_7 {o d s} : RG 42 7 [] o d s := w_region
theorem r42_8 {o d s} : RG 42 8 [] o d s := w_region
theorem r42_9 {o d s} : RG 42 9 [] o d s := w_region
theorem r42_10 {o d s} : RG 42 10 [] o d s := w_region
theorem r42_11 {o d s} : RG 42 11 [] o d s := w_region
theorem r42_12 {o d s} : RG 42 12 [] o d s := w_region
theorem r42_13 {o d s} : RG 42 13 [] o d s := w_region
theorem r42_14 {o d s} : RG 42 14 [] o d s := w_region
theorem r42_15 {o d s} : RG 42 15 [] o d s := w_region
theorem r42_16 {o d s} : RG 42 16 [] o d s := w_region
theorem r42_17 {o d s} : RG 42 17 [] o d s := w_region
theorem r42_18 {o d s} : RG 42 18 [] o d s := w_region
theorem r42_19 {o d s} : RG 42 19 [] o d s := w_region
theorem r42_20 {o d s} : RG 42 20 [] o d s := w_region
theorem r42_21 {o d s} : RG 42 21 [] o d s := w_region
theorem r42_22 {o d s} : RG 42 22 [] o d s := w_region
theorem r42_23 {o d s} : RG 42 23 [] o d s := w_region
theorem r42_24 {o d s} : RG 42 24 [] o d s := w_region
theorem r42_25 {o d s} : RG 42 25 [] o d s := w_region
theorem r42_26 {o d s} : RG 42 26 [] o d s := w_region
theorem r42_27 {o d s} : RG 42 27 [] o d s := w_region
theorem r42_28 {o d s} : RG 42 28 [] o d s := w_region
theorem r42_29 {o d s} : RG 42 29 [] o d s := w_region
theorem r76_0 {o d s} : RG 76 0 [] o d s := w_region
theorem r76_1 {o d s} : RG 76 1 [] o d s := w_region
theorem r76_2 {o d s} : RG 76 2 [] o d s := w_region
theorem r76_3 {o d s} : RG 76 3 [] o d s := w_region
theorem r76_4 {o d s} : RG 76 4 [] o d s := w_region
theorem r76_5 {o d s} : RG 76 5 [] o d s := w_region
theorem r76_6 {o d s} : RG 76 6 [] o d s := w_region
theorem r76_7 {o d s} : RG 76 7 [] o d s := w_region
theorem r76_8 {o d s} : RG 76 8 [.keep [0, 1, 5]] o d s := w_region
theorem r76_10 {o d s} : RG 76 10 [] o d s := w_region
theorem r76_11 {o d s} : RG 76 11 [] o d s := w_region
theorem r76_9 {o d s} : RG 76 9 [] o d s := w_region
theorem r76_12 {o d s} : RG 76 12 [.keep [0, 1, 5]] o d s := w_region
theorem r64_0 {o d s} : RG 64 0 [] o d s := w_region
theorem r64_1 {o d s} : RG 64 1 [] o d s := w_region
theorem r64_2 {o d s} : RG 64 2 [] o d s := w_region
theorem r64_3 {o d s} : RG 64 3 [.keep [0, 1]] o d s := w_region
theorem r64_4 {o d s} : RG 64 4 [] o d s := w_region
theorem r64_5 {o d s} : RG 64 5 [.keep [0, 1]] o d s := w_region
theorem r52_0 {o d s} : RG 52 0 [] o d s := w_region
theorem r52_1 {o d s} : RG 52 1 [] o d s := w_region
theorem r86_0 {o d s} : RG 86 0 [] o d s := w_region
theorem r86_1 {o d s} : RG 86 1 [] o d s := w_region
theorem r87_0 {o d s} : RG 87 0 [] o d s := w_region
theorem r87_1 {o d s} : RG 87 1 [] o d s := w_region
theorem r88_0 {o d s} : RG 88 0 [] o d s := w_region
theorem r88_1 {o d s} : RG 88 1 [] o d s := w_region
theorem r73_0 {o d s} : RG 73 0 [] o d s := w_region
theorem r73_1 {o d s} : RG 73 1 [] o d s := w_region
theorem r73_2 {o d s} : RG 73 2 [] o d s := w_region
theorem r73_3 {o d s} : RG 73 3 [] o d s := w_region
theorem r73_4 {o d s} : RG 73 4 [.keep [0, 3]] o d s := w_region
theorem r73_6 {o d s} : RG 73 6 [] o d s := w_region
theorem r73_7 {o d s} : RG 73 7 [] o d s := w_region
theorem r73_5 {o d s} : RG 73 5 [] o d s := w_region
theorem r73_8 {o d s} : RG 73 8 [.keep [0, 3]] o d s := w_region
theorem r61_0 {o d s} : RG 61 0 [] o d s := w_region
theorem r61_1 {o d s} : RG 61 1 [] o d s := w_region
theorem r61_2 {o d s} : RG 61 2 [] o d s := w_region
theorem r61_3 {o d s} : RG 61 3 [] o d s := w_region
theorem r61_4 {o d s} : RG 61 4 [] o d s := w_region
theorem r61_5 {o d s} : RG 61 5 [] o d s := w_region
theorem r61_6 {o d s} : RG 61 6 [] o d s := w_region
theorem r61_7 {o d s} : RG 61 7 [] o d s := w_region
theorem r61_8 {o d s} : RG 61 8 [.keep [1, 3]] o d s := w_region
theorem r61_10 {o d s} : RG 61 10 [] o d s := w_region
theorem r61_11 {o d s} : RG 61 11 [] o d s := w_region
theorem r61_9 {o d s} : RG 61 9 [] o d s := w_region
theorem r61_12 {o d s} : RG 61 12 [.keep [1, 3]] o d s := w_region
theorem r45_0 {o d s} : RG 45 0 [] o d s := w_region
theorem r45_1 {o d s} : RG 45 1 [] o d s := w_region
theorem r45_2 {o d s} : RG 45 2 [] o d s := w_region
theorem r45_3 {o d s} : RG 45 3 [.keep [1, 3, 4]] o d s := w_region
theorem r45_5 {o d s} : RG 45 5 [] o d s := w_region
theorem r45_4 {o d s} : RG 45 4 [] o d s := w_region
theorem r45_6 {o d s} : RG 45 6 [.keep [1, 3, 4]] o d s := w_region
theorem r21_0 {o d s} : RG 21 0 [] o d s := w_region
theorem r21_1 {o d s} : RG 21 1 [] o d s := w_region
theorem r21_2 {o d s} : RG 21 2 [] o d s := w_region
theorem r21_3 {o d s} : RG 21 3 [] o d s := w_region
theorem r7_0 {o d s} : RG 7 0 [] o d s := w_region
theorem r7_1 {o d s} : RG 7 1 [] o d s := w_region
theorem r7_2 {o d s} : RG 7 2 [] o d s := w_region
theorem r7_3 {o d s} : RG 7 3 [] o d s := w_region
theorem r7_4 {o d s} : RG 7 4 [] o d s := w_region
theorem r7_5 {o d s} : RG 7 5 [] o d s := w_region
theorem r7_6 {o d s} : RG 7 6 [] o d s := w_region
theorem r7_7 {o d s} : RG 7 7 [] o d s := w_region
theorem r7_8 {o d s} : RG 7 8 [] o d s := w_region
def bs := And.intro @w_seq (And.intro @ghosts_nil (And.intro @regW_some (And.intro @regY_some (And.intro @doneY_some (And.intro @regZ_some (And.intro @doneZ_some (And.intro @ops_move (And.intro @ops_assign (And.intro @ops_bin (And.intro @ops_load (And.intro @ops_indexAddr (And.intro @ops_len (And.intro @ops_store (And.intro @ops_call (And.intro @opsP_some (And.intro @opsQ_none (And.intro @opsQ_some (And.intro @opsQ_loud (And.intro @ops_nil (And.intro @doneW_some (And.intro @seqW_normal (And.intro @seqW_ret (And.intro @seqW_exit (And.intro @w_cond (And.intro @w_block (And.intro @condW_true (And.intro @condW_false (And.intro @evalO_tmp (And.intro @evalO_const (And.intro @evalO_func (And.intro @ofVal_int (And.intro @ofVal_bool (And.intro @ofVal_nil (And.intro @ofVal_str (And.intro @set8 (And.intro @getD8 (And.intro @List.set_cons_succ.{0} (And.intro @List.set_cons_zero.{0} (And.intro @List.getD_cons_succ.{0} (And.intro @List.getD_cons_zero.{0} (And.intro @binN_tmp (And.intro @binN_int (And.intro @binN_bool (And.intro @binN_str (And.intro @binD_add (And.intro @binD_sub (And.intro @binD_mul (And.intro @binD_lss (And.intro @binD_leq (And.intro @binD_gtr (And.intro @binD_geq (And.intro @binD_eql (And.intro @binD_neq (And.intro @boolD_bv (And.intro @Option.map_some.{0, 0} (And.intro @blockW_normal (And.intro @blockW_ret (And.intro @blockW_exit (And.intro @blockW_other (And.intro @Bool.false_and (And.intro @Bool.and_false (And.intro @Bool.and_true (And.intro @Bool.true_and (And.intro @Bool.not_true (And.intro @Bool.not_false (And.intro @decide_true (And.intro @decide_false (And.intro @ops_guard (And.intro @opsG_true (And.intro @opsG_false (And.intro @wantT_some (And.intro @yield_bv (And.intro @yield_undef (And.intro @putD_some (And.intro @putD_none (And.intro @beq_true' (And.intro @beq_false' (And.intro @List.getElem?_toArray.{0} (And.intro @List.getElem?_cons_succ.{0} (And.intro @List.getElem?_cons_zero.{0} (And.intro @Option.bind_some.{0, 0} (And.intro @Option.bind_none.{0, 0} (And.intro @Option.map_none.{0, 0} (And.intro @ops_pick (And.intro @List.length_cons.{0} (And.intro @List.length_nil.{0} (And.intro @List.cons_append.{0} (And.intro @List.nil_append.{0} (And.intro @ldOb_arr (And.intro @ldOb_frz (And.intro @callV_fn (And.intro @pickD_true (And.intro @pickD_false (And.intro @ops_un (And.intro @unD_not (And.intro @ops_max (And.intro @ops_min (And.intro @ops_bs (And.intro @ops_append (And.intro @ops_make (And.intro @ops_slice (And.intro @ops_extract (And.intro @ops_fieldAddr (And.intro @ops_field (And.intro @ops_build (And.intro @ops_alloc (And.intro @ops_box (And.intro @ops_index (And.intro @ops_conv (And.intro @boxD_leaf (And.intro @boxD_agg (And.intro @boxD_str (And.intro @boxD_bool (And.intro @boxD_lst (And.intro @boxD_ref (And.intro @if_true.{1} (And.intro @if_false.{1} (And.intro @evW_skip (And.intro @evW_exit (And.intro @evW_ret (And.intro @callV_func (And.intro @List.map_cons.{0, 0} (And.intro @List.map_nil.{0, 0} (@Wp_some))))))))))))))))))))))))))))))))))))))))))))))))))))))))))))))))))))))))))))))))))))))))))))))))))))))))))))))))))))))))))))
def rs48 := And.intro @r48_0 (And.intro @r48_1 (And.intro @r48_2 (And.intro @r48_3 (And.intro @r48_4 (And.intro @r48_5 (And.intro @r48_7 (And.intro @r48_8 (And.intro @r48_9 (And.intro @r48_6 (@r48_10))))))))))
def rs28 := And.intro @r28_0 (@r28_1)
def rs14 := And.intro @r14_0 (@r14_1)
def rs50 := And.intro @r50_0 (@r50_1)
def rs31 := And.intro @r31_0 (And.intro @r31_1 (And.intro @r31_2 (And.intro @r31_3 (And.intro @r31_4 (And.intro @r31_5 (And.intro @r31_6 (And.intro @r31_7 (And.intro @r31_8 (And.intro @r31_9 (And.intro @r31_10 (And.intro @r31_11 (And.intro @r31_12 (And.intro @r31_13 (And.intro @r31_14 (And.intro @r31_15 (@r31_16))))))))))))))))
def rs63 := @ghosts_nil
def rs89 := And.intro @r89_0 (@r89_1)
def rs74 := And.intro @r74_0 (@r74_1)
def rs90 := And.intro @r90_0 (@r90_1)
def rs75 := And.intro @r75_0 (@r75_1)
def rs62 := And.intro @r62_0 (And.intro @r62_1 (And.intro @r62_2 (And.intro @r62_3 (And.intro @r62_4 (And.intro @r62_5 (And.intro @r62_6 (And.intro @r62_7 (And.intro @r62_8 (And.intro @r62_9 (And.intro @r62_10 (And.intro @r62_11 (And.intro @r62_12 (And.intro @r62_13 (@r62_14))))))))))))))
def rs51 := And.intro @r51_0 (And.intro @r51_1 (And.intro @r51_2 (@r51_3)))
def rs32 := And.intro @r32_0 (@r32_1)
def rs30 := And.intro @r30_0 (And.intro @r30_1 (And.intro @r30_2 (And.intro @r30_3 (And.intro @r30_4 (And.intro @r30_5 (And.intro @r30_6 (And.intro @r30_7 (And.intro @r30_8 (@r30_9)))))))))
def rs23 := And.intro @r23_0 (And.intro @r23_1 (And.intro @r23_2 (@r23_3)))
def rs49 := And.intro @r49_0 (And.intro @r49_1 (And.intro @r49_2 (And.intro @r49_3 (And.intro @r49_4 (And.intro @r49_5 (And.intro @r49_6 (And.intro @r49_7 (@r49_8))))))))
def rs29 := And.intro @r29_0 (And.intro @r29_1 (And.intro @r29_2 (And.intro @r29_3 (@r29_4))))
def rs16 := And.intro @r16_0 (@r16_1)
def rs20 := And.intro @r20_0 (And.intro @r20_1 (And.intro @r20_2 (And.intro @r20_3 (And.intro @r20_4 (And.intro @r20_6 (And.intro @r20_7 (And.intro @r20_5 (@r20_8))))))))
def rs8 := And.intro @r8_0 (And.intro @r8_1 (And.intro @r8_2 (And.intro @r8_3 (And.intro @r8_4 (And.intro @r8_6 (And.intro @r8_7 (And.intro @r8_5 (@r8_8))))))))
def rs15 := And.intro @r15_0 (And.intro @r15_1 (And.intro @r15_2 (And.intro @r15_3 (And.intro @r15_4 (And.intro @r15_6 (And.intro @r15_7 (And.intro @r15_5 (@r15_8))))))))
def rs22 := And.intro @r22_0 (And.intro @r22_1 (And.intro @r22_2 (And.intro @r22_3 (And.intro @r22_5 (And.intro @r22_4 (@r22_6))))))
def rs60 := And.intro @r60_0 (And.intro @r60_1 (And.intro @r60_2 (And.intro @r60_3 (And.intro @r60_4 (And.intro @r60_5 (And.intro @r60_6 (@r60_7)))))))
def rs44 := And.intro @r44_0 (And.intro @r44_1 (And.intro @r44_2 (And.intro @r44_3 (And.intro @r44_4 (And.intro @r44_5 (And.intro @r44_7 (And.intro @r44_6 (@r44_8))))))))
def rs82 := And.intro @r82_0 (And.intro @r82_1 (And.intro @r82_2 (And.intro @r82_3 (And.intro @r82_4 (And.intro @r82_5 (And.intro @r82_6 (And.intro @r82_7 (And.intro @r82_8 (And.intro @r82_9 (And.intro @r82_10 (And.intro @r82_11 (And.intro @r82_12 (And.intro @r82_13 (And.intro @r82_14 (And.intro @r82_15 (And.intro @r82_16 (And.intro @r82_17 (And.intro @r82_18 (@r82_19)))))))))))))))))))
def rs110 := And.intro @r110_0 (And.intro @r110_1 (And.intro @r110_2 (And.intro @r110_3 (And.intro @r110_4 (And.intro @r110_5 (And.intro @r110_6 (@r110_7)))))))
def rs83 := And.intro @r83_0 (And.intro @r83_1 (And.intro @r83_2 (And.intro @r83_3 (And.intro @r83_4 (And.intro @r83_5 (And.intro @r83_6 (And.intro @r83_7 (And.intro @r83_8 (And.intro @r83_9 (And.intro @r83_10 (And.intro @r83_11 (And.intro @r83_12 (And.intro @r83_13 (And.intro @r83_14 (And.intro @r83_15 (And.intro @r83_16 (And.intro @r83_17 (And.intro @r83_18 (And.intro @r83_19 (And.intro @r83_20 (And.intro @r83_21 (And.intro @r83_22 (And.intro @r83_23 (And.intro @r83_24 (And.intro @r83_25 (And.intro @r83_26 (And.intro @r83_27 (And.intro @r83_28 (And.intro @r83_29 (And.intro @r83_30 (And.intro @r83_31 (And.intro @r83_32 (And.intro @r83_33 (And.intro @r83_34 (@r83_35)))))))))))))))))))))))))))))))))))
def rs72 := And.intro @r72_0 (And.intro @r72_1 (And.intro @r72_2 (And.intro @r72_3 (And.intro @r72_4 (And.intro @r72_5 (And.intro @r72_6 (And.intro @r72_7 (And.intro @r72_8 (And.intro @r72_9 (And.intro @r72_10 (And.intro @r72_11 (And.intro @r72_12 (And.intro @r72_13 (And.intro @r72_14 (And.intro @r72_15 (And.intro @r72_16 (@r72_17)))))))))))))))))
def rs111 := And.intro @r111_0 (And.intro @r111_1 (And.intro @r111_2 (And.intro @r111_3 (And.intro @r111_4 (And.intro @r111_5 (And.intro @r111_6 (And.intro @r111_7 (And.intro @r111_8 (And.intro @r111_9 (And.intro @r111_10 (And.intro @r111_11 (And.intro @r111_12 (And.intro @r111_13 (And.intro @r111_14 (And.intro @r111_15 (And.intro @r111_16 (And.intro @r111_17 (And.intro @r111_18 (And.intro @r111_19 (And.intro @r111_20 (@r111_21)))))))))))))))))))))
def rs85 := And.intro @r85_0 (And.intro @r85_1 (And.intro @r85_2 (And.intro @r85_3 (And.intro @r85_4 (And.intro @r85_5 (And.intro @r85_6 (And.intro @r85_7 (And.intro @r85_8 (And.intro @r85_9 (And.intro @r85_10 (@r85_11)))))))))))
def rs84 := And.intro @r84_0 (And.intro @r84_1 (And.intro @r84_2 (And.intro @r84_3 (And.intro @r84_4 (And.intro @r84_5 (And.intro @r84_6 (And.intro @r84_7 (And.intro @r84_8 (And.intro @r84_9 (@r84_10))))))))))
def rs70 := And.intro @r70_0 (And.intro @r70_1 (And.intro @r70_2 (And.intro @r70_3 (And.intro @r70_4 (And.intro @r70_6 (And.intro @r70_7 (And.intro @r70_5 (@r70_8))))))))
def rs71 := And.intro @r71_0 (And.intro @r71_1 (And.intro @r71_2 (And.intro @r71_3 (And.intro @r71_4 (And.intro @r71_5 (And.intro @r71_7 (And.intro @r71_8 (And.intro @r71_9 (And.intro @r71_6 (@r71_10))))))))))
def rs42 := And.intro @r42_0 (And.intro @r42_1 (And.intro @r42_2 (And.intro @r42_3 (And.intro @r42_4 (And.intro @r42_5 (And.intro @r42_6 (And.intro @r42_7 (And.intro @r42_8 (And.intro @r42_9 (And.intro @r42_10 (And.intro @r42_11 (And.intro @r42_12 (And.intro @r42_13 (And.intro @r42_14 (And.intro @r42_15 (And.intro @r42_16 (And.intro @r42_17 (And.intro @r42_18 (And.intro @r42_19 (And.intro @r42_20 (And.intro @r42_21 (And.intro @r42_22 (And.intro @r42_23 (And.intro @r42_24 (And.intro @r42_25 (And.intro @r42_26 (And.intro @r42_27 (And.intro @r42_28 (@r42_29)))))))))))))))))))))))))))))
def rs76 := And.intro @r76_0 (And.intro @r76_1 (And.intro @r76_2 (And.intro @r76_3 (And.intro @r76_4 (And.intro @r76_5 (And.intro @r76_6 (And.intro @r76_7 (And.intro @r76_8 (And.intro @r76_10 (And.intro @r76_11 (And.intro @r76_9 (@r76_12))))))))))))
def rs64 := And.intro @r64_0 (And.intro @r64_1 (And.intro @r64_2 (And.intro @r64_3 (And.intro @r64_4 (@r64_5)))))
def rs52 := And.intro @r52_0 (@r52_1)
def rs86 := And.intro @r86_0 (@r86_1)
def rs87 := And.intro @r87_0 (@r87_1)
def rs88 := And.intro @r88_0 (@r88_1)
def rs73 := And.intro @r73_0 (And.intro @r73_1 (And.intro @r73_2 (And.intro @r73_3 (And.intro @r73_4 (And.intro @r73_6 (And.intro @r73_7 (And.intro @r73_5 (@r73_8))))))))
def rs61 := And.intro @r61_0 (And.intro @r61_1 (And.intro @r61_2 (And.intro @r61_3 (And.intro @r61_4 (And.intro @r61_5 (And.intro @r61_6 (And.intro @r61_7 (And.intro @r61_8 (And.intro @r61_10 (And.intro @r61_11 (And.intro @r61_9 (@r61_12))))))))))))
def rs45 := And.intro @r45_0 (And.intro @r45_1 (And.intro @r45_2 (And.intro @r45_3 (And.intro @r45_5 (And.intro @r45_4 (@r45_6))))))
def rs21 := And.intro @r21_0 (And.intro @r21_1 (And.intro @r21_2 (@r21_3)))
def rs7 := And.intro @r7_0 (And.intro @r7_1 (And.intro @r7_2 (And.intro @r7_3 (And.intro @r7_4 (And.intro @r7_5 (And.intro @r7_6 (And.intro @r7_7 (@r7_8))))))))
theorem a29 : aggT Tryd.prog 29 = some true := by kernel_rfl
theorem z29 : szOf Tryd.prog 29 = some 4 := by kernel_rfl
theorem a27 : aggT Tryd.prog 27 = some false := by kernel_rfl
theorem u27 : Tryd.prog.underlying 27 = some (.slice 29) := Tryd.underlying27
theorem a22 : aggT Tryd.prog 22 = some false := by kernel_rfl
theorem u22 : Tryd.prog.underlying 22 = some (.slice 9) := Tryd.underlying22
theorem z9 : szOf Tryd.prog 9 = some 1 := by kernel_rfl
theorem a3 : aggT Tryd.prog 3 = some false := by kernel_rfl
theorem a9 : aggT Tryd.prog 9 = some false := by kernel_rfl
theorem z67 : szOf Tryd.prog 67 = some 6 := by kernel_rfl
theorem u9 : Tryd.prog.underlying 9 = some .string := Tryd.underlying9
theorem z3 : szOf Tryd.prog 3 = some 1 := by kernel_rfl
theorem z32 : szOf Tryd.prog 32 = some 1 := by kernel_rfl
theorem a32 : aggT Tryd.prog 32 = some false := by kernel_rfl
theorem a48 : aggT Tryd.prog 48 = some false := by kernel_rfl
theorem b9 : bytesOf Tryd.prog 9 = some 16 := by kernel_rfl
theorem zc9 : zeroCs Tryd.prog 9 = some [.v (.string ByteArray.empty)] := by kernel_rfl
theorem b29 : bytesOf Tryd.prog 29 = some 72 := by kernel_rfl
theorem zc29 : zeroCs Tryd.prog 29 = some [.v (.int .i64 (0 : Int)), .v (.string ByteArray.empty), .lst true 0 [], .lst true 0 []] := by kernel_rfl
theorem z27 : szOf Tryd.prog 27 = some 1 := by kernel_rfl
theorem varlv_4_0_4 {c0 c1 c2 c3 : Pv} : lkOb (some (.var [.p c0, .p c1, .p c2, .p c3])) 0 4 = some (.p (.agg [c0, c1, c2, c3])) := rfl
theorem faP_29_3 {id o : Nat} : fieldAddrD Tryd.prog 29 (.ptr id o) 3 = some (.ptr id (o + 3)) := by kernel_rfl
theorem varld_4_0_3 {c0 c1 c2 c3 : Dv} : ldOb (some (.var [c0, c1, c2, c3])) (0 + 3) = some c3 := rfl
theorem idxL_27 {full : Bool} {l : List Node} {i : Int} (h0 : 0 ≤ i) (h1 : i < (l.length : Int)) : idxD Tryd.prog 27 (.p (.lst full l.length (encL en_Node l))) (.p (.v (.int .i64 i))) = some (.p (.iptr (encL en_Node l) (i.toNat * 4))) := idx_lst u27 z29 (by decide) en_Node_len h0 h1
theorem lk_frz_29 {l : List Node} {i : Int} {v : Node} (h : rd l i = some v) : lkOb (some (.frz (encL en_Node l))) (i.toNat * 4) 4 = some (.p (.agg [.v (.int .i64 v.Kind), .v (.string v.Text), .lst false v.Gaps.length (encL en_str v.Gaps), .lst false v.Kids.length (encL en_Node v.Kids)])) := (lkOb_frz en_Node_len h).trans (by rw [en_Node_eq])
theorem al_29 {H : List Ob} : allocD Tryd.prog 29 H = some (.ptr H.length 0, some (H ++ [.var [iv (0 : Int), .p (.v (.string ByteArray.empty)), .p (.lst true 0 []), .p (.lst true 0 [])]])) := by kernel_rfl
theorem faP_29_2 {id o : Nat} : fieldAddrD Tryd.prog 29 (.ptr id o) 2 = some (.ptr id (o + 2)) := by kernel_rfl
theorem varld_4_0_2 {c0 c1 c2 c3 : Dv} : ldOb (some (.var [c0, c1, c2, c3])) (0 + 2) = some c2 := rfl
theorem faP_29_0 {id o : Nat} : fieldAddrD Tryd.prog 29 (.ptr id o) 0 = some (.ptr id (o + 0)) := by kernel_rfl
theorem varld_4_0_0 {c0 c1 c2 c3 : Dv} : ldOb (some (.var [c0, c1, c2, c3])) (0 + 0) = some c0 := rfl
theorem faP_29_1 {id o : Nat} : fieldAddrD Tryd.prog 29 (.ptr id o) 1 = some (.ptr id (o + 1)) := by kernel_rfl
theorem varld_4_0_1 {c0 c1 c2 c3 : Dv} : ldOb (some (.var [c0, c1, c2, c3])) (0 + 1) = some c1 := rfl
theorem idxG_68 {cs : List Pv} {o : Nat} {i : Int} (h0 : 0 ≤ i) (h1 : i < 27) : idxD Tryd.prog 68 (.p (.iptr cs o)) (.p (.v (.int .i64 i))) = some (.p (.iptr cs (o + i.toNat * 6))) := idx_iptr Tryd.underlying68 z67 (by decide) h0 h1
theorem faI_67_4 {cs : List Pv} {o : Nat} : fieldAddrD Tryd.prog 67 (.p (.iptr cs o)) 4 = some (.p (.iptr cs (o + 5))) := by kernel_rfl
theorem idxL_22 {full : Bool} {l : List ByteArray} {i : Int} (h0 : 0 ≤ i) (h1 : i < (l.length : Int)) : idxD Tryd.prog 22 (.p (.lst full l.length (encL en_str l))) (.p (.v (.int .i64 i))) = some (.p (.iptr (encL en_str l) (i.toNat * 1))) := idx_lst u22 z9 (by decide) en_str_len h0 h1
theorem ce_9_x {l : List ByteArray} {i : Int} {v : ByteArray} (h : rd l i = some v) : (encL en_str l)[i.toNat * 1]? = some (.v (.string v)) := (encL_cell en_str_len h (k := 0) (by decide)).trans (by rw [en_str_eq]; rfl)
theorem us9 : Tryd.prog.underlying 9 = some .string := Tryd.underlying9
theorem al_3 {H : List Ob} : allocD Tryd.prog 3 H = some (.ptr H.length 0, some (H ++ [.var [iv (0 : Int)]])) := by kernel_rfl
theorem sv_1_0_1 {H : List Ob} {id : Nat} {c0 : Dv} {d0 : Dv} : stdOb H id 0 d0 (some (.var [c0])) = some (H.set id (.var [d0])) := rfl
theorem al_32 {H : List Ob} : allocD Tryd.prog 32 H = some (.ptr H.length 0, some (H ++ [.var [.p (.v .nilFunc)]])) := by kernel_rfl
theorem sg_1_0_f {H : List Ob} {id : Nat} {c0 : Dv} {f0 : Fn} {l0 : List Dv} : stgOb H id 0 1 [.fn f0 l0] (some (.var [c0])) = some (H.set id (.var [.fn f0 l0])) := by simp [stgOb, setAt]
theorem varld_1_0 {c0 : Dv} : ldOb (some (.var [c0])) 0 = some c0 := rfl
theorem bs_22_0 {H : List Ob} : bsD Tryd.prog H 22 0 [] = some (.p (.lst true 0 []), none) := by kernel_rfl
theorem apn_22_22 {H : List Ob} {m : Nat} {full : Bool} {new : List Pv} : appendD Tryd.prog H #[22, 22] (.p (.lst true 0 [])) (.p (.lst full m new)) = apN H m 1 16 new := appendD_apn u22 u22 z9 b9 zc9 ⟨by decide, by decide, rfl⟩
theorem bu_29_0_1_2 {p0_0 : Int} {p1_0 : ByteArray} {p2_0f : Bool} {p2_0n : Nat} {p2_0c : List Pv} : buildD Tryd.prog 29 [(0, .p (.v (.int .i64 p0_0))), (1, .p (.v (.string p1_0))), (2, .p (.lst p2_0f p2_0n p2_0c))] = some (.p (.agg [.v (.int .i64 p0_0), .v (.string p1_0), .lst p2_0f p2_0n p2_0c, .lst true 0 []])) := by kernel_rfl
theorem sa_4_0_4 {H : List Ob} {id : Nat} {c0 c1 c2 c3 : Dv} {d0 d1 d2 d3 : Pv} : staOb H id 0 4 [d0, d1, d2, d3] (some (.var [c0, c1, c2, c3])) = some (H.set id (.var [(.p d0), (.p d1), (.p d2), (.p d3)])) := by simp [staOb, setAt]
theorem bs_27_1 {p0_0 : Int} {p0_1 : ByteArray} {p0_2f : Bool} {p0_2n : Nat} {p0_2c : List Pv} {p0_3f : Bool} {p0_3n : Nat} {p0_3c : List Pv} {H : List Ob} : bsD Tryd.prog H 27 1 [(0, .p (.agg [.v (.int .i64 p0_0), .v (.string p0_1), .lst p0_2f p0_2n p0_2c, .lst p0_3f p0_3n p0_3c]))] = some (.p (.lst true 1 [.v (.int .i64 p0_0), .v (.string p0_1), .lst false p0_2n (wks p0_2c), .lst false p0_3n (wks p0_3c)]), none) := by kernel_rfl
theorem ap_27_27 {H : List Ob} {id off esz n m : Nat} {full : Bool} {new : List Pv} : appendD Tryd.prog H #[27, 27] (.ref id off n esz) (.p (.lst full m new)) = apOb H id off n m esz 4 72 new H[id]? := appendD_ap u27 u27 z29 b29 zc29 ⟨by decide, by decide, rfl⟩
theorem sg_4_0_3_r {H : List Ob} {id : Nat} {c0 c1 c2 c3 : Dv} {i0 o0 n0 e0 : Nat} : stgOb H id (0 + 3) 1 [.ref i0 o0 n0 e0] (some (.var [c0, c1, c2, c3])) = some (H.set id (.var [c0, c1, c2, .ref i0 o0 n0 e0])) := by simp [stgOb, setAt]
theorem varlg_pppr {c0 c1 c2 : Pv} {i3 o3 n3 e3 : Nat} : lkOb (some (.var [.p c0, .p c1, .p c2, .ref i3 o3 n3 e3])) 0 4 = some (.agg [.p c0, .p c1, .p c2, .ref i3 o3 n3 e3]) := rfl
theorem sg_4_0_pppr {H : List Ob} {id : Nat} {c0 c1 c2 c3 : Dv} {d0 d1 d2 : Pv} {i3 o3 n3 e3 : Nat} : stgOb H id 0 4 [.p d0, .p d1, .p d2, .ref i3 o3 n3 e3] (some (.var [c0, c1, c2, c3])) = some (H.set id (.var [.p d0, .p d1, .p d2, .ref i3 o3 n3 e3])) := by simp [stgOb, setAt]
theorem bu_29_0_1 {p0_0 : Int} {p1_0 : ByteArray} : buildD Tryd.prog 29 [(0, .p (.v (.int .i64 p0_0))), (1, .p (.v (.string p1_0)))] = some (.p (.agg [.v (.int .i64 p0_0), .v (.string p1_0), .lst true 0 [], .lst true 0 []])) := by kernel_rfl
theorem faI_29_0 {cs : List Pv} {o : Nat} : fieldAddrD Tryd.prog 29 (.p (.iptr cs o)) 0 = some (.p (.iptr cs (o + 0))) := by kernel_rfl
theorem ce_29__0 {l : List Node} {i : Int} {v : Node} (h : rd l i = some v) : (encL en_Node l)[i.toNat * 4 + 0]? = some (.v (.int .i64 v.Kind)) := (encL_cell en_Node_len h (k := 0) (by decide)).trans (by rw [en_Node_eq]; rfl)
theorem cv_5_3 {x : Int} : convD Tryd.prog 5 3 (.p (.v (.int .u8 x))) = some (.p (.v (.int .i64 (IntKind.wrap .i64 x)))) := by kernel_rfl
end Xr

