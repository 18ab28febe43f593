/- A part of the proof: L. No conditions of its own. -/
import Derived.Test.YtcpenhffpgajoaaProg
import Derived.KernelRfl
import Derived.Test.YtcpenhffpgajoaaT
namespace Xr
open Go Go.Ev Go.Proofs
set_option linter.unusedSimpArgs false
set_option linter.unusedVariables false
set_option linter.defProp false
set_option maxRecDepth 20000
def zae (f:Func):Code:=f.body.getD .skip
def zak:Code→List Code
 | .seq a b=>zak a++zak b
 | .cond _ a b=>zak a++zak b
 | .block _ b=>zak b
 | .loop b=>b :: zak b
 | _=>[]
noncomputable abbrev sw72 (i n:Nat):Dv:=.fn (.func 72) [.ref i 0 n 2,.p (.v (typeHandle Try.prog 43))]
noncomputable instance gl:Gl:=⟨fun g=>none,fun t=>([62]:List Nat).contains t⟩
theorem im_ (t:TypeId) (h:([62]:List Nat).contains t=false:=by kernel_rfl):Gl.isMap t=false:=h
def dynOf:Nat→List (Nat×List (Nat×Nat))
 | 20=>[(17,[(2,5)])]
 | _=>[]
def lpOf:Nat→List (Nat×List (Nat×Nat))
 | 17=>[(18,[(4,13)])]
 | 20=>[(1,[(1,2)])]
 | _=>[]
def preOf:Nat→List (Nat×List Ghost)
 | 48=>[(5,[.keep [2,3,7,8]]),(10,[.keep [2,3,7,8]])]
 | 31=>[(5,[.keep [2,5,6]]),(10,[.keep [2,5,6]]),(11,[.keep [2,5,7]]),(16,[.keep [2,5,7]])]
 | 49=>[(3,[.keep [5,11,12]]),(6,[.keep [5,7,8,11,12]]),(9,[.keep [5,7,8,11,12]]),(10,[.keep [5,11,12]])]
 | 50=>[(3,[.keep [0,3,6,7]]),(7,[.keep [0,3,6,7]])]
 | 52=>[(3,[.keep [0,3,4]]),(6,[.keep [0,3,4]])]
 | 62=>[(3,[.keep [1,5,6]]),(6,[.keep [1,5,6]])]
 | 73=>[(2,[.keep [1,2,3,6]]),(3,[.keep [1,2,3,6,7]]),(5,[.keep [1,2,3,6,7]])]
 | 85=>[(2,[.keep [2,3,4,8]])]
 | 77=>[(5,[.keep [3,6,7,8,9]]),(8,[.keep [3,6,7,8,9]]),(9,[.keep [3,6,7,10]])]
 | 80=>[(3,[.keep [3,6,7]])]
 | 81=>[(3,[.keep [1,2,3,7,8]]),(4,[.keep [1,2,3,7,8,10]]),(5,[.keep [1,2,3,7,8]]),(7,[.keep [1,2,3,7,8]]),(14,[.keep [1,2,3,7,8,9]]),(18,[.keep [1,2,3,7,8,9]]),(20,[.keep [1,2,3,7,8,10]]),(24,[.keep [1,2,3,7,8]])]
 | 83=>[(3,[.keep [1,4,10,11]]),(5,[.keep [1,4,10,11],.keep [1,4,10,11]]),(7,[.keep [1,4,10,11]]),(13,[.keep [1,4,10,11],.keep [1,4,10,11]]),(15,[.keep [1,4,10,11],.keep [1,4,10,11]]),(17,[.keep [1,4,10,11]]),(21,[.keep [1,4,10,11]])]
 | 82=>[(3,[.keep [1,4,9,10],.keep [1,4,9,10]]),(5,[.keep [1,4,9,10],.keep [1,4,9,10]]),(7,[.keep [1,4,9,10]]),(11,[.keep [1,4,9,10]])]
 | 78=>[(6,[.keep [1,3,6,7,8,9]])]
 | 60=>[(3,[.keep [1,2,3,4,8,9]])]
 | 38=>[(0,[.own 0 4]),(3,[.weak [12],.keep [0,12,13,14]]),(7,[.keep [0,12,13,14]])]
 | 54=>[(3,[.weak [7],.keep [3,7,8,9]]),(7,[.keep [3,7,8,9]])]
 | 40=>[(3,[.weak [9],.keep [3,9,10,11]]),(7,[.keep [3,9,10,11]])]
 | 33=>[(0,[.own 0 1]),(5,[.weak [27],.keep [0,2,4,8,9,27,28,29]]),(11,[.keep [0,2,4,8,9,27,28,29]])]
 | 39=>[(4,[.keep [2,3,29,30]]),(9,[.keep [2,3,29,30]])]
 | 46=>[(0,[.own 0 4]),(3,[.keep [0,3,5]]),(6,[.keep [0,3,5]])]
 | 27=>[(3,[.keep [1,3,4]]),(6,[.keep [1,3,4]])]
 | 23=>[(3,[.own 3 1,.weak [0],.keep [0,3,4]]),(6,[.keep [0,3,4]])]
 | 26=>[(2,[.weak [0,1],.keep [0,1,2,3,9]]),(9,[.keep [0,1,2,3,9]])]
 | 24=>[(4,[.keep [2,3,5]]),(8,[.keep [2,3,5]])]
 | 45=>[(4,[.own 5 2,.weak [0],.keep [0,3,5,6,7]]),(10,[.keep [0,3,5,6,7]])]
 | 21=>[(6,[.weak [5,6,7,8],.keep [5,6,7,8,9]]),(7,[.keep [5,6,7,8,9,10]]),(9,[.weak [5,6,7,8],.keep [5,6,7,8,9,10]]),(10,[.keep [5,6,7,8,9,10,11]]),(13,[.weak [5,6,7,8],.keep [5,6,7,8,9,10,11]]),(17,[.keep [5,6,7,8,9]])]
 | 19=>[(4,[.weak [0,1],.keep [0,1,5]]),(8,[.keep [0,1,5]])]
 | 17=>[(19,[.vary 5])]
 | 90=>[(2,[.keep [1,2,3,4,8]])]
 | 84=>[(3,[.keep [2,4,8,9]]),(9,[.keep [2,4,8,9]])]
 | 74=>[(4,[.keep [1,4,8,9]]),(9,[.keep [1,4,8,9]]),(10,[.keep [4,8,11]]),(16,[.keep [2,4,12,13]]),(21,[.keep [2,4,12,13]]),(22,[.keep [4,12,15]]),(34,[.keep [1,2,3,4,16,17,18,19,20]]),(39,[.keep [1,2,3,4,16,17,18,19,20]])]
 | 57=>[(3,[.keep [1,2,4,5,6]]),(7,[.keep [1,2,4,5,6]]),(8,[.keep [1,2,4]]),(10,[.keep [1,2,4,5,6]]),(14,[.keep [1,2,4,5,6]])]
 | 20=>[(19,[.ownC 17 0 2])]
 | _=>[]
def A0:Ann:={ okf:=fun _=>true,keeps:=fun f=>[33,38,46,53].contains f,muts:=fun f=>[33,38,41,42,43,44,46,53,55,56,57,58,60,66,67,68,69,70,71,72,73,74,77,78,79,80,81,82,83,84,85,87,88,89,90,91].contains f,ros:=fun f=>[].contains f,loud:=fun f r=>([(20,1),(20,1)]:List (Nat×Nat)).contains (f,r),pre:=fun f r=>((preOf f).lookup r).getD [],clone:=fun f=>none,dyn:=fun f q=>(dynOf f).lookup q,lp:=fun f q=>(lpOf f).lookup q,outer:=fun f=>if f == 55 then some (.valueOf) else if f == 58 then some (.valLen) else if f == 56 then some (.swapper [(40,64,65,68,3),(36,64,65,72,43)]) else if f == 66 then some (.swap) else if f == 67 then some (.swap) else if f == 68 then some (.swap) else if f == 69 then some (.swap) else if f == 70 then some (.swap) else if f == 71 then some (.swap) else if f == 72 then some (.swap) else none }
theorem clones:zwa Try.prog A0:=fun f sz h=>by cases h
theorem zzo:ExtIs Try.prog (.swapper [(40,64,65,68,3),(36,64,65,72,43)]) (Extern.ReflectliteSwapper.swapper "internal/reflectlite" (Extern.ReflectliteValue.valueError "Swapper")):=by
 intro t f0 f1 f2 h hl w s n cap
 by_cases ht:t=40
 ·subst ht
  obtain ⟨rfl,rfl,rfl,rfl⟩:f0=64∧f1=65∧f2=68∧h=3:=by
   have:=Option.some.inj hl
   simp only [Prod.mk.injEq] at this
   exact ⟨this.1.symm,this.2.1.symm,this.2.2.1.symm,this.2.2.2.symm⟩
  match n with
  | 0=>show Sem.run _ _ _=_;kernel_rfl
  | 1=>show Sem.run _ _ _=_;kernel_rfl
  | n+2=>show Sem.run _ _ _=_;kernel_rfl
 ·by_cases ht2:t=36
  ·subst ht2
   obtain ⟨rfl,rfl,rfl,rfl⟩:f0=64∧f1=65∧f2=72∧h=43:=by
    have:=Option.some.inj hl
    simp only [Prod.mk.injEq] at this
    exact ⟨this.1.symm,this.2.1.symm,this.2.2.1.symm,this.2.2.2.symm⟩
   match n with
   | 0=>show Sem.run _ _ _=_;kernel_rfl
   | 1=>show Sem.run _ _ _=_;kernel_rfl
   | n+2=>show Sem.run _ _ _=_;kernel_rfl
  ·simp [List.lookup,show (t == 40)=false from by simpa using ht,show (t == 36)=false from by simpa using ht2] at hl
theorem exts:ExtOk Try.prog A0:=by
 intro f k h
 simp only [A0] at h
 split at h
 ·rename_i hf
  obtain rfl:=Option.some.inj h
  obtain rfl:f=55:=by simpa using hf
  exact ⟨Try.f55,_,Try.func55,by kernel_rfl,by kernel_rfl,by kernel_rfl,(by kernel_rfl:Extern.find Try.f55=some (fun args=>Extern.ReflectliteValue.unpack (args.getD 0 (.tuple #[])))),rfl⟩
 split at h
 ·rename_i hf
  obtain rfl:=Option.some.inj h
  obtain rfl:f=58:=by simpa using hf
  exact ⟨Try.f58,_,Try.func58,by kernel_rfl,by kernel_rfl,by kernel_rfl,(by kernel_rfl:Extern.find Try.f58=some (Extern.ReflectliteValue.method (Extern.ReflectliteValue.valueError "reflectlite.Value.Len" 0) Extern.ReflectliteValue.len)),rfl⟩
 split at h
 ·rename_i hf
  obtain rfl:=Option.some.inj h
  obtain rfl:f=56:=by simpa using hf
  exact ⟨Try.f56,_,Try.func56,by kernel_rfl,by kernel_rfl,by kernel_rfl,(by kernel_rfl:Extern.find Try.f56=some (Extern.ReflectliteSwapper.swapper "internal/reflectlite" (Extern.ReflectliteValue.valueError "Swapper"))),zzo⟩
 split at h
 ·rename_i hf
  obtain rfl:=Option.some.inj h
  obtain rfl:f=66:=by simpa using hf
  exact ⟨Try.f66,_,Try.func66,by kernel_rfl,by kernel_rfl,by kernel_rfl,(by kernel_rfl:Extern.find Try.f66=some (Extern.ReflectliteSwapper.swap true)),⟨true,rfl⟩⟩
 split at h
 ·rename_i hf
  obtain rfl:=Option.some.inj h
  obtain rfl:f=67:=by simpa using hf
  exact ⟨Try.f67,_,Try.func67,by kernel_rfl,by kernel_rfl,by kernel_rfl,(by kernel_rfl:Extern.find Try.f67=some (Extern.ReflectliteSwapper.swap true)),⟨true,rfl⟩⟩
 split at h
 ·rename_i hf
  obtain rfl:=Option.some.inj h
  obtain rfl:f=68:=by simpa using hf
  exact ⟨Try.f68,_,Try.func68,by kernel_rfl,by kernel_rfl,by kernel_rfl,(by kernel_rfl:Extern.find Try.f68=some (Extern.ReflectliteSwapper.swap true)),⟨true,rfl⟩⟩
 split at h
 ·rename_i hf
  obtain rfl:=Option.some.inj h
  obtain rfl:f=69:=by simpa using hf
  exact ⟨Try.f69,_,Try.func69,by kernel_rfl,by kernel_rfl,by kernel_rfl,(by kernel_rfl:Extern.find Try.f69=some (Extern.ReflectliteSwapper.swap true)),⟨true,rfl⟩⟩
 split at h
 ·rename_i hf
  obtain rfl:=Option.some.inj h
  obtain rfl:f=70:=by simpa using hf
  exact ⟨Try.f70,_,Try.func70,by kernel_rfl,by kernel_rfl,by kernel_rfl,(by kernel_rfl:Extern.find Try.f70=some (Extern.ReflectliteSwapper.swap true)),⟨true,rfl⟩⟩
 split at h
 ·rename_i hf
  obtain rfl:=Option.some.inj h
  obtain rfl:f=71:=by simpa using hf
  exact ⟨Try.f71,_,Try.func71,by kernel_rfl,by kernel_rfl,by kernel_rfl,(by kernel_rfl:Extern.find Try.f71=some (Extern.ReflectliteSwapper.swap true)),⟨true,rfl⟩⟩
 split at h
 ·rename_i hf
  obtain rfl:=Option.some.inj h
  obtain rfl:f=72:=by simpa using hf
  exact ⟨Try.f72,_,Try.func72,by kernel_rfl,by kernel_rfl,by kernel_rfl,(by kernel_rfl:Extern.find Try.f72=some (Extern.ReflectliteSwapper.swap false)),⟨false,rfl⟩⟩
 cases h
abbrev RG (f q:Nat) (g:List Ghost) (o:Array Oper) (d:Bool) (s:St):Prop:=evW Try.prog A0 f (.region q o d) s=regW Try.prog A0 (d && true) o o.toList (zaj g s)
abbrev RY (f q:Nat) (g:List Ghost) (y:List (Nat×Nat)) (o:Array Oper) (s:St):Prop:=evW Try.prog A0 f (.region q o true) s=regY Try.prog A0 (true && true) o y o.toList (zaj g s)
abbrev RZ (f q:Nat) (g:List Ghost) (y:List (Nat×Nat)) (o:Array Oper) (s:St):Prop:=evW Try.prog A0 f (.region q o true) s=regZ Try.prog A0 (true && false) o y o.toList (zaj g s)
theorem r48_0 {o d s}:RG 48 0 [] o d s:=zaa
theorem r48_1 {o d s}:RG 48 1 [] o d s:=zaa
theorem r48_2 {o d s}:RG 48 2 [] o d s:=zaa
theorem r48_3 {o d s}:RG 48 3 [] o d s:=zaa
theorem r48_4 {o d s}:RG 48 4 [] o d s:=zaa
theorem r48_5 {o d s}:RG 48 5 [.keep [2,3,7,8]] o d s:=zaa
theorem r48_7 {o d s}:RG 48 7 [] o d s:=zaa
theorem r48_8 {o d s}:RG 48 8 [] o d s:=zaa
theorem r48_9 {o d s}:RG 48 9 [] o d s:=zaa
theorem r48_6 {o d s}:RG 48 6 [] o d s:=zaa
theorem yjr {o d s}:RG 48 10 [.keep [2,3,7,8]] o d s:=zaa
theorem r30_0 {o d s}:RG 30 0 [] o d s:=zaa
theorem r30_1 {o d s}:RG 30 1 [] o d s:=zaa
theorem r31_0 {o d s}:RG 31 0 [] o d s:=zaa
theorem r31_1 {o d s}:RG 31 1 [] o d s:=zaa
theorem r31_2 {o d s}:RG 31 2 [] o d s:=zaa
theorem r31_3 {o d s}:RG 31 3 [] o d s:=zaa
theorem r31_4 {o d s}:RG 31 4 [] o d s:=zaa
theorem r31_5 {o d s}:RG 31 5 [.keep [2,5,6]] o d s:=zaa
theorem r31_7 {o d s}:RG 31 7 [] o d s:=zaa
theorem r31_8 {o d s}:RG 31 8 [] o d s:=zaa
theorem r31_9 {o d s}:RG 31 9 [] o d s:=zaa
theorem r31_6 {o d s}:RG 31 6 [] o d s:=zaa
theorem yjz {o d s}:RG 31 10 [.keep [2,5,6]] o d s:=zaa
theorem ygo {o d s}:RG 31 11 [.keep [2,5,7]] o d s:=zaa
theorem yd9 {o d s}:RG 31 13 [] o d s:=zaa
theorem yia {o d s}:RG 31 14 [] o d s:=zaa
theorem yec {o d s}:RG 31 15 [] o d s:=zaa
theorem yhj {o d s}:RG 31 12 [] o d s:=zaa
theorem yfi {o d s}:RG 31 16 [.keep [2,5,7]] o d s:=zaa
theorem r9_0 {o d s}:RG 9 0 [] o d s:=zaa
theorem r9_1 {o d s}:RG 9 1 [] o d s:=zaa
theorem r61_0 {o d s}:RG 61 0 [] o d s:=zaa
theorem r61_1 {o d s}:RG 61 1 [] o d s:=zaa
theorem r49_0 {o d s}:RG 49 0 [] o d s:=zaa
theorem r49_1 {o d s}:RG 49 1 [] o d s:=zaa
theorem r49_2 {o d s}:RG 49 2 [] o d s:=zaa
theorem r49_3 {o d s}:RG 49 3 [.keep [5,11,12]] o d s:=zaa
theorem r49_4 {o d s}:RG 49 4 [] o d s:=zaa
theorem r49_5 {o d s}:RG 49 5 [] o d s:=zaa
theorem r49_6 {o d s}:RG 49 6 [.keep [5,7,8,11,12]] o d s:=zaa
theorem r49_8 {o d s}:RG 49 8 [] o d s:=zaa
theorem r49_7 {o d s}:RG 49 7 [] o d s:=zaa
theorem r49_9 {o d s}:RG 49 9 [.keep [5,7,8,11,12]] o d s:=zaa
theorem yey {o d s}:RG 49 10 [.keep [5,11,12]] o d s:=zaa
theorem r50_0 {o d s}:RG 50 0 [] o d s:=zaa
theorem r50_1 {o d s}:RG 50 1 [] o d s:=zaa
theorem r50_2 {o d s}:RG 50 2 [] o d s:=zaa
theorem r50_3 {o d s}:RG 50 3 [.keep [0,3,6,7]] o d s:=zaa
theorem r50_4 {o d s}:RG 50 4 [] o d s:=zaa
theorem r50_5 {o d s}:RG 50 5 [] o d s:=zaa
theorem r50_6 {o d s}:RG 50 6 [] o d s:=zaa
theorem r50_7 {o d s}:RG 50 7 [.keep [0,3,6,7]] o d s:=zaa
theorem r63_0 {o d s}:RG 63 0 [] o d s:=zaa
theorem r63_1 {o d s}:RG 63 1 [] o d s:=zaa
theorem r52_0 {o d s}:RG 52 0 [] o d s:=zaa
theorem r52_1 {o d s}:RG 52 1 [] o d s:=zaa
theorem r52_2 {o d s}:RG 52 2 [] o d s:=zaa
theorem r52_3 {o d s}:RG 52 3 [.keep [0,3,4]] o d s:=zaa
theorem r52_5 {o d s}:RG 52 5 [] o d s:=zaa
theorem r52_4 {o d s}:RG 52 4 [] o d s:=zaa
theorem r52_6 {o d s}:RG 52 6 [.keep [0,3,4]] o d s:=zaa
theorem r62_0 {o d s}:RG 62 0 [] o d s:=zaa
theorem r62_1 {o d s}:RG 62 1 [] o d s:=zaa
theorem r62_2 {o d s}:RG 62 2 [] o d s:=zaa
theorem r62_3 {o d s}:RG 62 3 [.keep [1,5,6]] o d s:=zaa
theorem r62_5 {o d s}:RG 62 5 [] o d s:=zaa
theorem r62_4 {o d s}:RG 62 4 [] o d s:=zaa
theorem r62_6 {o d s}:RG 62 6 [.keep [1,5,6]] o d s:=zaa
theorem r51_0 {o d s}:RG 51 0 [] o d s:=zaa
theorem r51_1 {o d s}:RG 51 1 [] o d s:=zaa
theorem r76_0 {o d s}:RG 76 0 [] o d s:=zaa
theorem r76_1 {o d s}:RG 76 1 [] o d s:=zaa
theorem r76_2 {o d s}:RG 76 2 [] o d s:=zaa
theorem r76_3 {o d s}:RG 76 3 [] o d s:=zaa
theorem r76_4 {o d s}:RG 76 4 [] o d s:=zaa
theorem r76_5 {o d s}:RG 76 5 [] o d s:=zaa
theorem r76_6 {o d s}:RG 76 6 [] o d s:=zaa
theorem r76_7 {o d s}:RG 76 7 [] o d s:=zaa
theorem r76_8 {o d s}:RG 76 8 [] o d s:=zaa
theorem r76_9 {o d s}:RG 76 9 [] o d s:=zaa
theorem yfv {o d s}:RG 76 10 [] o d s:=zaa
theorem r59_0 {o d s}:RG 59 0 [] o d s:=zaa
theorem r59_1 {o d s}:RG 59 1 [] o d s:=zaa
theorem r59_2 {o d s}:RG 59 2 [] o d s:=zaa
theorem r44_0 {o d s}:RG 44 0 [] o d s:=zaa
theorem r44_1 {o d s}:RG 44 1 [] o d s:=zaa
theorem r73_0 {o d s}:RG 73 0 [] o d s:=zaa
theorem r73_1 {o d s}:RG 73 1 [] o d s:=zaa
theorem r73_2 {o d s}:RG 73 2 [.keep [1,2,3,6]] o d s:=zaa
theorem r73_4 {o d s}:RG 73 4 [] o d s:=zaa
theorem r73_5 {o d s}:RG 73 5 [.keep [1,2,3,6,7]] o d s:=zaa
theorem r73_7 {o d s}:RG 73 7 [] o d s:=zaa
theorem r73_6 {o d s}:RG 73 6 [] o d s:=zaa
theorem r73_3 {o d s}:RG 73 3 [.keep [1,2,3,6,7]] o d s:=zaa
theorem r85_0 {o d s}:RG 85 0 [] o d s:=zaa
theorem r85_1 {o d s}:RG 85 1 [] o d s:=zaa
theorem r85_2 {o d s}:RG 85 2 [.keep [2,3,4,8]] o d s:=zaa
theorem r85_3 {o d s}:RG 85 3 [] o d s:=zaa
theorem r85_4 {o d s}:RG 85 4 [] o d s:=zaa
theorem r85_5 {o d s}:RG 85 5 [] o d s:=zaa
theorem r85_6 {o d s}:RG 85 6 [] o d s:=zaa
theorem r85_7 {o d s}:RG 85 7 [] o d s:=zaa
theorem r85_8 {o d s}:RG 85 8 [] o d s:=zaa
theorem r77_0 {o d s}:RG 77 0 [] o d s:=zaa
theorem r77_1 {o d s}:RG 77 1 [] o d s:=zaa
theorem r77_2 {o d s}:RG 77 2 [] o d s:=zaa
theorem r77_3 {o d s}:RG 77 3 [] o d s:=zaa
theorem r77_4 {o d s}:RG 77 4 [] o d s:=zaa
theorem r77_5 {o d s}:RG 77 5 [.keep [3,6,7,8,9]] o d s:=zaa
theorem r77_7 {o d s}:RG 77 7 [] o d s:=zaa
theorem r77_6 {o d s}:RG 77 6 [] o d s:=zaa
theorem r77_8 {o d s}:RG 77 8 [.keep [3,6,7,8,9]] o d s:=zaa
theorem r77_9 {o d s}:RG 77 9 [.keep [3,6,7,10]] o d s:=zaa
theorem yd2 {o d s}:RG 77 11 [] o d s:=zaa
theorem ygg {o d s}:RG 77 12 [] o d s:=zaa
theorem yij {o d s}:RG 77 10 [] o d s:=zaa
theorem r91_0 {o d s}:RG 91 0 [] o d s:=zaa
theorem r91_1 {o d s}:RG 91 1 [] o d s:=zaa
theorem r91_2 {o d s}:RG 91 2 [] o d s:=zaa
theorem r91_3 {o d s}:RG 91 3 [] o d s:=zaa
theorem r91_4 {o d s}:RG 91 4 [] o d s:=zaa
theorem r89_0 {o d s}:RG 89 0 [] o d s:=zaa
theorem r89_1 {o d s}:RG 89 1 [] o d s:=zaa
theorem r89_2 {o d s}:RG 89 2 [] o d s:=zaa
theorem r89_3 {o d s}:RG 89 3 [] o d s:=zaa
theorem r89_4 {o d s}:RG 89 4 [] o d s:=zaa
theorem r88_0 {o d s}:RG 88 0 [] o d s:=zaa
theorem r88_1 {o d s}:RG 88 1 [] o d s:=zaa
theorem r79_0 {o d s}:RG 79 0 [] o d s:=zaa
theorem r79_1 {o d s}:RG 79 1 [] o d s:=zaa
theorem r79_2 {o d s}:RG 79 2 [] o d s:=zaa
theorem r79_3 {o d s}:RG 79 3 [] o d s:=zaa
theorem r79_4 {o d s}:RG 79 4 [] o d s:=zaa
theorem r79_5 {o d s}:RG 79 5 [] o d s:=zaa
theorem r79_6 {o d s}:RG 79 6 [] o d s:=zaa
theorem r79_7 {o d s}:RG 79 7 [] o d s:=zaa
theorem r79_8 {o d s}:RG 79 8 [] o d s:=zaa
theorem r79_9 {o d s}:RG 79 9 [] o d s:=zaa
theorem ygp {o d s}:RG 79 10 [] o d s:=zaa
theorem yiy {o d s}:RG 79 11 [] o d s:=zaa
theorem yf5 {o d s}:RG 79 12 [] o d s:=zaa
theorem yik {o d s}:RG 79 14 [] o d s:=zaa
theorem yfy {o d s}:RG 79 15 [] o d s:=zaa
theorem yh5 {o d s}:RG 79 16 [] o d s:=zaa
theorem ye0 {o d s}:RG 79 17 [] o d s:=zaa
theorem yfq {o d s}:RG 79 13 [] o d s:=zaa
theorem r80_0 {o d s}:RG 80 0 [] o d s:=zaa
theorem r80_1 {o d s}:RG 80 1 [] o d s:=zaa
theorem r80_2 {o d s}:RG 80 2 [] o d s:=zaa
theorem r80_3 {o d s}:RG 80 3 [.keep [3,6,7]] o d s:=zaa
theorem r80_4 {o d s}:RG 80 4 [] o d s:=zaa
theorem r80_5 {o d s}:RG 80 5 [] o d s:=zaa
theorem r80_6 {o d s}:RG 80 6 [] o d s:=zaa
theorem r81_0 {o d s}:RG 81 0 [] o d s:=zaa
theorem r81_1 {o d s}:RG 81 1 [] o d s:=zaa
theorem r81_2 {o d s}:RG 81 2 [] o d s:=zaa
theorem r81_3 {o d s}:RG 81 3 [.keep [1,2,3,7,8]] o d s:=zaa
theorem r81_5 {o d s}:RG 81 5 [.keep [1,2,3,7,8]] o d s:=zaa
theorem r81_6 {o d s}:RG 81 6 [] o d s:=zaa
theorem r81_7 {o d s}:RG 81 7 [.keep [1,2,3,7,8]] o d s:=zaa
theorem r81_8 {o d s}:RG 81 8 [] o d s:=zaa
theorem r81_9 {o d s}:RG 81 9 [] o d s:=zaa
theorem yhr {o d s}:RG 81 10 [] o d s:=zaa
theorem yko {o d s}:RG 81 11 [] o d s:=zaa
theorem yfx {o d s}:RG 81 12 [] o d s:=zaa
theorem yg1 {o d s}:RG 81 13 [] o d s:=zaa
theorem ygr {o d s}:RG 81 14 [.keep [1,2,3,7,8,9]] o d s:=zaa
theorem yi2 {o d s}:RG 81 16 [] o d s:=zaa
theorem ydz {o d s}:RG 81 17 [] o d s:=zaa
theorem yj9 {o d s}:RG 81 15 [] o d s:=zaa
theorem yjy {o d s}:RG 81 18 [.keep [1,2,3,7,8,9]] o d s:=zaa
theorem yfa {o d s}:RG 81 19 [] o d s:=zaa
theorem yig {o d s}:RG 81 20 [.keep [1,2,3,7,8,10]] o d s:=zaa
theorem yh7 {o d s}:RG 81 22 [] o d s:=zaa
theorem yh8 {o d s}:RG 81 23 [] o d s:=zaa
theorem yev {o d s}:RG 81 21 [] o d s:=zaa
theorem r81_4 {o d s}:RG 81 4 [.keep [1,2,3,7,8,10]] o d s:=zaa
theorem ygt {o d s}:RG 81 24 [.keep [1,2,3,7,8]] o d s:=zaa
theorem r83_0 {o d s}:RG 83 0 [] o d s:=zaa
theorem r83_1 {o d s}:RG 83 1 [] o d s:=zaa
theorem r83_2 {o d s}:RG 83 2 [] o d s:=zaa
theorem r83_3 {o d s}:RG 83 3 [.keep [1,4,10,11]] o d s:=zaa
theorem r83_4 {o d s}:RG 83 4 [] o d s:=zaa
theorem r83_5 {o d s}:RG 83 5 [.keep [1,4,10,11],.keep [1,4,10,11]] o d s:=zaa
theorem r83_6 {o d s}:RG 83 6 [] o d s:=zaa
theorem r83_7 {o d s}:RG 83 7 [.keep [1,4,10,11]] o d s:=zaa
theorem r83_8 {o d s}:RG 83 8 [] o d s:=zaa
theorem r83_9 {o d s}:RG 83 9 [] o d s:=zaa
theorem yeb {o d s}:RG 83 10 [] o d s:=zaa
theorem yjv {o d s}:RG 83 11 [] o d s:=zaa
theorem yja {o d s}:RG 83 12 [] o d s:=zaa
theorem yhw {o d s}:RG 83 13 [.keep [1,4,10,11],.keep [1,4,10,11]] o d s:=zaa
theorem yft {o d s}:RG 83 14 [] o d s:=zaa
theorem ye7 {o d s}:RG 83 15 [.keep [1,4,10,11],.keep [1,4,10,11]] o d s:=zaa
theorem ye4 {o d s}:RG 83 16 [] o d s:=zaa
theorem ykd {o d s}:RG 83 17 [.keep [1,4,10,11]] o d s:=zaa
theorem yfz {o d s}:RG 83 18 [] o d s:=zaa
theorem yep {o d s}:RG 83 19 [] o d s:=zaa
theorem yf9 {o d s}:RG 83 20 [] o d s:=zaa
theorem ydy {o d s}:RG 83 21 [.keep [1,4,10,11]] o d s:=zaa
theorem yi9 {o d s}:RG 83 22 [] o d s:=zaa
theorem r82_0 {o d s}:RG 82 0 [] o d s:=zaa
theorem r82_1 {o d s}:RG 82 1 [] o d s:=zaa
theorem r82_2 {o d s}:RG 82 2 [] o d s:=zaa
theorem r82_3 {o d s}:RG 82 3 [.keep [1,4,9,10],.keep [1,4,9,10]] o d s:=zaa
theorem r82_4 {o d s}:RG 82 4 [] o d s:=zaa
theorem r82_5 {o d s}:RG 82 5 [.keep [1,4,9,10],.keep [1,4,9,10]] o d s:=zaa
theorem r82_6 {o d s}:RG 82 6 [] o d s:=zaa
theorem r82_7 {o d s}:RG 82 7 [.keep [1,4,9,10]] o d s:=zaa
theorem r82_8 {o d s}:RG 82 8 [] o d s:=zaa
theorem r82_9 {o d s}:RG 82 9 [] o d s:=zaa
theorem yd8 {o d s}:RG 82 10 [] o d s:=zaa
theorem ye8 {o d s}:RG 82 11 [.keep [1,4,9,10]] o d s:=zaa
theorem r86_0 {o d s}:RG 86 0 [] o d s:=zaa
theorem r86_1 {o d s}:RG 86 1 [] o d s:=zaa
theorem r86_2 {o d s}:RG 86 2 [] o d s:=zaa
theorem r87_0 {o d s}:RG 87 0 [] o d s:=zaa
theorem r87_1 {o d s}:RG 87 1 [] o d s:=zaa
theorem r87_2 {o d s}:RG 87 2 [] o d s:=zaa
theorem r87_3 {o d s}:RG 87 3 [] o d s:=zaa
theorem r87_4 {o d s}:RG 87 4 [] o d s:=zaa
theorem r78_0 {o d s}:RG 78 0 [] o d s:=zaa
theorem r78_1 {o d s}:RG 78 1 [] o d s:=zaa
theorem r78_2 {o d s}:RG 78 2 [] o d s:=zaa
theorem r78_3 {o d s}:RG 78 3 [] o d s:=zaa
theorem r78_4 {o d s}:RG 78 4 [] o d s:=zaa
theorem r78_5 {o d s}:RG 78 5 [] o d s:=zaa
theorem r78_6 {o d s}:RG 78 6 [.keep [1,3,6,7,8,9]] o d s:=zaa
theorem r78_8 {o d s}:RG 78 8 [] o d s:=zaa
theorem r78_9 {o d s}:RG 78 9 [] o d s:=zaa
theorem yio {o d s}:RG 78 10 [] o d s:=zaa
theorem ye3 {o d s}:RG 78 11 [] o d s:=zaa
theorem r78_7 {o d s}:RG 78 7 [] o d s:=zaa
theorem r60_0 {o d s}:RG 60 0 [] o d s:=zaa
theorem r60_1 {o d s}:RG 60 1 [] o d s:=zaa
theorem r60_2 {o d s}:RG 60 2 [] o d s:=zaa
theorem r60_3 {o d s}:RG 60 3 [.keep [1,2,3,4,8,9]] o d s:=zaa
theorem r60_4 {o d s}:RG 60 4 [] o d s:=zaa
theorem r60_5 {o d s}:RG 60 5 [] o d s:=zaa
theorem r60_6 {o d s}:RG 60 6 [] o d s:=zaa
theorem r60_7 {o d s}:RG 60 7 [] o d s:=zaa
theorem r60_8 {o d s}:RG 60 8 [] o d s:=zaa
theorem r60_9 {o d s}:RG 60 9 [] o d s:=zaa
theorem ykf {o d s}:RG 60 10 [] o d s:=zaa
theorem yki {o d s}:RG 60 11 [] o d s:=zaa
theorem yj4 {o d s}:RG 60 12 [] o d s:=zaa
theorem ygh {o d s}:RG 60 13 [] o d s:=zaa
theorem yhd {o d s}:RG 60 14 [] o d s:=zaa
theorem yd4 {o d s}:RG 60 15 [] o d s:=zaa
theorem ygm {o d s}:RG 60 16 [] o d s:=zaa
theorem yfk {o d s}:RG 60 17 [] o d s:=zaa
theorem yj7 {o d s}:RG 60 18 [] o d s:=zaa
theorem yi7 {o d s}:RG 60 19 [] o d s:=zaa
theorem yg3 {o d s}:RG 60 20 [] o d s:=zaa
theorem ygy {o d s}:RG 60 21 [] o d s:=zaa
theorem yic {o d s}:RG 60 22 [] o d s:=zaa
theorem yfg {o d s}:RG 60 23 [] o d s:=zaa
theorem ykl {o d s}:RG 60 24 [] o d s:=zaa
theorem ykq {o d s}:RG 60 25 [] o d s:=zaa
theorem ygj {o d s}:RG 60 26 [] o d s:=zaa
theorem yhu {o d s}:RG 60 27 [] o d s:=zaa
theorem yes {o d s}:RG 60 28 [] o d s:=zaa
theorem yjl {o d s}:RG 60 29 [] o d s:=zaa
theorem ygk {o d s}:RG 60 30 [] o d s:=zaa
theorem ygn {o d s}:RG 60 31 [] o d s:=zaa
theorem r43_0 {o d s}:RG 43 0 [] o d s:=zaa
theorem r43_1 {o d s}:RG 43 1 [] o d s:=zaa
theorem r43_2 {o d s}:RG 43 2 [] o d s:=zaa
theorem r43_3 {o d s}:RG 43 3 [] o d s:=zaa
theorem r43_4 {o d s}:RG 43 4 [] o d s:=zaa
theorem r38_0 {o d s}:RG 38 0 [.own 0 4] o d s:=zaa
theorem r38_1 {o d s}:RG 38 1 [] o d s:=zaa
theorem r38_2 {o d s}:RG 38 2 [] o d s:=zaa
theorem r38_3 {o d s}:RG 38 3 [.weak [12],.keep [0,12,13,14]] o d s:=zaa
theorem r38_4 {o d s}:RG 38 4 [] o d s:=zaa
theorem r38_5 {o d s}:RG 38 5 [] o d s:=zaa
theorem r38_6 {o d s}:RG 38 6 [] o d s:=zaa
theorem r38_7 {o d s}:RG 38 7 [.keep [0,12,13,14]] o d s:=zaa
theorem r54_0 {o d s}:RG 54 0 [] o d s:=zaa
theorem r54_1 {o d s}:RG 54 1 [] o d s:=zaa
theorem r54_2 {o d s}:RG 54 2 [] o d s:=zaa
theorem r54_3 {o d s}:RG 54 3 [.weak [7],.keep [3,7,8,9]] o d s:=zaa
theorem r54_4 {o d s}:RG 54 4 [] o d s:=zaa
theorem r54_5 {o d s}:RG 54 5 [] o d s:=zaa
theorem r54_6 {o d s}:RG 54 6 [] o d s:=zaa
theorem r54_7 {o d s}:RG 54 7 [.keep [3,7,8,9]] o d s:=zaa
theorem r40_0 {o d s}:RG 40 0 [] o d s:=zaa
theorem r40_1 {o d s}:RG 40 1 [] o d s:=zaa
theorem r40_2 {o d s}:RG 40 2 [] o d s:=zaa
theorem r40_3 {o d s}:RG 40 3 [.weak [9],.keep [3,9,10,11]] o d s:=zaa
theorem r40_4 {o d s}:RG 40 4 [] o d s:=zaa
theorem r40_5 {o d s}:RG 40 5 [] o d s:=zaa
theorem r40_6 {o d s}:RG 40 6 [] o d s:=zaa
theorem r40_7 {o d s}:RG 40 7 [.keep [3,9,10,11]] o d s:=zaa
theorem r34_0 {o d s}:RG 34 0 [] o d s:=zaa
theorem r34_1 {o d s}:RG 34 1 [] o d s:=zaa
theorem r33_0 {o d s}:RG 33 0 [.own 0 1] o d s:=zaa
theorem r33_1 {o d s}:RG 33 1 [] o d s:=zaa
theorem r33_2 {o d s}:RG 33 2 [] o d s:=zaa
theorem r33_3 {o d s}:RG 33 3 [] o d s:=zaa
theorem r33_4 {o d s}:RG 33 4 [] o d s:=zaa
theorem r33_5 {o d s}:RG 33 5 [.weak [27],.keep [0,2,4,8,9,27,28,29]] o d s:=zaa
theorem r33_6 {o d s}:RG 33 6 [] o d s:=zaa
theorem r33_7 {o d s}:RG 33 7 [] o d s:=zaa
theorem r33_8 {o d s}:RG 33 8 [] o d s:=zaa
theorem r33_9 {o d s}:RG 33 9 [] o d s:=zaa
theorem yeu {o d s}:RG 33 10 [] o d s:=zaa
theorem yfh {o d s}:RG 33 11 [.keep [0,2,4,8,9,27,28,29]] o d s:=zaa
theorem yj2 {o d s}:RG 33 12 [] o d s:=zaa
theorem yeq {o d s}:RG 33 13 [] o d s:=zaa
theorem r12_0 {o d s}:RG 12 0 [] o d s:=zaa
theorem r12_1 {o d s}:RG 12 1 [] o d s:=zaa
theorem r12_2 {o d s}:RG 12 2 [] o d s:=zaa
theorem r39_0 {o d s}:RG 39 0 [] o d s:=zaa
theorem r39_1 {o d s}:RG 39 1 [] o d s:=zaa
theorem r39_2 {o d s}:RG 39 2 [] o d s:=zaa
theorem r39_3 {o d s}:RG 39 3 [] o d s:=zaa
theorem r39_4 {o d s}:RG 39 4 [.keep [2,3,29,30]] o d s:=zaa
theorem r39_5 {o d s}:RG 39 5 [] o d s:=zaa
theorem r39_6 {o d s}:RG 39 6 [] o d s:=zaa
theorem r39_7 {o d s}:RG 39 7 [] o d s:=zaa
theorem r39_8 {o d s}:RG 39 8 [] o d s:=zaa
theorem r39_9 {o d s}:RG 39 9 [.keep [2,3,29,30]] o d s:=zaa
theorem r46_0 {o d s}:RG 46 0 [.own 0 4] o d s:=zaa
theorem r46_1 {o d s}:RG 46 1 [] o d s:=zaa
theorem r46_2 {o d s}:RG 46 2 [] o d s:=zaa
theorem r46_3 {o d s}:RG 46 3 [.keep [0,3,5]] o d s:=zaa
theorem r46_5 {o d s}:RG 46 5 [] o d s:=zaa
theorem r46_4 {o d s}:RG 46 4 [] o d s:=zaa
theorem r46_6 {o d s}:RG 46 6 [.keep [0,3,5]] o d s:=zaa
theorem r22_0 {o d s}:RG 22 0 [] o d s:=zaa
theorem r22_1 {o d s}:RG 22 1 [] o d s:=zaa
theorem r22_2 {o d s}:RG 22 2 [] o d s:=zaa
theorem r27_0 {o d s}:RG 27 0 [] o d s:=zaa
theorem r27_1 {o d s}:RG 27 1 [] o d s:=zaa
theorem r27_2 {o d s}:RG 27 2 [] o d s:=zaa
theorem r27_3 {o d s}:RG 27 3 [.keep [1,3,4]] o d s:=zaa
theorem r27_5 {o d s}:RG 27 5 [] o d s:=zaa
theorem r27_4 {o d s}:RG 27 4 [] o d s:=zaa
theorem r27_6 {o d s}:RG 27 6 [.keep [1,3,4]] o d s:=zaa
theorem r23_0 {o d s}:RG 23 0 [] o d s:=zaa
theorem r23_1 {o d s}:RG 23 1 [] o d s:=zaa
theorem r23_2 {o d s}:RG 23 2 [] o d s:=zaa
theorem r23_3 {o d s}:RG 23 3 [.own 3 1,.weak [0],.keep [0,3,4]] o d s:=zaa
theorem r23_5 {o d s}:RG 23 5 [] o d s:=zaa
theorem r23_4 {o d s}:RG 23 4 [] o d s:=zaa
theorem r23_6 {o d s}:RG 23 6 [.keep [0,3,4]] o d s:=zaa
theorem r25_0 {o d s}:RG 25 0 [] o d s:=zaa
theorem r25_1 {o d s}:RG 25 1 [] o d s:=zaa
theorem r26_0 {o d s}:RG 26 0 [] o d s:=zaa
theorem r26_1 {o d s}:RG 26 1 [] o d s:=zaa
theorem r26_2 {o d s}:RG 26 2 [.weak [0,1],.keep [0,1,2,3,9]] o d s:=zaa
theorem r26_4 {o d s}:RG 26 4 [] o d s:=zaa
theorem r26_5 {o d s}:RG 26 5 [] o d s:=zaa
theorem r26_6 {o d s}:RG 26 6 [] o d s:=zaa
theorem r26_7 {o d s}:RG 26 7 [] o d s:=zaa
theorem r26_8 {o d s}:RG 26 8 [] o d s:=zaa
theorem r26_3 {o d s}:RG 26 3 [] o d s:=zaa
theorem r26_9 {o d s}:RG 26 9 [.keep [0,1,2,3,9]] o d s:=zaa
theorem r24_0 {o d s}:RG 24 0 [] o d s:=zaa
theorem r24_1 {o d s}:RG 24 1 [] o d s:=zaa
theorem r24_2 {o d s}:RG 24 2 [] o d s:=zaa
theorem r24_3 {o d s}:RG 24 3 [] o d s:=zaa
theorem r24_4 {o d s}:RG 24 4 [.keep [2,3,5]] o d s:=zaa
theorem r24_6 {o d s}:RG 24 6 [] o d s:=zaa
theorem r24_7 {o d s}:RG 24 7 [] o d s:=zaa
theorem r24_5 {o d s}:RG 24 5 [] o d s:=zaa
theorem r24_8 {o d s}:RG 24 8 [.keep [2,3,5]] o d s:=zaa
theorem r45_0 {o d s}:RG 45 0 [] o d s:=zaa
theorem r45_1 {o d s}:RG 45 1 [] o d s:=zaa
theorem r45_2 {o d s}:RG 45 2 [] o d s:=zaa
theorem r45_3 {o d s}:RG 45 3 [] o d s:=zaa
theorem r45_4 {o d s}:RG 45 4 [.own 5 2,.weak [0],.keep [0,3,5,6,7]] o d s:=zaa
theorem r45_6 {o d s}:RG 45 6 [] o d s:=zaa
theorem r45_7 {o d s}:RG 45 7 [] o d s:=zaa
theorem r45_8 {o d s}:RG 45 8 [] o d s:=zaa
theorem r45_9 {o d s}:RG 45 9 [] o d s:=zaa
theorem r45_5 {o d s}:RG 45 5 [] o d s:=zaa
theorem yd6 {o d s}:RG 45 10 [.keep [0,3,5,6,7]] o d s:=zaa
theorem yiw {o d s}:RG 45 11 [] o d s:=zaa
theorem yff {o d s}:RG 45 12 [] o d s:=zaa
theorem r21_0 {o d s}:RG 21 0 [] o d s:=zaa
theorem r21_1 {o d s}:RG 21 1 [] o d s:=zaa
theorem r21_2 {o d s}:RG 21 2 [] o d s:=zaa
theorem r21_3 {o d s}:RG 21 3 [] o d s:=zaa
theorem r21_4 {o d s}:RG 21 4 [] o d s:=zaa
theorem r21_5 {o d s}:RG 21 5 [] o d s:=zaa
theorem r21_6 {o d s}:RG 21 6 [.weak [5,6,7,8],.keep [5,6,7,8,9]] o d s:=zaa
theorem r21_8 {o d s}:RG 21 8 [] o d s:=zaa
theorem r21_9 {o d s}:RG 21 9 [.weak [5,6,7,8],.keep [5,6,7,8,9,10]] o d s:=zaa
theorem yfj {o d s}:RG 21 11 [] o d s:=zaa
theorem yjf {o d s}:RG 21 12 [] o d s:=zaa
theorem ygz {o d s}:RG 21 13 [.weak [5,6,7,8],.keep [5,6,7,8,9,10,11]] o d s:=zaa
theorem yd3 {o d s}:RG 21 15 [] o d s:=zaa
theorem yfr {o d s}:RG 21 16 [] o d s:=zaa
theorem yjj {o d s}:RG 21 14 [] o d s:=zaa
theorem yjq {o d s}:RG 21 10 [.keep [5,6,7,8,9,10,11]] o d s:=zaa
theorem r21_7 {o d s}:RG 21 7 [.keep [5,6,7,8,9,10]] o d s:=zaa
theorem yd5 {o d s}:RG 21 17 [.keep [5,6,7,8,9]] o d s:=zaa
theorem r19_0 {o d s}:RG 19 0 [] o d s:=zaa
theorem r19_1 {o d s}:RG 19 1 [] o d s:=zaa
theorem r19_2 {o d s}:RG 19 2 [] o d s:=zaa
theorem r19_3 {o d s}:RG 19 3 [] o d s:=zaa
theorem r19_4 {o d s}:RG 19 4 [.weak [0,1],.keep [0,1,5]] o d s:=zaa
theorem r19_6 {o d s}:RG 19 6 [] o d s:=zaa
theorem r19_7 {o d s}:RG 19 7 [] o d s:=zaa
theorem r19_5 {o d s}:RG 19 5 [] o d s:=zaa
theorem r19_8 {o d s}:RG 19 8 [.keep [0,1,5]] o d s:=zaa
theorem r5_0 {o d s}:RG 5 0 [] o d s:=zaa
theorem r5_1 {o d s}:RG 5 1 [] o d s:=zaa
theorem r5_2 {o d s}:RG 5 2 [] o d s:=zaa
theorem r5_3 {o d s}:RG 5 3 [] o d s:=zaa
def bs:=And.intro @w_seq (And.intro @z0m (And.intro @z16 (And.intro @z47 (And.intro @zqw (And.intro @z5n (And.intro @zre (And.intro @z81 (And.intro @z0n (And.intro @ybp (And.intro @z9y (And.intro @zsb (And.intro @yb0 (And.intro @z5q (And.intro @yaa (And.intro @z2u (And.intro @z4b (And.intro @ztg (And.intro @z0v (And.intro @yc5 (And.intro @zy9 (And.intro @zwr (And.intro @z6y (And.intro @z5l (And.intro @yg9 (And.intro @ydp (And.intro @zzw (And.intro @zvv (And.intro @z2v (And.intro @zvy (And.intro @zzn (And.intro @z46 (And.intro @zzm (And.intro @z3m (And.intro @z3j (And.intro @set8 (And.intro @getD8 (And.intro @List.set_cons_succ.{0} (And.intro @List.set_cons_zero.{0} (And.intro @List.getD_cons_succ.{0} (And.intro @List.getD_cons_zero.{0} (And.intro @z57 (And.intro @z6f (And.intro @z1v (And.intro @z6u (And.intro @z85 (And.intro @z6z (And.intro @z7h (And.intro @z9t (And.intro @z7u (And.intro @z7c (And.intro @z7z (And.intro @z7o (And.intro @z8w (And.intro @z6p (And.intro @Option.map_some.{0,0} (And.intro @zsm (And.intro @z0e (And.intro @zvk (And.intro @ztj (And.intro @Bool.false_and (And.intro @Bool.and_false (And.intro @Bool.and_true (And.intro @Bool.true_and (And.intro @Bool.not_true (And.intro @Bool.not_false (And.intro @decide_true (And.intro @decide_false (And.intro @z3q (And.intro @z3h (And.intro @zzs (And.intro @zz3 (And.intro @z53 (And.intro @zvg (And.intro @z4v (And.intro @z1i (And.intro @z0u (And.intro @zy7 (And.intro @List.getElem?_toArray.{0} (And.intro @List.getElem?_cons_succ.{0} (And.intro @List.getElem?_cons_zero.{0} (And.intro @Option.bind_some.{0,0} (And.intro @Option.bind_none.{0,0} (And.intro @Option.map_none.{0,0} (And.intro @z9b (And.intro @List.length_cons.{0} (And.intro @List.length_nil.{0} (And.intro @List.cons_append.{0} (And.intro @List.nil_append.{0} (And.intro @zos (And.intro @z9a (And.intro @z70 (And.intro @zz4 (And.intro @zvt (And.intro @yit (And.intro @ydx (And.intro @ydq (And.intro @ycf (And.intro @ykh (And.intro @zzd (And.intro @z87 (And.intro @z1l (And.intro @zv7 (And.intro @zta (And.intro @z1t (And.intro @z1m (And.intro @z4k (And.intro @yc7 (And.intro @z2z (And.intro @yab (And.intro @z2g (And.intro @z9f (And.intro @z7s (And.intro @z5d (And.intro @z9p (And.intro @z6d (And.intro @if_true.{1} (And.intro @if_false.{1} (And.intro @zye (And.intro @zyo (And.intro @z2k (And.intro @zzv (And.intro @List.map_cons.{0,0} (And.intro @List.map_nil.{0,0} (And.intro @ycs (And.intro @ycd (And.intro @ycu (And.intro @z6o (And.intro @z9n (And.intro @yeo (And.intro @yis (And.intro @yb7 (And.intro @ydi (And.intro @ydh (And.intro @ycq (And.intro @z77 (And.intro @z7f (And.intro @Bool.not_not (@z44))))))))))))))))))))))))))))))))))))))))))))))))))))))))))))))))))))))))))))))))))))))))))))))))))))))))))))))))))))))))))))))))))))))))))
abbrev J:Dv:=.junk
def ens:=And.intro @Option.getD_some.{0} (And.intro @List.append_nil.{0} (And.intro @List.nil_append.{0} (And.intro @List.cons_append.{0} (And.intro @List.getD_cons_zero.{0} (And.intro @List.getD_cons_succ.{0} (And.intro @List.length_cons.{0} (And.intro @List.length_nil.{0} (And.intro @List.replicate_succ.{0} (@List.replicate_zero.{0})))))))))
def rs48:=And.intro @r48_0 (And.intro @r48_1 (And.intro @r48_2 (And.intro @r48_3 (And.intro @r48_4 (And.intro @r48_5 (And.intro @r48_7 (And.intro @r48_8 (And.intro @r48_9 (And.intro @r48_6 (@yjr))))))))))
def rs30:=And.intro @r30_0 (@r30_1)
def rs31:=And.intro @r31_0 (And.intro @r31_1 (And.intro @r31_2 (And.intro @r31_3 (And.intro @r31_4 (And.intro @r31_5 (And.intro @r31_7 (And.intro @r31_8 (And.intro @r31_9 (And.intro @r31_6 (And.intro @yjz (And.intro @ygo (And.intro @yd9 (And.intro @yia (And.intro @yec (And.intro @yhj (@yfi))))))))))))))))
def rs9:=And.intro @r9_0 (@r9_1)
def rs61:=And.intro @r61_0 (@r61_1)
def rs49:=And.intro @r49_0 (And.intro @r49_1 (And.intro @r49_2 (And.intro @r49_3 (And.intro @r49_4 (And.intro @r49_5 (And.intro @r49_6 (And.intro @r49_8 (And.intro @r49_7 (And.intro @r49_9 (@yey))))))))))
def rs50:=And.intro @r50_0 (And.intro @r50_1 (And.intro @r50_2 (And.intro @r50_3 (And.intro @r50_4 (And.intro @r50_5 (And.intro @r50_6 (@r50_7)))))))
def rs63:=And.intro @r63_0 (@r63_1)
def rs52:=And.intro @r52_0 (And.intro @r52_1 (And.intro @r52_2 (And.intro @r52_3 (And.intro @r52_5 (And.intro @r52_4 (@r52_6))))))
def rs62:=And.intro @r62_0 (And.intro @r62_1 (And.intro @r62_2 (And.intro @r62_3 (And.intro @r62_5 (And.intro @r62_4 (@r62_6))))))
def rs51:=And.intro @r51_0 (@r51_1)
def rs76:=And.intro @r76_0 (And.intro @r76_1 (And.intro @r76_2 (And.intro @r76_3 (And.intro @r76_4 (And.intro @r76_5 (And.intro @r76_6 (And.intro @r76_7 (And.intro @r76_8 (And.intro @r76_9 (@yfv))))))))))
def rs59:=And.intro @r59_0 (And.intro @r59_1 (@r59_2))
def rs44:=And.intro @r44_0 (@r44_1)
def rs73:=And.intro @r73_0 (And.intro @r73_1 (And.intro @r73_2 (And.intro @r73_4 (And.intro @r73_5 (And.intro @r73_7 (And.intro @r73_6 (@r73_3)))))))
def rs85:=And.intro @r85_0 (And.intro @r85_1 (And.intro @r85_2 (And.intro @r85_3 (And.intro @r85_4 (And.intro @r85_5 (And.intro @r85_6 (And.intro @r85_7 (@r85_8))))))))
def rs77:=And.intro @r77_0 (And.intro @r77_1 (And.intro @r77_2 (And.intro @r77_3 (And.intro @r77_4 (And.intro @r77_5 (And.intro @r77_7 (And.intro @r77_6 (And.intro @r77_8 (And.intro @r77_9 (And.intro @yd2 (And.intro @ygg (@yij))))))))))))
def rs91:=And.intro @r91_0 (And.intro @r91_1 (And.intro @r91_2 (And.intro @r91_3 (@r91_4))))
def rs89:=And.intro @r89_0 (And.intro @r89_1 (And.intro @r89_2 (And.intro @r89_3 (@r89_4))))
def rs88:=And.intro @r88_0 (@r88_1)
def rs79:=And.intro @r79_0 (And.intro @r79_1 (And.intro @r79_2 (And.intro @r79_3 (And.intro @r79_4 (And.intro @r79_5 (And.intro @r79_6 (And.intro @r79_7 (And.intro @r79_8 (And.intro @r79_9 (And.intro @ygp (And.intro @yiy (And.intro @yf5 (And.intro @yik (And.intro @yfy (And.intro @yh5 (And.intro @ye0 (@yfq)))))))))))))))))
def rs80:=And.intro @r80_0 (And.intro @r80_1 (And.intro @r80_2 (And.intro @r80_3 (And.intro @r80_4 (And.intro @r80_5 (@r80_6))))))
def rs81:=And.intro @r81_0 (And.intro @r81_1 (And.intro @r81_2 (And.intro @r81_3 (And.intro @r81_5 (And.intro @r81_6 (And.intro @r81_7 (And.intro @r81_8 (And.intro @r81_9 (And.intro @yhr (And.intro @yko (And.intro @yfx (And.intro @yg1 (And.intro @ygr (And.intro @yi2 (And.intro @ydz (And.intro @yj9 (And.intro @yjy (And.intro @yfa (And.intro @yig (And.intro @yh7 (And.intro @yh8 (And.intro @yev (And.intro @r81_4 (@ygt))))))))))))))))))))))))
def rs83:=And.intro @r83_0 (And.intro @r83_1 (And.intro @r83_2 (And.intro @r83_3 (And.intro @r83_4 (And.intro @r83_5 (And.intro @r83_6 (And.intro @r83_7 (And.intro @r83_8 (And.intro @r83_9 (And.intro @yeb (And.intro @yjv (And.intro @yja (And.intro @yhw (And.intro @yft (And.intro @ye7 (And.intro @ye4 (And.intro @ykd (And.intro @yfz (And.intro @yep (And.intro @yf9 (And.intro @ydy (@yi9))))))))))))))))))))))
def rs82:=And.intro @r82_0 (And.intro @r82_1 (And.intro @r82_2 (And.intro @r82_3 (And.intro @r82_4 (And.intro @r82_5 (And.intro @r82_6 (And.intro @r82_7 (And.intro @r82_8 (And.intro @r82_9 (And.intro @yd8 (@ye8)))))))))))
def rs86:=And.intro @r86_0 (And.intro @r86_1 (@r86_2))
def rs87:=And.intro @r87_0 (And.intro @r87_1 (And.intro @r87_2 (And.intro @r87_3 (@r87_4))))
def rs78:=And.intro @r78_0 (And.intro @r78_1 (And.intro @r78_2 (And.intro @r78_3 (And.intro @r78_4 (And.intro @r78_5 (And.intro @r78_6 (And.intro @r78_8 (And.intro @r78_9 (And.intro @yio (And.intro @ye3 (@r78_7)))))))))))
def rs60:=And.intro @r60_0 (And.intro @r60_1 (And.intro @r60_2 (And.intro @r60_3 (And.intro @r60_4 (And.intro @r60_5 (And.intro @r60_6 (And.intro @r60_7 (And.intro @r60_8 (And.intro @r60_9 (And.intro @ykf (And.intro @yki (And.intro @yj4 (And.intro @ygh (And.intro @yhd (And.intro @yd4 (And.intro @ygm (And.intro @yfk (And.intro @yj7 (And.intro @yi7 (And.intro @yg3 (And.intro @ygy (And.intro @yic (And.intro @yfg (And.intro @ykl (And.intro @ykq (And.intro @ygj (And.intro @yhu (And.intro @yes (And.intro @yjl (And.intro @ygk (@ygn)))))))))))))))))))))))))))))))
def rs43:=And.intro @r43_0 (And.intro @r43_1 (And.intro @r43_2 (And.intro @r43_3 (@r43_4))))
def rs38:=And.intro @r38_0 (And.intro @r38_1 (And.intro @r38_2 (And.intro @r38_3 (And.intro @r38_4 (And.intro @r38_5 (And.intro @r38_6 (@r38_7)))))))
def rs54:=And.intro @r54_0 (And.intro @r54_1 (And.intro @r54_2 (And.intro @r54_3 (And.intro @r54_4 (And.intro @r54_5 (And.intro @r54_6 (@r54_7)))))))
def rs40:=And.intro @r40_0 (And.intro @r40_1 (And.intro @r40_2 (And.intro @r40_3 (And.intro @r40_4 (And.intro @r40_5 (And.intro @r40_6 (@r40_7)))))))
def rs34:=And.intro @r34_0 (@r34_1)
def rs33:=And.intro @r33_0 (And.intro @r33_1 (And.intro @r33_2 (And.intro @r33_3 (And.intro @r33_4 (And.intro @r33_5 (And.intro @r33_6 (And.intro @r33_7 (And.intro @r33_8 (And.intro @r33_9 (And.intro @yeu (And.intro @yfh (And.intro @yj2 (@yeq)))))))))))))
def rs12:=And.intro @r12_0 (And.intro @r12_1 (@r12_2))
def rs39:=And.intro @r39_0 (And.intro @r39_1 (And.intro @r39_2 (And.intro @r39_3 (And.intro @r39_4 (And.intro @r39_5 (And.intro @r39_6 (And.intro @r39_7 (And.intro @r39_8 (@r39_9)))))))))
def rs46:=And.intro @r46_0 (And.intro @r46_1 (And.intro @r46_2 (And.intro @r46_3 (And.intro @r46_5 (And.intro @r46_4 (@r46_6))))))
def rs22:=And.intro @r22_0 (And.intro @r22_1 (@r22_2))
def rs27:=And.intro @r27_0 (And.intro @r27_1 (And.intro @r27_2 (And.intro @r27_3 (And.intro @r27_5 (And.intro @r27_4 (@r27_6))))))
def rs23:=And.intro @r23_0 (And.intro @r23_1 (And.intro @r23_2 (And.intro @r23_3 (And.intro @r23_5 (And.intro @r23_4 (@r23_6))))))
def rs25:=And.intro @r25_0 (@r25_1)
def rs26:=And.intro @r26_0 (And.intro @r26_1 (And.intro @r26_2 (And.intro @r26_4 (And.intro @r26_5 (And.intro @r26_6 (And.intro @r26_7 (And.intro @r26_8 (And.intro @r26_3 (@r26_9)))))))))
def rs24:=And.intro @r24_0 (And.intro @r24_1 (And.intro @r24_2 (And.intro @r24_3 (And.intro @r24_4 (And.intro @r24_6 (And.intro @r24_7 (And.intro @r24_5 (@r24_8))))))))
def rs45:=And.intro @r45_0 (And.intro @r45_1 (And.intro @r45_2 (And.intro @r45_3 (And.intro @r45_4 (And.intro @r45_6 (And.intro @r45_7 (And.intro @r45_8 (And.intro @r45_9 (And.intro @r45_5 (And.intro @yd6 (And.intro @yiw (@yff))))))))))))
def rs21:=And.intro @r21_0 (And.intro @r21_1 (And.intro @r21_2 (And.intro @r21_3 (And.intro @r21_4 (And.intro @r21_5 (And.intro @r21_6 (And.intro @r21_8 (And.intro @r21_9 (And.intro @yfj (And.intro @yjf (And.intro @ygz (And.intro @yd3 (And.intro @yfr (And.intro @yjj (And.intro @yjq (And.intro @r21_7 (@yd5)))))))))))))))))
def rs19:=And.intro @r19_0 (And.intro @r19_1 (And.intro @r19_2 (And.intro @r19_3 (And.intro @r19_4 (And.intro @r19_6 (And.intro @r19_7 (And.intro @r19_5 (@r19_8))))))))
def rs5:=And.intro @r5_0 (And.intro @r5_1 (And.intro @r5_2 (@r5_3)))
theorem a25:aggT Try.prog 25=some true:=by kernel_rfl
theorem z25:szOf Try.prog 25=some 4:=by kernel_rfl
theorem a23:aggT Try.prog 23=some false:=by kernel_rfl
theorem u23:Try.prog.underlying 23=some (.slice 25):=Try.underlying23
theorem a9:aggT Try.prog 9=some false:=by kernel_rfl
theorem u9:Try.prog.underlying 9=some .string:=Try.underlying9
theorem a22:aggT Try.prog 22=some false:=by kernel_rfl
theorem u22:Try.prog.underlying 22=some (.slice 9):=Try.underlying22
theorem z9:szOf Try.prog 9=some 1:=by kernel_rfl
theorem a50:aggT Try.prog 50=some false:=by kernel_rfl
theorem z50:szOf Try.prog 50=some 1:=by kernel_rfl
theorem z78:szOf Try.prog 78=some 3:=by kernel_rfl
theorem a78:aggT Try.prog 78=some true:=by kernel_rfl
theorem u40:Try.prog.underlying 40=some (.slice 3):=Try.underlying40
theorem z3:szOf Try.prog 3=some 1:=by kernel_rfl
theorem a84:aggT Try.prog 84=some true:=by kernel_rfl
theorem z84:szOf Try.prog 84=some 2:=by kernel_rfl
theorem a64:aggT Try.prog 64=some false:=by kernel_rfl
theorem a40:aggT Try.prog 40=some false:=by kernel_rfl
theorem a3:aggT Try.prog 3=some false:=by kernel_rfl
theorem a80:aggT Try.prog 80=some false:=by kernel_rfl
theorem u36:Try.prog.underlying 36=some (.slice 43):=Try.underlying36
theorem z43:szOf Try.prog 43=some 2:=by kernel_rfl
theorem a36:aggT Try.prog 36=some false:=by kernel_rfl
theorem a43:aggT Try.prog 43=some true:=by kernel_rfl
theorem z105:szOf Try.prog 105=some 1:=by kernel_rfl
theorem a105:aggT Try.prog 105=some false:=by kernel_rfl
theorem b25:bytesOf Try.prog 25=some 72:=by kernel_rfl
theorem zc25:zey Try.prog 25=some [.v (.int .i64 (0:Int)),.v (.string ByteArray.empty),.lst true 0 [],.lst true 0 []]:=by kernel_rfl
theorem b3:bytesOf Try.prog 3=some 8:=by kernel_rfl
theorem zc3:zey Try.prog 3=some [.v (.int .i64 (0:Int))]:=by kernel_rfl
theorem u29:Try.prog.underlying 29=some (.slice 50):=Try.underlying29
theorem b50:bytesOf Try.prog 50=some 8:=by kernel_rfl
theorem zc50:zey Try.prog 50=some [.v (.int .u64 (0:Int))]:=by kernel_rfl
theorem z40:szOf Try.prog 40=some 1:=by kernel_rfl
theorem u65:Try.prog.underlying 65=some (.slice 4):=Try.underlying65
theorem z4:szOf Try.prog 4=some 1:=by kernel_rfl
theorem a4:aggT Try.prog 4=some false:=by kernel_rfl
theorem b4:bytesOf Try.prog 4=some 1:=by kernel_rfl
theorem zc4:zey Try.prog 4=some [.v (.bool false)]:=by kernel_rfl
theorem z36:szOf Try.prog 36=some 1:=by kernel_rfl
theorem b43:bytesOf Try.prog 43=some 16:=by kernel_rfl
theorem zc43:zey Try.prog 43=some [.v (.int .i64 (0:Int)),.v (.int .i64 (0:Int))]:=by kernel_rfl
theorem zck {c0 c1 c2 c3:Pv}:lkOb (some (.var [.p c0,.p c1,.p c2,.p c3])) 0 4=some (.p (.agg [c0,c1,c2,c3])):=rfl
theorem zhb {id o:Nat}:zge Try.prog 25 (.ptr id o) 3=some (.ptr id (o+3)):=by kernel_rfl
theorem ze0 {c0 c1 c2 c3:Dv}:ldOb (some (.var [c0,c1,c2,c3])) (0+3)=some c3:=rfl
theorem zhe {full:Bool}{l:List Node}{i:Int} (h0:0≤i) (h1:i<(l.length:Int)):idxD Try.prog 23 (.p (.lst full l.length (encL en_Node l))) (.p (.v (.int .i64 i)))=some (.p (.iptr (encL en_Node l) (ato i 4))):=znz u23 z25 (by decide) zfu h0 h1
theorem zfd {l:List Node}{i:Int}{v:Node} (h:rd l i=some v):lkOb (some (.frz (encL en_Node l))) (ato i 4) 4=some (.p (.agg [.v (.int .i64 v.Kind),.v (.string v.Text),.lst false v.Gaps.length (encL zeh v.Gaps),.lst false v.Kids.length (encL en_Node v.Kids)])):=(zr8 zfu h).trans (by rw [zeg])
theorem zoz {id o:Nat}:zge Try.prog 25 (.ptr id o) 1=some (.ptr id (o+1)):=by kernel_rfl
theorem zkq {c0 c1 c2 c3:Dv}:ldOb (some (.var [c0,c1,c2,c3])) (0+1)=some c1:=rfl
theorem z67 {id o:Nat}:zge Try.prog 25 (.ptr id o) 2=some (.ptr id (o+2)):=by kernel_rfl
theorem zwf {c0 c1 c2 c3:Dv}:ldOb (some (.var [c0,c1,c2,c3])) (0+2)=some c2:=rfl
theorem ybr {full:Bool}{l:List ByteArray}{i:Int} (h0:0≤i) (h1:i<(l.length:Int)):idxD Try.prog 22 (.p (.lst full l.length (encL zeh l))) (.p (.v (.int .i64 i)))=some (.p (.iptr (encL zeh l) (ato i 1))):=znz u22 z9 (by decide) zru h0 h1
theorem yjk {l:List ByteArray}{i:Int}{v:ByteArray} (h:rd l i=some v):(encL zeh l)[ato i 1]?=some (.v (.string v)):=(zhx zru h (k:=0) (by decide)).trans (by rw [z2b];rfl)
theorem z1c {p0_0:Int}{p1_0:Int}:ztx Try.prog 89 [(0,.p (.v (.int .u64 p0_0))),(1,.p (.v (.int .u64 p1_0)))]=some (.p (.agg [.v (.int .u64 p0_0),.v (.int .u64 p1_0)])):=by kernel_rfl
theorem zqr {c0 c1 i v:Int} (h:rd [c0,c1] i=some v):zrm Try.prog 89 (.p (.agg [.v (.int .u64 c0),.v (.int .u64 c1)])) (.p (.v (.int .i64 i)))=some (.p (.v (.int .u64 v))):=z0g (l:=[c0,c1]) Try.underlying89 a50 z50 rfl h
theorem zsy {x:Int}:convD Try.prog 3 87 (.p (.v (.int .i64 x)))=some (.p (.v (.int .u64 (IntKind.wrap .u64 x)))):=by kernel_rfl
theorem zvw {x:Int}:convD Try.prog 50 5 (.p (.v (.int .u64 x)))=some (.p (.v (.int .u8 (IntKind.wrap .u8 x)))):=by kernel_rfl
theorem z3k {x:Int}:convD Try.prog 5 50 (.p (.v (.int .u8 x)))=some (.p (.v (.int .u64 (IntKind.wrap .u64 x)))):=by kernel_rfl
noncomputable abbrev sw68 (i n:Nat):Dv:=.fn (.func 68) [.ref i 0 n 1,.p (.v (typeHandle Try.prog 3))]
theorem al_78 {H:List Ob}:zl3 Try.prog 78 H=some (.ptr H.length 0,some (H++[.var [.p (.v (.pointer none)),.p (.v (.pointer none)),.p (.v (.int .u64 (0:Int)))]])):=by kernel_rfl
theorem zrr {H:List Ob}{id:Nat}{c0 c1 c2:Dv}{d0 d2:Pv}{i1 o1:Nat}:stgOb H id 0 3 [.p d0,.ptr i1 o1,.p d2] (some (.var [c0,c1,c2]))=some (H.set id (.var [.p d0,.ptr i1 o1,.p d2])):=by simp [stgOb,setAt]
theorem zxe {f0:Fn}{l0:List Dv}{f1:Fn}{l1:List Dv}:ztx Try.prog 84 [(0,.fn f0 l0),(1,.fn f1 l1)]=some (.agg [.fn f0 l0,.fn f1 l1]):=by kernel_rfl
theorem zuo {c0:Pv}{c2:Pv}{i1 o1:Nat}:lkOb (some (.var [.p c0,.ptr i1 o1,.p c2])) 0 3=some (.agg [.p c0,.ptr i1 o1,.p c2]):=rfl
theorem zjy {f0:Fn}{l0:List Dv}{f1:Fn}{l1:List Dv}:lkOb (some (.var [.fn f0 l0,.fn f1 l1])) 0 2=some (.agg [.fn f0 l0,.fn f1 l1]):=rfl
theorem zix {id o:Nat}:zge Try.prog 84 (.ptr id o) 0=some (.ptr id (o+0)):=by kernel_rfl
theorem zft {c0 c1:Dv}:ldOb (some (.var [c0,c1])) (0+0)=some c0:=rfl
theorem zlh {c0:Dv}:ldOb (some (.var [c0])) 0=some c0:=rfl
theorem z0x {id m:Nat}{i:Int} (h0:0≤i) (h1:i<(m:Int)):idxD Try.prog 40 (.ref id 0 m 1) (.p (.v (.int .i64 i)))=some (.ptr id (ato i 1)):=zf0 u40 z3 (by decide) h0 h1
theorem z2l {l:List Int}{i:Int}{v:Int} (h:rd l i=some v):(encL zad l)[ato i 1]?=some (.v (.int .i64 v)):=(zhx zfz h (k:=0) (by decide)).trans (by rw [zii];rfl)
theorem zwv {full:Bool}{l:List Int}{i:Int} (h0:0≤i) (h1:i<(l.length:Int)):idxD Try.prog 40 (.p (.lst full l.length (encL zad l))) (.p (.v (.int .i64 i)))=some (.p (.iptr (encL zad l) (ato i 1))):=znz u40 z3 (by decide) zfz h0 h1
theorem zhv {id o:Nat}:zge Try.prog 84 (.ptr id o) 1=some (.ptr id (o+1)):=by kernel_rfl
theorem zfg {c0 c1:Dv}:ldOb (some (.var [c0,c1])) (0+1)=some c1:=rfl
theorem ztv {x0 x1:Int}{o0:List Int}{r:List Int} (h:swapL x0 x1 o0=some r):callW Try.prog A0 68 [iv x0,iv x1,.ref 0 0 o0.length 1,.p (.v (typeHandle Try.prog 3))] [.arr (encL zad o0)]=some (.p (.tup []),[.arr (encL zad r)]):=zve rfl (by kernel_rfl) z3 a3 (fun x=>⟨_,rfl,rfl⟩) rfl h
theorem z5u {x:Int}:convD Try.prog 87 3 (.p (.v (.int .u64 x)))=some (.p (.v (.int .i64 (IntKind.wrap .i64 x)))):=by kernel_rfl
theorem yg5 {x:Int}:convD Try.prog 5 3 (.p (.v (.int .u8 x)))=some (.p (.v (.int .i64 (IntKind.wrap .i64 x)))):=by kernel_rfl
theorem yb5 {id m:Nat}{i:Int} (h0:0≤i) (h1:i<(m:Int)):idxD Try.prog 36 (.ref id 0 m 2) (.p (.v (.int .i64 i)))=some (.ptr id (ato i 2)):=zf0 u36 z43 (by decide) h0 h1
theorem zxl {id o:Nat}:zge Try.prog 43 (.ptr id o) 0=some (.ptr id (o+0)):=by kernel_rfl
theorem zsr {l:List Pair}{i:Int}{v:Pair} (h:rd l i=some v):(encL zac l)[ato i 2+0]?=some (.v (.int .i64 v.Old)):=(zhx zds h (k:=0) (by decide)).trans (by rw [zdt];rfl)
theorem zn1 {x0 x1:Int}{o0:List Pair}{r:List Pair} (h:swapL x0 x1 o0=some r):callW Try.prog A0 72 [iv x0,iv x1,.ref 0 0 o0.length 2,.p (.v (typeHandle Try.prog 43))] [.arr (encL zac o0)]=some (.p (.tup []),[.arr (encL zac r)]):=zz7 rfl (by kernel_rfl) z43 a43 zds rfl h
theorem al_3 {H:List Ob}:zl3 Try.prog 3 H=some (.ptr H.length 0,some (H++[.var [iv (0:Int)]])):=by kernel_rfl
theorem zr7 {H:List Ob}{id:Nat}{c0:Dv}{d0:Dv}:stdOb H id 0 d0 (some (.var [c0]))=some (H.set id (.var [d0])):=rfl
theorem ya5 {c0 c1:Pv}:znc (.p (.tup [c0,c1])) 0=some (.p c0):=rfl
theorem yah {c0 c1:Pv}:znc (.p (.tup [c0,c1])) 1=some (.p c1):=rfl
theorem z54 {x:Int}:convD Try.prog 3 105 (.p (.v (.int .i64 x)))=some (.p (.v (.int .u64 (IntKind.wrap .u64 x)))):=by kernel_rfl
theorem ye1 {H:List Ob}:zl3 Try.prog 105 H=some (.ptr H.length 0,some (H++[.var [.p (.v (.int .u64 (0:Int)))]])):=by kernel_rfl
theorem zsh {p0_0:Int}{p0_1:ByteArray}{p0_2f:Bool}{p0_2n:Nat}{p0_2c:List Pv}{p0_3f:Bool}{p0_3n:Nat}{p0_3c:List Pv}{H:List Ob}:bsD Try.prog H 23 1 [(0,.p (.agg [.v (.int .i64 p0_0),.v (.string p0_1),.lst p0_2f p0_2n p0_2c,.lst p0_3f p0_3n p0_3c]))]=some (.p (.lst true 1 [.v (.int .i64 p0_0),.v (.string p0_1),.lst false p0_2n (wks p0_2c),.lst false p0_3n (wks p0_3c)]),none):=by kernel_rfl
theorem zoq {H:List Ob}{id off esz n m:Nat}{full:Bool}{new:List Pv}:zer Try.prog H #[23,23] (.ref id off n esz) (.p (.lst full m new))=apOb H id off n m esz 4 72 new H[id]?:=zi7 u23 u23 z25 b25 zc25 ⟨by decide,by decide,rfl⟩
theorem al_25 {H:List Ob}:zl3 Try.prog 25 H=some (.ptr H.length 0,some (H++[.var [iv (0:Int),.p (.v (.string ByteArray.empty)),.p (.lst true 0 []),.p (.lst true 0 [])]])):=by kernel_rfl
theorem zlk {H:List Ob}{id:Nat}{c0 c1 c2 c3:Dv}{d0 d1 d2 d3:Pv}:staOb H id 0 4 [d0,d1,d2,d3] (some (.var [c0,c1,c2,c3]))=some (H.set id (.var [(.p d0),(.p d1),(.p d2),(.p d3)])):=by simp [staOb,setAt]
theorem mk_40 {H:List Ob}{n:Int} (h0:0≤n) (h1:n*8≤140737488355328):makeD Try.prog H 40 (.p (.v (.int .i64 n))) (.p (.v (.int .i64 n)))=some (.ref H.length 0 (List.replicate n.toNat ((0:Int))).length 1,H++[.arr (encL zad (List.replicate n.toNat ((0:Int))))]):=zxg u40 z3 b3 (by rw [zii];exact zc3) ⟨by decide,by decide,zfz _⟩ h0 h1
theorem ycw {H:List Ob}{id:Nat}{l:List Int}{i:Int}{v:Int}{p:Int} (h:rd l i=some v):stdOb H id (ato i 1) (.p (.v (.int .i64 p))) (some (.arr (encL zad l)))=some (H.set id (.arr (encL zad (l.set i.toNat p)))):=zlw zfz h (by decide) (by rw [zii,zii];rfl)
theorem z0r {p0_0:Int}{H:List Ob}:bsD Try.prog H 29 1 [(0,.p (.v (.int .u64 p0_0)))]=some (.p (.lst true 1 [.v (.int .u64 p0_0)]),none):=by kernel_rfl
theorem zx9 {H:List Ob}{id off esz n m:Nat}{full:Bool}{new:List Pv}:zer Try.prog H #[29,29] (.ref id off n esz) (.p (.lst full m new))=apOb H id off n m esz 1 8 new H[id]?:=zi7 u29 u29 z50 b50 zc50 ⟨by decide,by decide,rfl⟩
theorem zop {id o:Nat}:zge Try.prog 25 (.ptr id o) 0=some (.ptr id (o+0)):=by kernel_rfl
theorem zkr {c0 c1 c2 c3:Dv}:ldOb (some (.var [c0,c1,c2,c3])) (0+0)=some c0:=rfl
theorem z3u {x:Int}:convD Try.prog 3 50 (.p (.v (.int .i64 x)))=some (.p (.v (.int .u64 (IntKind.wrap .u64 x)))):=by kernel_rfl
theorem zma {c0 c1:Dv}:znc (.tup [c0,c1]) 0=some c0:=rfl
theorem zmi {c0 c1:Dv}:znc (.tup [c0,c1]) 1=some c1:=rfl
theorem z4z {id m:Nat}{i:Int} (h0:0≤i) (h1:i<(m:Int)):idxD Try.prog 29 (.ref id 0 m 1) (.p (.v (.int .i64 i)))=some (.ptr id (ato i 1)):=zf0 u29 z50 (by decide) h0 h1
theorem zyy {H:List Ob}{id:Nat}{l:List Int}{i:Int}{v:Int}{p:Int} (h:rd l i=some v):stdOb H id (ato i 1) (.p (.v (.int .u64 p))) (some (.arr (encL zbl l)))=some (H.set id (.arr (encL zbl (l.set i.toNat p)))):=zlw zi0 h (by decide) (by rw [zi9,zi9];rfl)
theorem z1o {l:List Int}{i:Int}{v:Int} (h:rd l i=some v):(encL zbl l)[ato i 1]?=some (.v (.int .u64 v)):=(zhx zi0 h (k:=0) (by decide)).trans (by rw [zi9];rfl)
theorem z4h {full:Bool}{l:List Int}{i:Int} (h0:0≤i) (h1:i<(l.length:Int)):idxD Try.prog 29 (.p (.lst full l.length (encL zbl l))) (.p (.v (.int .i64 i)))=some (.p (.iptr (encL zbl l) (ato i 1))):=znz u29 z50 (by decide) zi0 h0 h1
theorem yc9 {p0_0:Int}{H:List Ob}:bsD Try.prog H 40 1 [(0,.p (.v (.int .i64 p0_0)))]=some (.p (.lst true 1 [.v (.int .i64 p0_0)]),none):=by kernel_rfl
theorem z93 {H:List Ob}{id off esz n m:Nat}{full:Bool}{new:List Pv}:zer Try.prog H #[40,40] (.ref id off n esz) (.p (.lst full m new))=apOb H id off n m esz 1 8 new H[id]?:=zi7 u40 u40 z3 b3 zc3 ⟨by decide,by decide,rfl⟩
theorem zwn {full:Bool}{l:List Pair}{i:Int} (h0:0≤i) (h1:i<(l.length:Int)):idxD Try.prog 36 (.p (.lst full l.length (encL zac l))) (.p (.v (.int .i64 i)))=some (.p (.iptr (encL zac l) (ato i 2))):=znz u36 z43 (by decide) zds h0 h1
theorem z97 {cs:List Pv}{o:Nat}:zge Try.prog 43 (.p (.iptr cs o)) 1=some (.p (.iptr cs (o+1))):=by kernel_rfl
theorem z73 {l:List Pair}{i:Int}{v:Pair} (h:rd l i=some v):(encL zac l)[ato i 2+1]?=some (.v (.int .i64 v.New)):=(zhx zds h (k:=1) (by decide)).trans (by rw [zdt];rfl)
theorem zxy {cs:List Pv}{o:Nat}:zge Try.prog 43 (.p (.iptr cs o)) 0=some (.p (.iptr cs (o+0))):=by kernel_rfl
theorem z2d {p0_0:Int}{p1_0:Int}:ztx Try.prog 43 [(0,.p (.v (.int .i64 p0_0))),(1,.p (.v (.int .i64 p1_0)))]=some (.p (.agg [.v (.int .i64 p0_0),.v (.int .i64 p1_0)])):=by kernel_rfl
theorem zum {l:List Pair}{i:Int}{v:Pair} (h:rd l i=some v):lkOb (some (.frz (encL zac l))) (ato i 2) 2=some (.p (.agg [.v (.int .i64 v.Old),.v (.int .i64 v.New)])):=(zr8 zds h).trans (by rw [zdt])
theorem yci {p0_0:Int}{p0_1:Int}{H:List Ob}:bsD Try.prog H 36 1 [(0,.p (.agg [.v (.int .i64 p0_0),.v (.int .i64 p0_1)]))]=some (.p (.lst true 1 [.v (.int .i64 p0_0),.v (.int .i64 p0_1)]),none):=by kernel_rfl
theorem z9u {H:List Ob}{id off esz n m:Nat}{full:Bool}{new:List Pv}:zer Try.prog H #[36,36] (.ref id off n esz) (.p (.lst full m new))=apOb H id off n m esz 2 16 new H[id]?:=zi7 u36 u36 z43 b43 zc43 ⟨by decide,by decide,rfl⟩
theorem zwg {c0 c1:Pv}:lkOb (some (.var [.p c0,.p c1])) 0 2=some (.p (.agg [c0,c1])):=rfl
theorem yii (a0 b0:Int)(a1 b1:Int):zaq Try.prog (Op.equalIn 10000 43 (.agg #[.int .i64 a0,.int .i64 a1]) (.agg #[.int .i64 b0,.int .i64 b1]))=some (decide (a0=b0∧a1=b1)):=by
 refine (zp3 (d:=9999) Try.underlying43 (by kernel_rfl)).trans ?_
 refine (z1d (by decide) rfl rfl (zn3 Try.underlying3) (z1d (by decide) rfl rfl (zn3 Try.underlying3) yhx)).trans ?_
 simp only [Bool.decide_and,Bool.and_true]
theorem yfs {a0 b0:Int}{a1 b1:Int}{xo yo:Operand}:binD Try.prog .neq 43 xo yo (.p (.agg [.v (.int .i64 a0),.v (.int .i64 a1)])) (.p (.agg [.v (.int .i64 b0),.v (.int .i64 b1)]))=some (.p (.v (.bool (!decide (a0=b0∧a1=b1))))):=ztu rfl rfl (by kernel_rfl) (yii a0 b0 a1 b1)
end Xr

