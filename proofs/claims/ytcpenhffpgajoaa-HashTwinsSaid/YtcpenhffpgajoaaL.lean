/- A part of the proof: L. No conditions of its own. -/
import Derived.Test.YtcpenhffpgajoaaProg
import Derived.KernelRfl
import Derived.Test.YtcpenhffpgajoaaT
namespace Xr
open Go Go.Ev Go.Proofs
set_option linter.unusedSimpArgs false
set_option linter.unusedVariables false
set_option linter.defProp false
set_option maxRecDepth 20000
def zae (f:Func):Code:=f.body.getD .skip
def zal:Code→List Code
 | .seq a b=>zal a++zal b
 | .cond _ a b=>zal a++zal b
 | .block _ b=>zal b
 | .loop b=>b :: zal b
 | _=>[]
noncomputable abbrev sw72 (i n:Nat):Dv:=.fn (.func 72) [.ref i 0 n 2,.p (.v (typeHandle Try.prog 43))]
noncomputable instance gl:Gl:=⟨fun g=>none,fun t=>([62]:List Nat).contains t⟩
theorem im_ (t:TypeId) (h:([62]:List Nat).contains t=false:=by kernel_rfl):Gl.isMap t=false:=h
def dynOf:Nat→List (Nat×List (Nat×Nat))
 | 20=>[(17,[(2,5)])]
 | _=>[]
def lpOf:Nat→List (Nat×List (Nat×Nat))
 | 17=>[(18,[(4,13)])]
 | 20=>[(1,[(1,2)])]
 | _=>[]
def preOf:Nat→List (Nat×List Ghost)
 | 48=>[(5,[.keep [2,3,7,8]]),(10,[.keep [2,3,7,8]])]
 | 31=>[(5,[.keep [2,5,6]]),(10,[.keep [2,5,6]]),(11,[.keep [2,5,7]]),(16,[.keep [2,5,7]])]
 | 46=>[(0,[.own 0 4]),(3,[.keep [0,3,5]]),(6,[.keep [0,3,5]])]
 | 27=>[(3,[.keep [1,3,4]]),(6,[.keep [1,3,4]])]
 | 23=>[(3,[.own 3 1,.weak [0],.keep [0,3,4]]),(6,[.keep [0,3,4]])]
 | 73=>[(2,[.keep [1,2,3,6]]),(3,[.keep [1,2,3,6,7]]),(5,[.keep [1,2,3,6,7]])]
 | 85=>[(2,[.keep [2,3,4,8]])]
 | 77=>[(5,[.keep [3,6,7,8,9]]),(8,[.keep [3,6,7,8,9]]),(9,[.keep [3,6,7,10]])]
 | 80=>[(3,[.keep [3,6,7]])]
 | 81=>[(3,[.keep [1,2,3,7,8]]),(4,[.keep [1,2,3,7,8,10]]),(5,[.keep [1,2,3,7,8]]),(7,[.keep [1,2,3,7,8]]),(14,[.keep [1,2,3,7,8,9]]),(18,[.keep [1,2,3,7,8,9]]),(20,[.keep [1,2,3,7,8,10]]),(24,[.keep [1,2,3,7,8]])]
 | 83=>[(3,[.keep [1,4,10,11]]),(5,[.keep [1,4,10,11],.keep [1,4,10,11]]),(7,[.keep [1,4,10,11]]),(13,[.keep [1,4,10,11],.keep [1,4,10,11]]),(15,[.keep [1,4,10,11],.keep [1,4,10,11]]),(17,[.keep [1,4,10,11]]),(21,[.keep [1,4,10,11]])]
 | 82=>[(3,[.keep [1,4,9,10],.keep [1,4,9,10]]),(5,[.keep [1,4,9,10],.keep [1,4,9,10]]),(7,[.keep [1,4,9,10]]),(11,[.keep [1,4,9,10]])]
 | 78=>[(6,[.keep [1,3,6,7,8,9]])]
 | 60=>[(3,[.keep [1,2,3,4,8,9]])]
 | 38=>[(0,[.own 0 4]),(3,[.weak [12],.keep [0,12,13,14]]),(7,[.keep [0,12,13,14]])]
 | 54=>[(3,[.weak [7],.keep [3,7,8,9]]),(7,[.keep [3,7,8,9]])]
 | 40=>[(3,[.weak [9],.keep [3,9,10,11]]),(7,[.keep [3,9,10,11]])]
 | 50=>[(3,[.keep [0,3,6,7]]),(7,[.keep [0,3,6,7]])]
 | 49=>[(3,[.keep [5,11,12]]),(6,[.keep [5,7,8,11,12]]),(9,[.keep [5,7,8,11,12]]),(10,[.keep [5,11,12]])]
 | 33=>[(0,[.own 0 1]),(5,[.weak [27],.keep [0,2,4,8,9,27,28,29]]),(11,[.keep [0,2,4,8,9,27,28,29]])]
 | 39=>[(4,[.keep [2,3,29,30]]),(9,[.keep [2,3,29,30]])]
 | 24=>[(4,[.keep [2,3,5]]),(8,[.keep [2,3,5]])]
 | 26=>[(2,[.weak [0,1],.keep [0,1,2,3,9]]),(9,[.keep [0,1,2,3,9]])]
 | 52=>[(3,[.keep [0,3,4]]),(6,[.keep [0,3,4]])]
 | 62=>[(3,[.keep [1,5,6]]),(6,[.keep [1,5,6]])]
 | 19=>[(4,[.weak [0,1],.keep [0,1,5]]),(8,[.keep [0,1,5]])]
 | 6=>[(8,[.weak [5,6,7,8],.keep [2,5,6,7,8,9]]),(13,[.keep [2,5,6,7,8,9]]),(14,[.weak [5,6,7,8],.keep [2,5,6,7,8,11]]),(15,[.keep [2,5,6,7,8,11,12]]),(17,[.weak [5,6,7,8],.keep [2,5,6,7,8,11,12]]),(21,[.keep [2,5,6,7,8,11]]),(22,[.weak [5,6,7,8],.keep [2,5,6,7,8,13]]),(23,[.keep [2,5,6,7,8,13,14]]),(25,[.weak [5,6,7,8],.keep [2,5,6,7,8,13,14]]),(29,[.keep [2,5,6,7,8,13]])]
 | 17=>[(19,[.vary 5])]
 | 90=>[(2,[.keep [1,2,3,4,8]])]
 | 84=>[(3,[.keep [2,4,8,9]]),(9,[.keep [2,4,8,9]])]
 | 74=>[(4,[.keep [1,4,8,9]]),(9,[.keep [1,4,8,9]]),(10,[.keep [4,8,11]]),(16,[.keep [2,4,12,13]]),(21,[.keep [2,4,12,13]]),(22,[.keep [4,12,15]]),(34,[.keep [1,2,3,4,16,17,18,19,20]]),(39,[.keep [1,2,3,4,16,17,18,19,20]])]
 | 57=>[(3,[.keep [1,2,4,5,6]]),(7,[.keep [1,2,4,5,6]]),(8,[.keep [1,2,4]]),(10,[.keep [1,2,4,5,6]]),(14,[.keep [1,2,4,5,6]])]
 | 20=>[(19,[.ownC 17 0 2])]
 | _=>[]
def A0:Ann:={ okf:=fun _=>true,keeps:=fun f=>[33,38,46,53].contains f,muts:=fun f=>[33,38,41,42,43,44,46,53,55,56,57,58,60,66,67,68,69,70,71,72,73,74,77,78,79,80,81,82,83,84,85,87,88,89,90,91].contains f,ros:=fun f=>[].contains f,loud:=fun f r=>([(20,1),(20,1)]:List (Nat×Nat)).contains (f,r),pre:=fun f r=>((preOf f).lookup r).getD [],clone:=fun f=>none,dyn:=fun f q=>(dynOf f).lookup q,lp:=fun f q=>(lpOf f).lookup q,outer:=fun f=>if f == 55 then some (.valueOf) else if f == 58 then some (.valLen) else if f == 56 then some (.swapper [(40,64,65,68,3),(36,64,65,72,43)]) else if f == 66 then some (.swap) else if f == 67 then some (.swap) else if f == 68 then some (.swap) else if f == 69 then some (.swap) else if f == 70 then some (.swap) else if f == 71 then some (.swap) else if f == 72 then some (.swap) else none }
theorem clones:zwl Try.prog A0:=fun f sz h=>by cases h
theorem zzh:ExtIs Try.prog (.swapper [(40,64,65,68,3),(36,64,65,72,43)]) (Extern.ReflectliteSwapper.swapper "internal/reflectlite" (Extern.ReflectliteValue.valueError "Swapper")):=by
 intro t f0 f1 f2 h hl w s n cap
 by_cases ht:t=40
 ·subst ht
  obtain ⟨rfl,rfl,rfl,rfl⟩:f0=64∧f1=65∧f2=68∧h=3:=by
   have:=Option.some.inj hl
   simp only [Prod.mk.injEq] at this
   exact ⟨this.1.symm,this.2.1.symm,this.2.2.1.symm,this.2.2.2.symm⟩
  match n with
  | 0=>show Sem.run _ _ _=_;kernel_rfl
  | 1=>show Sem.run _ _ _=_;kernel_rfl
  | n+2=>show Sem.run _ _ _=_;kernel_rfl
 ·by_cases ht2:t=36
  ·subst ht2
   obtain ⟨rfl,rfl,rfl,rfl⟩:f0=64∧f1=65∧f2=72∧h=43:=by
    have:=Option.some.inj hl
    simp only [Prod.mk.injEq] at this
    exact ⟨this.1.symm,this.2.1.symm,this.2.2.1.symm,this.2.2.2.symm⟩
   match n with
   | 0=>show Sem.run _ _ _=_;kernel_rfl
   | 1=>show Sem.run _ _ _=_;kernel_rfl
   | n+2=>show Sem.run _ _ _=_;kernel_rfl
  ·simp [List.lookup,show (t == 40)=false from by simpa using ht,show (t == 36)=false from by simpa using ht2] at hl
theorem exts:ExtOk Try.prog A0:=by
 intro f k h
 simp only [A0] at h
 split at h
 ·rename_i hf
  obtain rfl:=Option.some.inj h
  obtain rfl:f=55:=by simpa using hf
  exact ⟨Try.f55,_,Try.func55,by kernel_rfl,by kernel_rfl,by kernel_rfl,(by kernel_rfl:Extern.find Try.f55=some (fun args=>Extern.ReflectliteValue.unpack (args.getD 0 (.tuple #[])))),rfl⟩
 split at h
 ·rename_i hf
  obtain rfl:=Option.some.inj h
  obtain rfl:f=58:=by simpa using hf
  exact ⟨Try.f58,_,Try.func58,by kernel_rfl,by kernel_rfl,by kernel_rfl,(by kernel_rfl:Extern.find Try.f58=some (Extern.ReflectliteValue.method (Extern.ReflectliteValue.valueError "reflectlite.Value.Len" 0) Extern.ReflectliteValue.len)),rfl⟩
 split at h
 ·rename_i hf
  obtain rfl:=Option.some.inj h
  obtain rfl:f=56:=by simpa using hf
  exact ⟨Try.f56,_,Try.func56,by kernel_rfl,by kernel_rfl,by kernel_rfl,(by kernel_rfl:Extern.find Try.f56=some (Extern.ReflectliteSwapper.swapper "internal/reflectlite" (Extern.ReflectliteValue.valueError "Swapper"))),zzh⟩
 split at h
 ·rename_i hf
  obtain rfl:=Option.some.inj h
  obtain rfl:f=66:=by simpa using hf
  exact ⟨Try.f66,_,Try.func66,by kernel_rfl,by kernel_rfl,by kernel_rfl,(by kernel_rfl:Extern.find Try.f66=some (Extern.ReflectliteSwapper.swap true)),⟨true,rfl⟩⟩
 split at h
 ·rename_i hf
  obtain rfl:=Option.some.inj h
  obtain rfl:f=67:=by simpa using hf
  exact ⟨Try.f67,_,Try.func67,by kernel_rfl,by kernel_rfl,by kernel_rfl,(by kernel_rfl:Extern.find Try.f67=some (Extern.ReflectliteSwapper.swap true)),⟨true,rfl⟩⟩
 split at h
 ·rename_i hf
  obtain rfl:=Option.some.inj h
  obtain rfl:f=68:=by simpa using hf
  exact ⟨Try.f68,_,Try.func68,by kernel_rfl,by kernel_rfl,by kernel_rfl,(by kernel_rfl:Extern.find Try.f68=some (Extern.ReflectliteSwapper.swap true)),⟨true,rfl⟩⟩
 split at h
 ·rename_i hf
  obtain rfl:=Option.some.inj h
  obtain rfl:f=69:=by simpa using hf
  exact ⟨Try.f69,_,Try.func69,by kernel_rfl,by kernel_rfl,by kernel_rfl,(by kernel_rfl:Extern.find Try.f69=some (Extern.ReflectliteSwapper.swap true)),⟨true,rfl⟩⟩
 split at h
 ·rename_i hf
  obtain rfl:=Option.some.inj h
  obtain rfl:f=70:=by simpa using hf
  exact ⟨Try.f70,_,Try.func70,by kernel_rfl,by kernel_rfl,by kernel_rfl,(by kernel_rfl:Extern.find Try.f70=some (Extern.ReflectliteSwapper.swap true)),⟨true,rfl⟩⟩
 split at h
 ·rename_i hf
  obtain rfl:=Option.some.inj h
  obtain rfl:f=71:=by simpa using hf
  exact ⟨Try.f71,_,Try.func71,by kernel_rfl,by kernel_rfl,by kernel_rfl,(by kernel_rfl:Extern.find Try.f71=some (Extern.ReflectliteSwapper.swap true)),⟨true,rfl⟩⟩
 split at h
 ·rename_i hf
  obtain rfl:=Option.some.inj h
  obtain rfl:f=72:=by simpa using hf
  exact ⟨Try.f72,_,Try.func72,by kernel_rfl,by kernel_rfl,by kernel_rfl,(by kernel_rfl:Extern.find Try.f72=some (Extern.ReflectliteSwapper.swap false)),⟨false,rfl⟩⟩
 cases h
abbrev RG (f q:Nat) (g:List Ghost) (o:Array Oper) (d:Bool) (s:St):Prop:=evW Try.prog A0 f (.region q o d) s=regW Try.prog A0 (d && true) o o.toList (zak g s)
abbrev RY (f q:Nat) (g:List Ghost) (y:List (Nat×Nat)) (o:Array Oper) (s:St):Prop:=evW Try.prog A0 f (.region q o true) s=regY Try.prog A0 (true && true) o y o.toList (zak g s)
abbrev RZ (f q:Nat) (g:List Ghost) (y:List (Nat×Nat)) (o:Array Oper) (s:St):Prop:=evW Try.prog A0 f (.region q o true) s=regZ Try.prog A0 (true && false) o y o.toList (zak g s)
theorem r48_0 {o d s}:RG 48 0 [] o d s:=zaa
theorem r48_1 {o d s}:RG 48 1 [] o d s:=zaa
theorem r48_2 {o d s}:RG 48 2 [] o d s:=zaa
theorem r48_3 {o d s}:RG 48 3 [] o d s:=zaa
theorem r48_4 {o d s}:RG 48 4 [] o d s:=zaa
theorem r48_5 {o d s}:RG 48 5 [.keep [2,3,7,8]] o d s:=zaa
theorem r48_7 {o d s}:RG 48 7 [] o d s:=zaa
theorem r48_8 {o d s}:RG 48 8 [] o d s:=zaa
theorem r48_9 {o d s}:RG 48 9 [] o d s:=zaa
theorem r48_6 {o d s}:RG 48 6 [] o d s:=zaa
theorem yjm {o d s}:RG 48 10 [.keep [2,3,7,8]] o d s:=zaa
theorem r30_0 {o d s}:RG 30 0 [] o d s:=zaa
theorem r30_1 {o d s}:RG 30 1 [] o d s:=zaa
theorem r31_0 {o d s}:RG 31 0 [] o d s:=zaa
theorem r31_1 {o d s}:RG 31 1 [] o d s:=zaa
theorem r31_2 {o d s}:RG 31 2 [] o d s:=zaa
theorem r31_3 {o d s}:RG 31 3 [] o d s:=zaa
theorem r31_4 {o d s}:RG 31 4 [] o d s:=zaa
theorem r31_5 {o d s}:RG 31 5 [.keep [2,5,6]] o d s:=zaa
theorem r31_7 {o d s}:RG 31 7 [] o d s:=zaa
theorem r31_8 {o d s}:RG 31 8 [] o d s:=zaa
theorem r31_9 {o d s}:RG 31 9 [] o d s:=zaa
theorem r31_6 {o d s}:RG 31 6 [] o d s:=zaa
theorem yjd {o d s}:RG 31 10 [.keep [2,5,6]] o d s:=zaa
theorem yhy {o d s}:RG 31 11 [.keep [2,5,7]] o d s:=zaa
theorem yfc {o d s}:RG 31 13 [] o d s:=zaa
theorem ygr {o d s}:RG 31 14 [] o d s:=zaa
theorem yee {o d s}:RG 31 15 [] o d s:=zaa
theorem yex {o d s}:RG 31 12 [] o d s:=zaa
theorem yea {o d s}:RG 31 16 [.keep [2,5,7]] o d s:=zaa
theorem r9_0 {o d s}:RG 9 0 [] o d s:=zaa
theorem r9_1 {o d s}:RG 9 1 [] o d s:=zaa
theorem r46_0 {o d s}:RG 46 0 [.own 0 4] o d s:=zaa
theorem r46_1 {o d s}:RG 46 1 [] o d s:=zaa
theorem r46_2 {o d s}:RG 46 2 [] o d s:=zaa
theorem r46_3 {o d s}:RG 46 3 [.keep [0,3,5]] o d s:=zaa
theorem r46_5 {o d s}:RG 46 5 [] o d s:=zaa
theorem r46_4 {o d s}:RG 46 4 [] o d s:=zaa
theorem r46_6 {o d s}:RG 46 6 [.keep [0,3,5]] o d s:=zaa
theorem r22_0 {o d s}:RG 22 0 [] o d s:=zaa
theorem r22_1 {o d s}:RG 22 1 [] o d s:=zaa
theorem r22_2 {o d s}:RG 22 2 [] o d s:=zaa
theorem r27_0 {o d s}:RG 27 0 [] o d s:=zaa
theorem r27_1 {o d s}:RG 27 1 [] o d s:=zaa
theorem r27_2 {o d s}:RG 27 2 [] o d s:=zaa
theorem r27_3 {o d s}:RG 27 3 [.keep [1,3,4]] o d s:=zaa
theorem r27_5 {o d s}:RG 27 5 [] o d s:=zaa
theorem r27_4 {o d s}:RG 27 4 [] o d s:=zaa
theorem r27_6 {o d s}:RG 27 6 [.keep [1,3,4]] o d s:=zaa
theorem r23_0 {o d s}:RG 23 0 [] o d s:=zaa
theorem r23_1 {o d s}:RG 23 1 [] o d s:=zaa
theorem r23_2 {o d s}:RG 23 2 [] o d s:=zaa
theorem r23_3 {o d s}:RG 23 3 [.own 3 1,.weak [0],.keep [0,3,4]] o d s:=zaa
theorem r23_5 {o d s}:RG 23 5 [] o d s:=zaa
theorem r23_4 {o d s}:RG 23 4 [] o d s:=zaa
theorem r23_6 {o d s}:RG 23 6 [.keep [0,3,4]] o d s:=zaa
theorem r76_0 {o d s}:RG 76 0 [] o d s:=zaa
theorem r76_1 {o d s}:RG 76 1 [] o d s:=zaa
theorem r76_2 {o d s}:RG 76 2 [] o d s:=zaa
theorem r76_3 {o d s}:RG 76 3 [] o d s:=zaa
theorem r76_4 {o d s}:RG 76 4 [] o d s:=zaa
theorem r76_5 {o d s}:RG 76 5 [] o d s:=zaa
theorem r76_6 {o d s}:RG 76 6 [] o d s:=zaa
theorem r76_7 {o d s}:RG 76 7 [] o d s:=zaa
theorem r76_8 {o d s}:RG 76 8 [] o d s:=zaa
theorem r76_9 {o d s}:RG 76 9 [] o d s:=zaa
theorem yer {o d s}:RG 76 10 [] o d s:=zaa
theorem r59_0 {o d s}:RG 59 0 [] o d s:=zaa
theorem r59_1 {o d s}:RG 59 1 [] o d s:=zaa
theorem r59_2 {o d s}:RG 59 2 [] o d s:=zaa
theorem r44_0 {o d s}:RG 44 0 [] o d s:=zaa
theorem r44_1 {o d s}:RG 44 1 [] o d s:=zaa
theorem r73_0 {o d s}:RG 73 0 [] o d s:=zaa
theorem r73_1 {o d s}:RG 73 1 [] o d s:=zaa
theorem r73_2 {o d s}:RG 73 2 [.keep [1,2,3,6]] o d s:=zaa
theorem r73_4 {o d s}:RG 73 4 [] o d s:=zaa
theorem r73_5 {o d s}:RG 73 5 [.keep [1,2,3,6,7]] o d s:=zaa
theorem r73_7 {o d s}:RG 73 7 [] o d s:=zaa
theorem r73_6 {o d s}:RG 73 6 [] o d s:=zaa
theorem r73_3 {o d s}:RG 73 3 [.keep [1,2,3,6,7]] o d s:=zaa
theorem r85_0 {o d s}:RG 85 0 [] o d s:=zaa
theorem r85_1 {o d s}:RG 85 1 [] o d s:=zaa
theorem r85_2 {o d s}:RG 85 2 [.keep [2,3,4,8]] o d s:=zaa
theorem r85_3 {o d s}:RG 85 3 [] o d s:=zaa
theorem r85_4 {o d s}:RG 85 4 [] o d s:=zaa
theorem r85_5 {o d s}:RG 85 5 [] o d s:=zaa
theorem r85_6 {o d s}:RG 85 6 [] o d s:=zaa
theorem r85_7 {o d s}:RG 85 7 [] o d s:=zaa
theorem r85_8 {o d s}:RG 85 8 [] o d s:=zaa
theorem r77_0 {o d s}:RG 77 0 [] o d s:=zaa
theorem r77_1 {o d s}:RG 77 1 [] o d s:=zaa
theorem r77_2 {o d s}:RG 77 2 [] o d s:=zaa
theorem r77_3 {o d s}:RG 77 3 [] o d s:=zaa
theorem r77_4 {o d s}:RG 77 4 [] o d s:=zaa
theorem r77_5 {o d s}:RG 77 5 [.keep [3,6,7,8,9]] o d s:=zaa
theorem r77_7 {o d s}:RG 77 7 [] o d s:=zaa
theorem r77_6 {o d s}:RG 77 6 [] o d s:=zaa
theorem r77_8 {o d s}:RG 77 8 [.keep [3,6,7,8,9]] o d s:=zaa
theorem r77_9 {o d s}:RG 77 9 [.keep [3,6,7,10]] o d s:=zaa
theorem yij {o d s}:RG 77 11 [] o d s:=zaa
theorem ygn {o d s}:RG 77 12 [] o d s:=zaa
theorem yhv {o d s}:RG 77 10 [] o d s:=zaa
theorem r91_0 {o d s}:RG 91 0 [] o d s:=zaa
theorem r91_1 {o d s}:RG 91 1 [] o d s:=zaa
theorem r91_2 {o d s}:RG 91 2 [] o d s:=zaa
theorem r91_3 {o d s}:RG 91 3 [] o d s:=zaa
theorem r91_4 {o d s}:RG 91 4 [] o d s:=zaa
theorem r89_0 {o d s}:RG 89 0 [] o d s:=zaa
theorem r89_1 {o d s}:RG 89 1 [] o d s:=zaa
theorem r89_2 {o d s}:RG 89 2 [] o d s:=zaa
theorem r89_3 {o d s}:RG 89 3 [] o d s:=zaa
theorem r89_4 {o d s}:RG 89 4 [] o d s:=zaa
theorem r88_0 {o d s}:RG 88 0 [] o d s:=zaa
theorem r88_1 {o d s}:RG 88 1 [] o d s:=zaa
theorem r79_0 {o d s}:RG 79 0 [] o d s:=zaa
theorem r79_1 {o d s}:RG 79 1 [] o d s:=zaa
theorem r79_2 {o d s}:RG 79 2 [] o d s:=zaa
theorem r79_3 {o d s}:RG 79 3 [] o d s:=zaa
theorem r79_4 {o d s}:RG 79 4 [] o d s:=zaa
theorem r79_5 {o d s}:RG 79 5 [] o d s:=zaa
theorem r79_6 {o d s}:RG 79 6 [] o d s:=zaa
theorem r79_7 {o d s}:RG 79 7 [] o d s:=zaa
theorem r79_8 {o d s}:RG 79 8 [] o d s:=zaa
theorem r79_9 {o d s}:RG 79 9 [] o d s:=zaa
theorem ydx {o d s}:RG 79 10 [] o d s:=zaa
theorem ygy {o d s}:RG 79 11 [] o d s:=zaa
theorem yd9 {o d s}:RG 79 12 [] o d s:=zaa
theorem yg7 {o d s}:RG 79 14 [] o d s:=zaa
theorem yha {o d s}:RG 79 15 [] o d s:=zaa
theorem yfn {o d s}:RG 79 16 [] o d s:=zaa
theorem yhl {o d s}:RG 79 17 [] o d s:=zaa
theorem yhx {o d s}:RG 79 13 [] o d s:=zaa
theorem r80_0 {o d s}:RG 80 0 [] o d s:=zaa
theorem r80_1 {o d s}:RG 80 1 [] o d s:=zaa
theorem r80_2 {o d s}:RG 80 2 [] o d s:=zaa
theorem r80_3 {o d s}:RG 80 3 [.keep [3,6,7]] o d s:=zaa
theorem r80_4 {o d s}:RG 80 4 [] o d s:=zaa
theorem r80_5 {o d s}:RG 80 5 [] o d s:=zaa
theorem r80_6 {o d s}:RG 80 6 [] o d s:=zaa
theorem r81_0 {o d s}:RG 81 0 [] o d s:=zaa
theorem r81_1 {o d s}:RG 81 1 [] o d s:=zaa
theorem r81_2 {o d s}:RG 81 2 [] o d s:=zaa
theorem r81_3 {o d s}:RG 81 3 [.keep [1,2,3,7,8]] o d s:=zaa
theorem r81_5 {o d s}:RG 81 5 [.keep [1,2,3,7,8]] o d s:=zaa
theorem r81_6 {o d s}:RG 81 6 [] o d s:=zaa
theorem r81_7 {o d s}:RG 81 7 [.keep [1,2,3,7,8]] o d s:=zaa
theorem r81_8 {o d s}:RG 81 8 [] o d s:=zaa
theorem r81_9 {o d s}:RG 81 9 [] o d s:=zaa
theorem yei {o d s}:RG 81 10 [] o d s:=zaa
theorem yio {o d s}:RG 81 11 [] o d s:=zaa
theorem yfp {o d s}:RG 81 12 [] o d s:=zaa
theorem yiv {o d s}:RG 81 13 [] o d s:=zaa
theorem yd4 {o d s}:RG 81 14 [.keep [1,2,3,7,8,9]] o d s:=zaa
theorem yj2 {o d s}:RG 81 16 [] o d s:=zaa
theorem yga {o d s}:RG 81 17 [] o d s:=zaa
theorem yh1 {o d s}:RG 81 15 [] o d s:=zaa
theorem yil {o d s}:RG 81 18 [.keep [1,2,3,7,8,9]] o d s:=zaa
theorem yeg {o d s}:RG 81 19 [] o d s:=zaa
theorem yh6 {o d s}:RG 81 20 [.keep [1,2,3,7,8,10]] o d s:=zaa
theorem ye7 {o d s}:RG 81 22 [] o d s:=zaa
theorem yfa {o d s}:RG 81 23 [] o d s:=zaa
theorem yh0 {o d s}:RG 81 21 [] o d s:=zaa
theorem r81_4 {o d s}:RG 81 4 [.keep [1,2,3,7,8,10]] o d s:=zaa
theorem yd0 {o d s}:RG 81 24 [.keep [1,2,3,7,8]] o d s:=zaa
theorem r83_0 {o d s}:RG 83 0 [] o d s:=zaa
theorem r83_1 {o d s}:RG 83 1 [] o d s:=zaa
theorem r83_2 {o d s}:RG 83 2 [] o d s:=zaa
theorem r83_3 {o d s}:RG 83 3 [.keep [1,4,10,11]] o d s:=zaa
theorem r83_4 {o d s}:RG 83 4 [] o d s:=zaa
theorem r83_5 {o d s}:RG 83 5 [.keep [1,4,10,11],.keep [1,4,10,11]] o d s:=zaa
theorem r83_6 {o d s}:RG 83 6 [] o d s:=zaa
theorem r83_7 {o d s}:RG 83 7 [.keep [1,4,10,11]] o d s:=zaa
theorem r83_8 {o d s}:RG 83 8 [] o d s:=zaa
theorem r83_9 {o d s}:RG 83 9 [] o d s:=zaa
theorem ydq {o d s}:RG 83 10 [] o d s:=zaa
theorem yg1 {o d s}:RG 83 11 [] o d s:=zaa
theorem yfx {o d s}:RG 83 12 [] o d s:=zaa
theorem yi7 {o d s}:RG 83 13 [.keep [1,4,10,11],.keep [1,4,10,11]] o d s:=zaa
theorem ydz {o d s}:RG 83 14 [] o d s:=zaa
theorem yft {o d s}:RG 83 15 [.keep [1,4,10,11],.keep [1,4,10,11]] o d s:=zaa
theorem yja {o d s}:RG 83 16 [] o d s:=zaa
theorem yd2 {o d s}:RG 83 17 [.keep [1,4,10,11]] o d s:=zaa
theorem yfs {o d s}:RG 83 18 [] o d s:=zaa
theorem ydp {o d s}:RG 83 19 [] o d s:=zaa
theorem yf3 {o d s}:RG 83 20 [] o d s:=zaa
theorem yec {o d s}:RG 83 21 [.keep [1,4,10,11]] o d s:=zaa
theorem yh7 {o d s}:RG 83 22 [] o d s:=zaa
theorem r82_0 {o d s}:RG 82 0 [] o d s:=zaa
theorem r82_1 {o d s}:RG 82 1 [] o d s:=zaa
theorem r82_2 {o d s}:RG 82 2 [] o d s:=zaa
theorem r82_3 {o d s}:RG 82 3 [.keep [1,4,9,10],.keep [1,4,9,10]] o d s:=zaa
theorem r82_4 {o d s}:RG 82 4 [] o d s:=zaa
theorem r82_5 {o d s}:RG 82 5 [.keep [1,4,9,10],.keep [1,4,9,10]] o d s:=zaa
theorem r82_6 {o d s}:RG 82 6 [] o d s:=zaa
theorem r82_7 {o d s}:RG 82 7 [.keep [1,4,9,10]] o d s:=zaa
theorem r82_8 {o d s}:RG 82 8 [] o d s:=zaa
theorem r82_9 {o d s}:RG 82 9 [] o d s:=zaa
theorem yi6 {o d s}:RG 82 10 [] o d s:=zaa
theorem yez {o d s}:RG 82 11 [.keep [1,4,9,10]] o d s:=zaa
theorem r86_0 {o d s}:RG 86 0 [] o d s:=zaa
theorem r86_1 {o d s}:RG 86 1 [] o d s:=zaa
theorem r86_2 {o d s}:RG 86 2 [] o d s:=zaa
theorem r87_0 {o d s}:RG 87 0 [] o d s:=zaa
theorem r87_1 {o d s}:RG 87 1 [] o d s:=zaa
theorem r87_2 {o d s}:RG 87 2 [] o d s:=zaa
theorem r87_3 {o d s}:RG 87 3 [] o d s:=zaa
theorem r87_4 {o d s}:RG 87 4 [] o d s:=zaa
theorem r78_0 {o d s}:RG 78 0 [] o d s:=zaa
theorem r78_1 {o d s}:RG 78 1 [] o d s:=zaa
theorem r78_2 {o d s}:RG 78 2 [] o d s:=zaa
theorem r78_3 {o d s}:RG 78 3 [] o d s:=zaa
theorem r78_4 {o d s}:RG 78 4 [] o d s:=zaa
theorem r78_5 {o d s}:RG 78 5 [] o d s:=zaa
theorem r78_6 {o d s}:RG 78 6 [.keep [1,3,6,7,8,9]] o d s:=zaa
theorem r78_8 {o d s}:RG 78 8 [] o d s:=zaa
theorem r78_9 {o d s}:RG 78 9 [] o d s:=zaa
theorem yd1 {o d s}:RG 78 10 [] o d s:=zaa
theorem yi4 {o d s}:RG 78 11 [] o d s:=zaa
theorem r78_7 {o d s}:RG 78 7 [] o d s:=zaa
theorem r60_0 {o d s}:RG 60 0 [] o d s:=zaa
theorem r60_1 {o d s}:RG 60 1 [] o d s:=zaa
theorem r60_2 {o d s}:RG 60 2 [] o d s:=zaa
theorem r60_3 {o d s}:RG 60 3 [.keep [1,2,3,4,8,9]] o d s:=zaa
theorem r60_4 {o d s}:RG 60 4 [] o d s:=zaa
theorem r60_5 {o d s}:RG 60 5 [] o d s:=zaa
theorem r60_6 {o d s}:RG 60 6 [] o d s:=zaa
theorem r60_7 {o d s}:RG 60 7 [] o d s:=zaa
theorem r60_8 {o d s}:RG 60 8 [] o d s:=zaa
theorem r60_9 {o d s}:RG 60 9 [] o d s:=zaa
theorem ygj {o d s}:RG 60 10 [] o d s:=zaa
theorem ye5 {o d s}:RG 60 11 [] o d s:=zaa
theorem ye1 {o d s}:RG 60 12 [] o d s:=zaa
theorem yel {o d s}:RG 60 13 [] o d s:=zaa
theorem ygx {o d s}:RG 60 14 [] o d s:=zaa
theorem yji {o d s}:RG 60 15 [] o d s:=zaa
theorem ygq {o d s}:RG 60 16 [] o d s:=zaa
theorem yi2 {o d s}:RG 60 17 [] o d s:=zaa
theorem ygp {o d s}:RG 60 18 [] o d s:=zaa
theorem ye3 {o d s}:RG 60 19 [] o d s:=zaa
theorem yiw {o d s}:RG 60 20 [] o d s:=zaa
theorem yhp {o d s}:RG 60 21 [] o d s:=zaa
theorem yhu {o d s}:RG 60 22 [] o d s:=zaa
theorem yes {o d s}:RG 60 23 [] o d s:=zaa
theorem ygl {o d s}:RG 60 24 [] o d s:=zaa
theorem yhg {o d s}:RG 60 25 [] o d s:=zaa
theorem yh3 {o d s}:RG 60 26 [] o d s:=zaa
theorem yfu {o d s}:RG 60 27 [] o d s:=zaa
theorem yju {o d s}:RG 60 28 [] o d s:=zaa
theorem yiu {o d s}:RG 60 29 [] o d s:=zaa
theorem yim {o d s}:RG 60 30 [] o d s:=zaa
theorem yh4 {o d s}:RG 60 31 [] o d s:=zaa
theorem r43_0 {o d s}:RG 43 0 [] o d s:=zaa
theorem r43_1 {o d s}:RG 43 1 [] o d s:=zaa
theorem r43_2 {o d s}:RG 43 2 [] o d s:=zaa
theorem r43_3 {o d s}:RG 43 3 [] o d s:=zaa
theorem r43_4 {o d s}:RG 43 4 [] o d s:=zaa
theorem r38_0 {o d s}:RG 38 0 [.own 0 4] o d s:=zaa
theorem r38_1 {o d s}:RG 38 1 [] o d s:=zaa
theorem r38_2 {o d s}:RG 38 2 [] o d s:=zaa
theorem r38_3 {o d s}:RG 38 3 [.weak [12],.keep [0,12,13,14]] o d s:=zaa
theorem r38_4 {o d s}:RG 38 4 [] o d s:=zaa
theorem r38_5 {o d s}:RG 38 5 [] o d s:=zaa
theorem r38_6 {o d s}:RG 38 6 [] o d s:=zaa
theorem r38_7 {o d s}:RG 38 7 [.keep [0,12,13,14]] o d s:=zaa
theorem r54_0 {o d s}:RG 54 0 [] o d s:=zaa
theorem r54_1 {o d s}:RG 54 1 [] o d s:=zaa
theorem r54_2 {o d s}:RG 54 2 [] o d s:=zaa
theorem r54_3 {o d s}:RG 54 3 [.weak [7],.keep [3,7,8,9]] o d s:=zaa
theorem r54_4 {o d s}:RG 54 4 [] o d s:=zaa
theorem r54_5 {o d s}:RG 54 5 [] o d s:=zaa
theorem r54_6 {o d s}:RG 54 6 [] o d s:=zaa
theorem r54_7 {o d s}:RG 54 7 [.keep [3,7,8,9]] o d s:=zaa
theorem r40_0 {o d s}:RG 40 0 [] o d s:=zaa
theorem r40_1 {o d s}:RG 40 1 [] o d s:=zaa
theorem r40_2 {o d s}:RG 40 2 [] o d s:=zaa
theorem r40_3 {o d s}:RG 40 3 [.weak [9],.keep [3,9,10,11]] o d s:=zaa
theorem r40_4 {o d s}:RG 40 4 [] o d s:=zaa
theorem r40_5 {o d s}:RG 40 5 [] o d s:=zaa
theorem r40_6 {o d s}:RG 40 6 [] o d s:=zaa
theorem r40_7 {o d s}:RG 40 7 [.keep [3,9,10,11]] o d s:=zaa
theorem r34_0 {o d s}:RG 34 0 [] o d s:=zaa
theorem r34_1 {o d s}:RG 34 1 [] o d s:=zaa
theorem r61_0 {o d s}:RG 61 0 [] o d s:=zaa
theorem r61_1 {o d s}:RG 61 1 [] o d s:=zaa
theorem r50_0 {o d s}:RG 50 0 [] o d s:=zaa
theorem r50_1 {o d s}:RG 50 1 [] o d s:=zaa
theorem r50_2 {o d s}:RG 50 2 [] o d s:=zaa
theorem r50_3 {o d s}:RG 50 3 [.keep [0,3,6,7]] o d s:=zaa
theorem r50_4 {o d s}:RG 50 4 [] o d s:=zaa
theorem r50_5 {o d s}:RG 50 5 [] o d s:=zaa
theorem r50_6 {o d s}:RG 50 6 [] o d s:=zaa
theorem r50_7 {o d s}:RG 50 7 [.keep [0,3,6,7]] o d s:=zaa
theorem r49_0 {o d s}:RG 49 0 [] o d s:=zaa
theorem r49_1 {o d s}:RG 49 1 [] o d s:=zaa
theorem r49_2 {o d s}:RG 49 2 [] o d s:=zaa
theorem r49_3 {o d s}:RG 49 3 [.keep [5,11,12]] o d s:=zaa
theorem r49_4 {o d s}:RG 49 4 [] o d s:=zaa
theorem r49_5 {o d s}:RG 49 5 [] o d s:=zaa
theorem r49_6 {o d s}:RG 49 6 [.keep [5,7,8,11,12]] o d s:=zaa
theorem r49_8 {o d s}:RG 49 8 [] o d s:=zaa
theorem r49_7 {o d s}:RG 49 7 [] o d s:=zaa
theorem r49_9 {o d s}:RG 49 9 [.keep [5,7,8,11,12]] o d s:=zaa
theorem ydm {o d s}:RG 49 10 [.keep [5,11,12]] o d s:=zaa
theorem r33_0 {o d s}:RG 33 0 [.own 0 1] o d s:=zaa
theorem r33_1 {o d s}:RG 33 1 [] o d s:=zaa
theorem r33_2 {o d s}:RG 33 2 [] o d s:=zaa
theorem r33_3 {o d s}:RG 33 3 [] o d s:=zaa
theorem r33_4 {o d s}:RG 33 4 [] o d s:=zaa
theorem r33_5 {o d s}:RG 33 5 [.weak [27],.keep [0,2,4,8,9,27,28,29]] o d s:=zaa
theorem r33_6 {o d s}:RG 33 6 [] o d s:=zaa
theorem r33_7 {o d s}:RG 33 7 [] o d s:=zaa
theorem r33_8 {o d s}:RG 33 8 [] o d s:=zaa
theorem r33_9 {o d s}:RG 33 9 [] o d s:=zaa
theorem yhe {o d s}:RG 33 10 [] o d s:=zaa
theorem ye9 {o d s}:RG 33 11 [.keep [0,2,4,8,9,27,28,29]] o d s:=zaa
theorem yf7 {o d s}:RG 33 12 [] o d s:=zaa
theorem yge {o d s}:RG 33 13 [] o d s:=zaa
theorem r12_0 {o d s}:RG 12 0 [] o d s:=zaa
theorem r12_1 {o d s}:RG 12 1 [] o d s:=zaa
theorem r12_2 {o d s}:RG 12 2 [] o d s:=zaa
theorem r39_0 {o d s}:RG 39 0 [] o d s:=zaa
theorem r39_1 {o d s}:RG 39 1 [] o d s:=zaa
theorem r39_2 {o d s}:RG 39 2 [] o d s:=zaa
theorem r39_3 {o d s}:RG 39 3 [] o d s:=zaa
theorem r39_4 {o d s}:RG 39 4 [.keep [2,3,29,30]] o d s:=zaa
theorem r39_5 {o d s}:RG 39 5 [] o d s:=zaa
theorem r39_6 {o d s}:RG 39 6 [] o d s:=zaa
theorem r39_7 {o d s}:RG 39 7 [] o d s:=zaa
theorem r39_8 {o d s}:RG 39 8 [] o d s:=zaa
theorem r39_9 {o d s}:RG 39 9 [.keep [2,3,29,30]] o d s:=zaa
theorem r24_0 {o d s}:RG 24 0 [] o d s:=zaa
theorem r24_1 {o d s}:RG 24 1 [] o d s:=zaa
theorem r24_2 {o d s}:RG 24 2 [] o d s:=zaa
theorem r24_3 {o d s}:RG 24 3 [] o d s:=zaa
theorem r24_4 {o d s}:RG 24 4 [.keep [2,3,5]] o d s:=zaa
theorem r24_6 {o d s}:RG 24 6 [] o d s:=zaa
theorem r24_7 {o d s}:RG 24 7 [] o d s:=zaa
theorem r24_5 {o d s}:RG 24 5 [] o d s:=zaa
theorem r24_8 {o d s}:RG 24 8 [.keep [2,3,5]] o d s:=zaa
theorem r25_0 {o d s}:RG 25 0 [] o d s:=zaa
theorem r25_1 {o d s}:RG 25 1 [] o d s:=zaa
theorem r26_0 {o d s}:RG 26 0 [] o d s:=zaa
theorem r26_1 {o d s}:RG 26 1 [] o d s:=zaa
theorem r26_2 {o d s}:RG 26 2 [.weak [0,1],.keep [0,1,2,3,9]] o d s:=zaa
theorem r26_4 {o d s}:RG 26 4 [] o d s:=zaa
theorem r26_5 {o d s}:RG 26 5 [] o d s:=zaa
theorem r26_6 {o d s}:RG 26 6 [] o d s:=zaa
theorem r26_7 {o d s}:RG 26 7 [] o d s:=zaa
theorem r26_8 {o d s}:RG 26 8 [] o d s:=zaa
theorem r26_3 {o d s}:RG 26 3 [] o d s:=zaa
theorem r26_9 {o d s}:RG 26 9 [.keep [0,1,2,3,9]] o d s:=zaa
theorem r63_0 {o d s}:RG 63 0 [] o d s:=zaa
theorem r63_1 {o d s}:RG 63 1 [] o d s:=zaa
theorem r52_0 {o d s}:RG 52 0 [] o d s:=zaa
theorem r52_1 {o d s}:RG 52 1 [] o d s:=zaa
theorem r52_2 {o d s}:RG 52 2 [] o d s:=zaa
theorem r52_3 {o d s}:RG 52 3 [.keep [0,3,4]] o d s:=zaa
theorem r52_5 {o d s}:RG 52 5 [] o d s:=zaa
theorem r52_4 {o d s}:RG 52 4 [] o d s:=zaa
theorem r52_6 {o d s}:RG 52 6 [.keep [0,3,4]] o d s:=zaa
theorem r62_0 {o d s}:RG 62 0 [] o d s:=zaa
theorem r62_1 {o d s}:RG 62 1 [] o d s:=zaa
theorem r62_2 {o d s}:RG 62 2 [] o d s:=zaa
theorem r62_3 {o d s}:RG 62 3 [.keep [1,5,6]] o d s:=zaa
theorem r62_5 {o d s}:RG 62 5 [] o d s:=zaa
theorem r62_4 {o d s}:RG 62 4 [] o d s:=zaa
theorem r62_6 {o d s}:RG 62 6 [.keep [1,5,6]] o d s:=zaa
theorem r51_0 {o d s}:RG 51 0 [] o d s:=zaa
theorem r51_1 {o d s}:RG 51 1 [] o d s:=zaa
theorem r19_0 {o d s}:RG 19 0 [] o d s:=zaa
theorem r19_1 {o d s}:RG 19 1 [] o d s:=zaa
theorem r19_2 {o d s}:RG 19 2 [] o d s:=zaa
theorem r19_3 {o d s}:RG 19 3 [] o d s:=zaa
theorem r19_4 {o d s}:RG 19 4 [.weak [0,1],.keep [0,1,5]] o d s:=zaa
theorem r19_6 {o d s}:RG 19 6 [] o d s:=zaa
theorem r19_7 {o d s}:RG 19 7 [] o d s:=zaa
theorem r19_5 {o d s}:RG 19 5 [] o d s:=zaa
theorem r19_8 {o d s}:RG 19 8 [.keep [0,1,5]] o d s:=zaa
theorem r6_0 {o d s}:RG 6 0 [] o d s:=zaa
theorem r6_1 {o d s}:RG 6 1 [] o d s:=zaa
theorem r6_2 {o d s}:RG 6 2 [] o d s:=zaa
theorem r6_3 {o d s}:RG 6 3 [] o d s:=zaa
theorem r6_4 {o d s}:RG 6 4 [] o d s:=zaa
theorem r6_5 {o d s}:RG 6 5 [] o d s:=zaa
theorem r6_6 {o d s}:RG 6 6 [] o d s:=zaa
theorem r6_7 {o d s}:RG 6 7 [] o d s:=zaa
theorem r6_8 {o d s}:RG 6 8 [.weak [5,6,7,8],.keep [2,5,6,7,8,9]] o d s:=zaa
theorem r6_10 {o d s}:RG 6 10 [] o d s:=zaa
theorem r6_11 {o d s}:RG 6 11 [] o d s:=zaa
theorem r6_12 {o d s}:RG 6 12 [] o d s:=zaa
theorem r6_9 {o d s}:RG 6 9 [] o d s:=zaa
theorem r6_13 {o d s}:RG 6 13 [.keep [2,5,6,7,8,9]] o d s:=zaa
theorem r6_14 {o d s}:RG 6 14 [.weak [5,6,7,8],.keep [2,5,6,7,8,11]] o d s:=zaa
theorem r6_16 {o d s}:RG 6 16 [] o d s:=zaa
theorem r6_17 {o d s}:RG 6 17 [.weak [5,6,7,8],.keep [2,5,6,7,8,11,12]] o d s:=zaa
theorem r6_19 {o d s}:RG 6 19 [] o d s:=zaa
theorem r6_20 {o d s}:RG 6 20 [] o d s:=zaa
theorem r6_18 {o d s}:RG 6 18 [] o d s:=zaa
theorem r6_15 {o d s}:RG 6 15 [.keep [2,5,6,7,8,11,12]] o d s:=zaa
theorem r6_21 {o d s}:RG 6 21 [.keep [2,5,6,7,8,11]] o d s:=zaa
theorem r6_22 {o d s}:RG 6 22 [.weak [5,6,7,8],.keep [2,5,6,7,8,13]] o d s:=zaa
theorem r6_24 {o d s}:RG 6 24 [] o d s:=zaa
theorem r6_25 {o d s}:RG 6 25 [.weak [5,6,7,8],.keep [2,5,6,7,8,13,14]] o d s:=zaa
theorem r6_27 {o d s}:RG 6 27 [] o d s:=zaa
theorem r6_28 {o d s}:RG 6 28 [] o d s:=zaa
theorem r6_26 {o d s}:RG 6 26 [] o d s:=zaa
theorem r6_23 {o d s}:RG 6 23 [.keep [2,5,6,7,8,13,14]] o d s:=zaa
theorem r6_29 {o d s}:RG 6 29 [.keep [2,5,6,7,8,13]] o d s:=zaa
def bs:=And.intro @w_seq (And.intro @zzr (And.intro @z2z (And.intro @z01 (And.intro @zqt (And.intro @z1o (And.intro @zq0 (And.intro @z77 (And.intro @zzn (And.intro @ycw (And.intro @z8y (And.intro @zrw (And.intro @ycu (And.intro @z3j (And.intro @z7b (And.intro @z11 (And.intro @z33 (And.intro @zui (And.intro @z2q (And.intro @ybb (And.intro @zzx (And.intro @zvu (And.intro @z8n (And.intro @z3m (And.intro @yey (And.intro @ya7 (And.intro @zzt (And.intro @zv5 (And.intro @z1w (And.intro @zv7 (And.intro @zzi (And.intro @z0x (And.intro @zzo (And.intro @z1s (And.intro @z3f (And.intro @set8 (And.intro @getD8 (And.intro @List.set_cons_succ.{0} (And.intro @List.set_cons_zero.{0} (And.intro @List.getD_cons_succ.{0} (And.intro @List.getD_cons_zero.{0} (And.intro @z9a (And.intro @z6j (And.intro @z0y (And.intro @z7n (And.intro @z8m (And.intro @z9t (And.intro @z51 (And.intro @z7w (And.intro @z76 (And.intro @z64 (And.intro @z5v (And.intro @z9o (And.intro @z7p (And.intro @z7s (And.intro @Option.map_some.{0,0} (And.intro @zs1 (And.intro @zzw (And.intro @zvt (And.intro @zt7 (And.intro @Bool.false_and (And.intro @Bool.and_false (And.intro @Bool.and_true (And.intro @Bool.true_and (And.intro @Bool.not_true (And.intro @Bool.not_false (And.intro @decide_true (And.intro @decide_false (And.intro @z04 (And.intro @z5n (And.intro @zze (And.intro @z0c (And.intro @z7v (And.intro @zvn (And.intro @z5l (And.intro @z2x (And.intro @z07 (And.intro @z0h (And.intro @List.getElem?_toArray.{0} (And.intro @List.getElem?_cons_succ.{0} (And.intro @List.getElem?_cons_zero.{0} (And.intro @Option.bind_some.{0,0} (And.intro @Option.bind_none.{0,0} (And.intro @Option.map_none.{0,0} (And.intro @z6p (And.intro @List.length_cons.{0} (And.intro @List.length_nil.{0} (And.intro @List.cons_append.{0} (And.intro @List.nil_append.{0} (And.intro @zos (And.intro @z63 (And.intro @z8t (And.intro @zz1 (And.intro @zwr (And.intro @yh8 (And.intro @ybe (And.intro @ybu (And.intro @ydf (And.intro @yi0 (And.intro @zy4 (And.intro @z53 (And.intro @z2u (And.intro @zva (And.intro @zry (And.intro @z3y (And.intro @z3s (And.intro @z4x (And.intro @ybx (And.intro @z0r (And.intro @z8c (And.intro @z2k (And.intro @z9u (And.intro @z8v (And.intro @z1q (And.intro @z86 (And.intro @z8j (And.intro @if_true.{1} (And.intro @if_false.{1} (And.intro @zxb (And.intro @zyc (And.intro @z1k (And.intro @zy3 (And.intro @List.map_cons.{0,0} (And.intro @List.map_nil.{0,0} (And.intro @ycp (And.intro @ybh (And.intro @ybr (And.intro @z8q (And.intro @z7u (And.intro @yjx (And.intro @yin (And.intro @ybc (And.intro @ya3 (And.intro @ycs (And.intro @ydb (And.intro @z62 (And.intro @z59 (And.intro @Bool.not_not (@z46))))))))))))))))))))))))))))))))))))))))))))))))))))))))))))))))))))))))))))))))))))))))))))))))))))))))))))))))))))))))))))))))))))))))))
abbrev J:Dv:=.junk
def ens:=And.intro @Option.getD_some.{0} (And.intro @List.append_nil.{0} (And.intro @List.nil_append.{0} (And.intro @List.cons_append.{0} (And.intro @List.getD_cons_zero.{0} (And.intro @List.getD_cons_succ.{0} (And.intro @List.length_cons.{0} (And.intro @List.length_nil.{0} (And.intro @List.replicate_succ.{0} (@List.replicate_zero.{0})))))))))
def rs48:=And.intro @r48_0 (And.intro @r48_1 (And.intro @r48_2 (And.intro @r48_3 (And.intro @r48_4 (And.intro @r48_5 (And.intro @r48_7 (And.intro @r48_8 (And.intro @r48_9 (And.intro @r48_6 (@yjm))))))))))
def rs30:=And.intro @r30_0 (@r30_1)
def rs31:=And.intro @r31_0 (And.intro @r31_1 (And.intro @r31_2 (And.intro @r31_3 (And.intro @r31_4 (And.intro @r31_5 (And.intro @r31_7 (And.intro @r31_8 (And.intro @r31_9 (And.intro @r31_6 (And.intro @yjd (And.intro @yhy (And.intro @yfc (And.intro @ygr (And.intro @yee (And.intro @yex (@yea))))))))))))))))
def rs9:=And.intro @r9_0 (@r9_1)
def rs46:=And.intro @r46_0 (And.intro @r46_1 (And.intro @r46_2 (And.intro @r46_3 (And.intro @r46_5 (And.intro @r46_4 (@r46_6))))))
def rs22:=And.intro @r22_0 (And.intro @r22_1 (@r22_2))
def rs27:=And.intro @r27_0 (And.intro @r27_1 (And.intro @r27_2 (And.intro @r27_3 (And.intro @r27_5 (And.intro @r27_4 (@r27_6))))))
def rs23:=And.intro @r23_0 (And.intro @r23_1 (And.intro @r23_2 (And.intro @r23_3 (And.intro @r23_5 (And.intro @r23_4 (@r23_6))))))
def rs76:=And.intro @r76_0 (And.intro @r76_1 (And.intro @r76_2 (And.intro @r76_3 (And.intro @r76_4 (And.intro @r76_5 (And.intro @r76_6 (And.intro @r76_7 (And.intro @r76_8 (And.intro @r76_9 (@yer))))))))))
def rs59:=And.intro @r59_0 (And.intro @r59_1 (@r59_2))
def rs44:=And.intro @r44_0 (@r44_1)
def rs73:=And.intro @r73_0 (And.intro @r73_1 (And.intro @r73_2 (And.intro @r73_4 (And.intro @r73_5 (And.intro @r73_7 (And.intro @r73_6 (@r73_3)))))))
def rs85:=And.intro @r85_0 (And.intro @r85_1 (And.intro @r85_2 (And.intro @r85_3 (And.intro @r85_4 (And.intro @r85_5 (And.intro @r85_6 (And.intro @r85_7 (@r85_8))))))))
def rs77:=And.intro @r77_0 (And.intro @r77_1 (And.intro @r77_2 (And.intro @r77_3 (And.intro @r77_4 (And.intro @r77_5 (And.intro @r77_7 (And.intro @r77_6 (And.intro @r77_8 (And.intro @r77_9 (And.intro @yij (And.intro @ygn (@yhv))))))))))))
def rs91:=And.intro @r91_0 (And.intro @r91_1 (And.intro @r91_2 (And.intro @r91_3 (@r91_4))))
def rs89:=And.intro @r89_0 (And.intro @r89_1 (And.intro @r89_2 (And.intro @r89_3 (@r89_4))))
def rs88:=And.intro @r88_0 (@r88_1)
def rs79:=And.intro @r79_0 (And.intro @r79_1 (And.intro @r79_2 (And.intro @r79_3 (And.intro @r79_4 (And.intro @r79_5 (And.intro @r79_6 (And.intro @r79_7 (And.intro @r79_8 (And.intro @r79_9 (And.intro @ydx (And.intro @ygy (And.intro @yd9 (And.intro @yg7 (And.intro @yha (And.intro @yfn (And.intro @yhl (@yhx)))))))))))))))))
def rs80:=And.intro @r80_0 (And.intro @r80_1 (And.intro @r80_2 (And.intro @r80_3 (And.intro @r80_4 (And.intro @r80_5 (@r80_6))))))
def rs81:=And.intro @r81_0 (And.intro @r81_1 (And.intro @r81_2 (And.intro @r81_3 (And.intro @r81_5 (And.intro @r81_6 (And.intro @r81_7 (And.intro @r81_8 (And.intro @r81_9 (And.intro @yei (And.intro @yio (And.intro @yfp (And.intro @yiv (And.intro @yd4 (And.intro @yj2 (And.intro @yga (And.intro @yh1 (And.intro @yil (And.intro @yeg (And.intro @yh6 (And.intro @ye7 (And.intro @yfa (And.intro @yh0 (And.intro @r81_4 (@yd0))))))))))))))))))))))))
def rs83:=And.intro @r83_0 (And.intro @r83_1 (And.intro @r83_2 (And.intro @r83_3 (And.intro @r83_4 (And.intro @r83_5 (And.intro @r83_6 (And.intro @r83_7 (And.intro @r83_8 (And.intro @r83_9 (And.intro @ydq (And.intro @yg1 (And.intro @yfx (And.intro @yi7 (And.intro @ydz (And.intro @yft (And.intro @yja (And.intro @yd2 (And.intro @yfs (And.intro @ydp (And.intro @yf3 (And.intro @yec (@yh7))))))))))))))))))))))
def rs82:=And.intro @r82_0 (And.intro @r82_1 (And.intro @r82_2 (And.intro @r82_3 (And.intro @r82_4 (And.intro @r82_5 (And.intro @r82_6 (And.intro @r82_7 (And.intro @r82_8 (And.intro @r82_9 (And.intro @yi6 (@yez)))))))))))
def rs86:=And.intro @r86_0 (And.intro @r86_1 (@r86_2))
def rs87:=And.intro @r87_0 (And.intro @r87_1 (And.intro @r87_2 (And.intro @r87_3 (@r87_4))))
def rs78:=And.intro @r78_0 (And.intro @r78_1 (And.intro @r78_2 (And.intro @r78_3 (And.intro @r78_4 (And.intro @r78_5 (And.intro @r78_6 (And.intro @r78_8 (And.intro @r78_9 (And.intro @yd1 (And.intro @yi4 (@r78_7)))))))))))
def rs60:=And.intro @r60_0 (And.intro @r60_1 (And.intro @r60_2 (And.intro @r60_3 (And.intro @r60_4 (And.intro @r60_5 (And.intro @r60_6 (And.intro @r60_7 (And.intro @r60_8 (And.intro @r60_9 (And.intro @ygj (And.intro @ye5 (And.intro @ye1 (And.intro @yel (And.intro @ygx (And.intro @yji (And.intro @ygq (And.intro @yi2 (And.intro @ygp (And.intro @ye3 (And.intro @yiw (And.intro @yhp (And.intro @yhu (And.intro @yes (And.intro @ygl (And.intro @yhg (And.intro @yh3 (And.intro @yfu (And.intro @yju (And.intro @yiu (And.intro @yim (@yh4)))))))))))))))))))))))))))))))
def rs43:=And.intro @r43_0 (And.intro @r43_1 (And.intro @r43_2 (And.intro @r43_3 (@r43_4))))
def rs38:=And.intro @r38_0 (And.intro @r38_1 (And.intro @r38_2 (And.intro @r38_3 (And.intro @r38_4 (And.intro @r38_5 (And.intro @r38_6 (@r38_7)))))))
def rs54:=And.intro @r54_0 (And.intro @r54_1 (And.intro @r54_2 (And.intro @r54_3 (And.intro @r54_4 (And.intro @r54_5 (And.intro @r54_6 (@r54_7)))))))
def rs40:=And.intro @r40_0 (And.intro @r40_1 (And.intro @r40_2 (And.intro @r40_3 (And.intro @r40_4 (And.intro @r40_5 (And.intro @r40_6 (@r40_7)))))))
def rs34:=And.intro @r34_0 (@r34_1)
def rs61:=And.intro @r61_0 (@r61_1)
def rs50:=And.intro @r50_0 (And.intro @r50_1 (And.intro @r50_2 (And.intro @r50_3 (And.intro @r50_4 (And.intro @r50_5 (And.intro @r50_6 (@r50_7)))))))
def rs49:=And.intro @r49_0 (And.intro @r49_1 (And.intro @r49_2 (And.intro @r49_3 (And.intro @r49_4 (And.intro @r49_5 (And.intro @r49_6 (And.intro @r49_8 (And.intro @r49_7 (And.intro @r49_9 (@ydm))))))))))
def rs33:=And.intro @r33_0 (And.intro @r33_1 (And.intro @r33_2 (And.intro @r33_3 (And.intro @r33_4 (And.intro @r33_5 (And.intro @r33_6 (And.intro @r33_7 (And.intro @r33_8 (And.intro @r33_9 (And.intro @yhe (And.intro @ye9 (And.intro @yf7 (@yge)))))))))))))
def rs12:=And.intro @r12_0 (And.intro @r12_1 (@r12_2))
def rs39:=And.intro @r39_0 (And.intro @r39_1 (And.intro @r39_2 (And.intro @r39_3 (And.intro @r39_4 (And.intro @r39_5 (And.intro @r39_6 (And.intro @r39_7 (And.intro @r39_8 (@r39_9)))))))))
def rs24:=And.intro @r24_0 (And.intro @r24_1 (And.intro @r24_2 (And.intro @r24_3 (And.intro @r24_4 (And.intro @r24_6 (And.intro @r24_7 (And.intro @r24_5 (@r24_8))))))))
def rs25:=And.intro @r25_0 (@r25_1)
def rs26:=And.intro @r26_0 (And.intro @r26_1 (And.intro @r26_2 (And.intro @r26_4 (And.intro @r26_5 (And.intro @r26_6 (And.intro @r26_7 (And.intro @r26_8 (And.intro @r26_3 (@r26_9)))))))))
def rs63:=And.intro @r63_0 (@r63_1)
def rs52:=And.intro @r52_0 (And.intro @r52_1 (And.intro @r52_2 (And.intro @r52_3 (And.intro @r52_5 (And.intro @r52_4 (@r52_6))))))
def rs62:=And.intro @r62_0 (And.intro @r62_1 (And.intro @r62_2 (And.intro @r62_3 (And.intro @r62_5 (And.intro @r62_4 (@r62_6))))))
def rs51:=And.intro @r51_0 (@r51_1)
def rs19:=And.intro @r19_0 (And.intro @r19_1 (And.intro @r19_2 (And.intro @r19_3 (And.intro @r19_4 (And.intro @r19_6 (And.intro @r19_7 (And.intro @r19_5 (@r19_8))))))))
def rs6:=And.intro @r6_0 (And.intro @r6_1 (And.intro @r6_2 (And.intro @r6_3 (And.intro @r6_4 (And.intro @r6_5 (And.intro @r6_6 (And.intro @r6_7 (And.intro @r6_8 (And.intro @r6_10 (And.intro @r6_11 (And.intro @r6_12 (And.intro @r6_9 (And.intro @r6_13 (And.intro @r6_14 (And.intro @r6_16 (And.intro @r6_17 (And.intro @r6_19 (And.intro @r6_20 (And.intro @r6_18 (And.intro @r6_15 (And.intro @r6_21 (And.intro @r6_22 (And.intro @r6_24 (And.intro @r6_25 (And.intro @r6_27 (And.intro @r6_28 (And.intro @r6_26 (And.intro @r6_23 (@r6_29)))))))))))))))))))))))))))))
theorem a25:aggT Try.prog 25=some true:=by kernel_rfl
theorem z25:szOf Try.prog 25=some 4:=by kernel_rfl
theorem a23:aggT Try.prog 23=some false:=by kernel_rfl
theorem u23:Try.prog.underlying 23=some (.slice 25):=Try.underlying23
theorem a9:aggT Try.prog 9=some false:=by kernel_rfl
theorem u9:Try.prog.underlying 9=some .string:=Try.underlying9
theorem a22:aggT Try.prog 22=some false:=by kernel_rfl
theorem u22:Try.prog.underlying 22=some (.slice 9):=Try.underlying22
theorem z9:szOf Try.prog 9=some 1:=by kernel_rfl
theorem b25:bytesOf Try.prog 25=some 72:=by kernel_rfl
theorem zc25:zes Try.prog 25=some [.v (.int .i64 (0:Int)),.v (.string ByteArray.empty),.lst true 0 [],.lst true 0 []]:=by kernel_rfl
theorem u40:Try.prog.underlying 40=some (.slice 3):=Try.underlying40
theorem z3:szOf Try.prog 3=some 1:=by kernel_rfl
theorem b3:bytesOf Try.prog 3=some 8:=by kernel_rfl
theorem zc3:zes Try.prog 3=some [.v (.int .i64 (0:Int))]:=by kernel_rfl
theorem z78:szOf Try.prog 78=some 3:=by kernel_rfl
theorem a78:aggT Try.prog 78=some true:=by kernel_rfl
theorem a84:aggT Try.prog 84=some true:=by kernel_rfl
theorem z84:szOf Try.prog 84=some 2:=by kernel_rfl
theorem a64:aggT Try.prog 64=some false:=by kernel_rfl
theorem a40:aggT Try.prog 40=some false:=by kernel_rfl
theorem a3:aggT Try.prog 3=some false:=by kernel_rfl
theorem a80:aggT Try.prog 80=some false:=by kernel_rfl
theorem u36:Try.prog.underlying 36=some (.slice 43):=Try.underlying36
theorem z43:szOf Try.prog 43=some 2:=by kernel_rfl
theorem a36:aggT Try.prog 36=some false:=by kernel_rfl
theorem a43:aggT Try.prog 43=some true:=by kernel_rfl
theorem z105:szOf Try.prog 105=some 1:=by kernel_rfl
theorem a105:aggT Try.prog 105=some false:=by kernel_rfl
theorem u29:Try.prog.underlying 29=some (.slice 50):=Try.underlying29
theorem z50:szOf Try.prog 50=some 1:=by kernel_rfl
theorem b50:bytesOf Try.prog 50=some 8:=by kernel_rfl
theorem zc50:zes Try.prog 50=some [.v (.int .u64 (0:Int))]:=by kernel_rfl
theorem a50:aggT Try.prog 50=some false:=by kernel_rfl
theorem z40:szOf Try.prog 40=some 1:=by kernel_rfl
theorem u65:Try.prog.underlying 65=some (.slice 4):=Try.underlying65
theorem z4:szOf Try.prog 4=some 1:=by kernel_rfl
theorem a4:aggT Try.prog 4=some false:=by kernel_rfl
theorem b4:bytesOf Try.prog 4=some 1:=by kernel_rfl
theorem zc4:zes Try.prog 4=some [.v (.bool false)]:=by kernel_rfl
theorem z36:szOf Try.prog 36=some 1:=by kernel_rfl
theorem b43:bytesOf Try.prog 43=some 16:=by kernel_rfl
theorem zc43:zes Try.prog 43=some [.v (.int .i64 (0:Int)),.v (.int .i64 (0:Int))]:=by kernel_rfl
theorem zcn {c0 c1 c2 c3:Pv}:lkOb (some (.var [.p c0,.p c1,.p c2,.p c3])) 0 4=some (.p (.agg [c0,c1,c2,c3])):=rfl
theorem zha {id o:Nat}:zf1 Try.prog 25 (.ptr id o) 3=some (.ptr id (o+3)):=by kernel_rfl
theorem ze2 {c0 c1 c2 c3:Dv}:ldOb (some (.var [c0,c1,c2,c3])) (0+3)=some c3:=rfl
theorem zhg {full:Bool}{l:List Node}{i:Int} (h0:0≤i) (h1:i<(l.length:Int)):idxD Try.prog 23 (.p (.lst full l.length (encL en_Node l))) (.p (.v (.int .i64 i)))=some (.p (.iptr (encL en_Node l) (ato i 4))):=znu u23 z25 (by decide) zfu h0 h1
theorem zff {l:List Node}{i:Int}{v:Node} (h:rd l i=some v):lkOb (some (.frz (encL en_Node l))) (ato i 4) 4=some (.p (.agg [.v (.int .i64 v.Kind),.v (.string v.Text),.lst false v.Gaps.length (encL zdn v.Gaps),.lst false v.Kids.length (encL en_Node v.Kids)])):=(zsh zfu h).trans (by rw [zec])
theorem zoo {id o:Nat}:zf1 Try.prog 25 (.ptr id o) 1=some (.ptr id (o+1)):=by kernel_rfl
theorem zko {c0 c1 c2 c3:Dv}:ldOb (some (.var [c0,c1,c2,c3])) (0+1)=some c1:=rfl
theorem z6u {id o:Nat}:zf1 Try.prog 25 (.ptr id o) 2=some (.ptr id (o+2)):=by kernel_rfl
theorem zvr {c0 c1 c2 c3:Dv}:ldOb (some (.var [c0,c1,c2,c3])) (0+2)=some c2:=rfl
theorem yc4 {full:Bool}{l:List ByteArray}{i:Int} (h0:0≤i) (h1:i<(l.length:Int)):idxD Try.prog 22 (.p (.lst full l.length (encL zdn l))) (.p (.v (.int .i64 i)))=some (.p (.iptr (encL zdn l) (ato i 1))):=znu u22 z9 (by decide) zrp h0 h1
theorem ygm {l:List ByteArray}{i:Int}{v:ByteArray} (h:rd l i=some v):(encL zdn l)[ato i 1]?=some (.v (.string v)):=(zhx zrp h (k:=0) (by decide)).trans (by rw [z0s];rfl)
theorem zs7 {p0_0:Int}{p0_1:ByteArray}{p0_2f:Bool}{p0_2n:Nat}{p0_2c:List Pv}{p0_3f:Bool}{p0_3n:Nat}{p0_3c:List Pv}{H:List Ob}:bsD Try.prog H 23 1 [(0,.p (.agg [.v (.int .i64 p0_0),.v (.string p0_1),.lst p0_2f p0_2n p0_2c,.lst p0_3f p0_3n p0_3c]))]=some (.p (.lst true 1 [.v (.int .i64 p0_0),.v (.string p0_1),.lst false p0_2n (wks p0_2c),.lst false p0_3n (wks p0_3c)]),none):=by kernel_rfl
theorem zox {H:List Ob}{id off esz n m:Nat}{full:Bool}{new:List Pv}:ze1 Try.prog H #[23,23] (.ref id off n esz) (.p (.lst full m new))=apOb H id off n m esz 4 72 new H[id]?:=zj8 u23 u23 z25 b25 zc25 ⟨by decide,by decide,rfl⟩
theorem ybv {p0_0:Int}{H:List Ob}:bsD Try.prog H 40 1 [(0,.p (.v (.int .i64 p0_0)))]=some (.p (.lst true 1 [.v (.int .i64 p0_0)]),none):=by kernel_rfl
theorem z7l {H:List Ob}{id off esz n m:Nat}{full:Bool}{new:List Pv}:ze1 Try.prog H #[40,40] (.ref id off n esz) (.p (.lst full m new))=apOb H id off n m esz 1 8 new H[id]?:=zj8 u40 u40 z3 b3 zc3 ⟨by decide,by decide,rfl⟩
noncomputable abbrev sw68 (i n:Nat):Dv:=.fn (.func 68) [.ref i 0 n 1,.p (.v (typeHandle Try.prog 3))]
theorem al_78 {H:List Ob}:zlc Try.prog 78 H=some (.ptr H.length 0,some (H++[.var [.p (.v (.pointer none)),.p (.v (.pointer none)),.p (.v (.int .u64 (0:Int)))]])):=by kernel_rfl
theorem zqm {H:List Ob}{id:Nat}{c0 c1 c2:Dv}{d0 d2:Pv}{i1 o1:Nat}:stgOb H id 0 3 [.p d0,.ptr i1 o1,.p d2] (some (.var [c0,c1,c2]))=some (H.set id (.var [.p d0,.ptr i1 o1,.p d2])):=by simp [stgOb,setAt]
theorem zyb {f0:Fn}{l0:List Dv}{f1:Fn}{l1:List Dv}:ztn Try.prog 84 [(0,.fn f0 l0),(1,.fn f1 l1)]=some (.agg [.fn f0 l0,.fn f1 l1]):=by kernel_rfl
theorem zud {c0:Pv}{c2:Pv}{i1 o1:Nat}:lkOb (some (.var [.p c0,.ptr i1 o1,.p c2])) 0 3=some (.agg [.p c0,.ptr i1 o1,.p c2]):=rfl
theorem zjk {f0:Fn}{l0:List Dv}{f1:Fn}{l1:List Dv}:lkOb (some (.var [.fn f0 l0,.fn f1 l1])) 0 2=some (.agg [.fn f0 l0,.fn f1 l1]):=rfl
theorem zix {id o:Nat}:zf1 Try.prog 84 (.ptr id o) 0=some (.ptr id (o+0)):=by kernel_rfl
theorem zfv {c0 c1:Dv}:ldOb (some (.var [c0,c1])) (0+0)=some c0:=rfl
theorem zlb {c0:Dv}:ldOb (some (.var [c0])) 0=some c0:=rfl
theorem z4z {id m:Nat}{i:Int} (h0:0≤i) (h1:i<(m:Int)):idxD Try.prog 40 (.ref id 0 m 1) (.p (.v (.int .i64 i)))=some (.ptr id (ato i 1)):=zfz u40 z3 (by decide) h0 h1
theorem z0m {l:List Int}{i:Int}{v:Int} (h:rd l i=some v):(encL zad l)[ato i 1]?=some (.v (.int .i64 v)):=(zhx zf3 h (k:=0) (by decide)).trans (by rw [zik];rfl)
theorem zww {full:Bool}{l:List Int}{i:Int} (h0:0≤i) (h1:i<(l.length:Int)):idxD Try.prog 40 (.p (.lst full l.length (encL zad l))) (.p (.v (.int .i64 i)))=some (.p (.iptr (encL zad l) (ato i 1))):=znu u40 z3 (by decide) zf3 h0 h1
theorem zhu {id o:Nat}:zf1 Try.prog 84 (.ptr id o) 1=some (.ptr id (o+1)):=by kernel_rfl
theorem ze0 {c0 c1:Dv}:ldOb (some (.var [c0,c1])) (0+1)=some c1:=rfl
theorem zt9 {x0 x1:Int}{o0:List Int}{r:List Int} (h:swapL x0 x1 o0=some r):callW Try.prog A0 68 [iv x0,iv x1,.ref 0 0 o0.length 1,.p (.v (typeHandle Try.prog 3))] [.arr (encL zad o0)]=some (.p (.tup []),[.arr (encL zad r)]):=zwf rfl (by kernel_rfl) z3 a3 (fun x=>⟨_,rfl,rfl⟩) rfl h
theorem zsr {x:Int}:convD Try.prog 3 87 (.p (.v (.int .i64 x)))=some (.p (.v (.int .u64 (IntKind.wrap .u64 x)))):=by kernel_rfl
theorem z2t {x:Int}:convD Try.prog 87 3 (.p (.v (.int .u64 x)))=some (.p (.v (.int .i64 (IntKind.wrap .i64 x)))):=by kernel_rfl
theorem zwc {x:Int}:convD Try.prog 50 5 (.p (.v (.int .u64 x)))=some (.p (.v (.int .u8 (IntKind.wrap .u8 x)))):=by kernel_rfl
theorem yjf {x:Int}:convD Try.prog 5 3 (.p (.v (.int .u8 x)))=some (.p (.v (.int .i64 (IntKind.wrap .i64 x)))):=by kernel_rfl
theorem ya9 {id m:Nat}{i:Int} (h0:0≤i) (h1:i<(m:Int)):idxD Try.prog 36 (.ref id 0 m 2) (.p (.v (.int .i64 i)))=some (.ptr id (ato i 2)):=zfz u36 z43 (by decide) h0 h1
theorem zx9 {id o:Nat}:zf1 Try.prog 43 (.ptr id o) 0=some (.ptr id (o+0)):=by kernel_rfl
theorem zsz {l:List Pair}{i:Int}{v:Pair} (h:rd l i=some v):(encL zac l)[ato i 2+0]?=some (.v (.int .i64 v.Old)):=(zhx zhi h (k:=0) (by decide)).trans (by rw [zi3];rfl)
theorem zn5 {x0 x1:Int}{o0:List Pair}{r:List Pair} (h:swapL x0 x1 o0=some r):callW Try.prog A0 72 [iv x0,iv x1,.ref 0 0 o0.length 2,.p (.v (typeHandle Try.prog 43))] [.arr (encL zac o0)]=some (.p (.tup []),[.arr (encL zac r)]):=zzp rfl (by kernel_rfl) z43 a43 zhi rfl h
theorem al_3 {H:List Ob}:zlc Try.prog 3 H=some (.ptr H.length 0,some (H++[.var [iv (0:Int)]])):=by kernel_rfl
theorem zst {H:List Ob}{id:Nat}{c0:Dv}{d0:Dv}:stdOb H id 0 d0 (some (.var [c0]))=some (H.set id (.var [d0])):=rfl
theorem z96 {c0 c1:Pv}:znc (.p (.tup [c0,c1])) 0=some (.p c0):=rfl
theorem z9w {c0 c1:Pv}:znc (.p (.tup [c0,c1])) 1=some (.p c1):=rfl
theorem z6o {x:Int}:convD Try.prog 3 105 (.p (.v (.int .i64 x)))=some (.p (.v (.int .u64 (IntKind.wrap .u64 x)))):=by kernel_rfl
theorem yd8 {H:List Ob}:zlc Try.prog 105 H=some (.ptr H.length 0,some (H++[.var [.p (.v (.int .u64 (0:Int)))]])):=by kernel_rfl
theorem al_25 {H:List Ob}:zlc Try.prog 25 H=some (.ptr H.length 0,some (H++[.var [iv (0:Int),.p (.v (.string ByteArray.empty)),.p (.lst true 0 []),.p (.lst true 0 [])]])):=by kernel_rfl
theorem zl2 {H:List Ob}{id:Nat}{c0 c1 c2 c3:Dv}{d0 d1 d2 d3:Pv}:staOb H id 0 4 [d0,d1,d2,d3] (some (.var [c0,c1,c2,c3]))=some (H.set id (.var [(.p d0),(.p d1),(.p d2),(.p d3)])):=by simp [staOb,setAt]
theorem mk_40 {H:List Ob}{n:Int} (h0:0≤n) (h1:n*8≤140737488355328):makeD Try.prog H 40 (.p (.v (.int .i64 n))) (.p (.v (.int .i64 n)))=some (.ref H.length 0 (List.replicate n.toNat ((0:Int))).length 1,H++[.arr (encL zad (List.replicate n.toNat ((0:Int))))]):=zxj u40 z3 b3 (by rw [zik];exact zc3) ⟨by decide,by decide,zf3 _⟩ h0 h1
theorem yb3 {H:List Ob}{id:Nat}{l:List Int}{i:Int}{v:Int}{p:Int} (h:rd l i=some v):stdOb H id (ato i 1) (.p (.v (.int .i64 p))) (some (.arr (encL zad l)))=some (H.set id (.arr (encL zad (l.set i.toNat p)))):=zlo zf3 h (by decide) (by rw [zik,zik];rfl)
theorem z23 {p0_0:Int}{H:List Ob}:bsD Try.prog H 29 1 [(0,.p (.v (.int .u64 p0_0)))]=some (.p (.lst true 1 [.v (.int .u64 p0_0)]),none):=by kernel_rfl
theorem zw8 {H:List Ob}{id off esz n m:Nat}{full:Bool}{new:List Pv}:ze1 Try.prog H #[29,29] (.ref id off n esz) (.p (.lst full m new))=apOb H id off n m esz 1 8 new H[id]?:=zj8 u29 u29 z50 b50 zc50 ⟨by decide,by decide,rfl⟩
theorem zop {id o:Nat}:zf1 Try.prog 25 (.ptr id o) 0=some (.ptr id (o+0)):=by kernel_rfl
theorem zki {c0 c1 c2 c3:Dv}:ldOb (some (.var [c0,c1,c2,c3])) (0+0)=some c0:=rfl
theorem z4y {x:Int}:convD Try.prog 3 50 (.p (.v (.int .i64 x)))=some (.p (.v (.int .u64 (IntKind.wrap .u64 x)))):=by kernel_rfl
theorem z4e {x:Int}:convD Try.prog 5 50 (.p (.v (.int .u8 x)))=some (.p (.v (.int .u64 (IntKind.wrap .u64 x)))):=by kernel_rfl
theorem z4b {p0_0:Int}{p1_0:Int}:ztn Try.prog 89 [(0,.p (.v (.int .u64 p0_0))),(1,.p (.v (.int .u64 p1_0)))]=some (.p (.agg [.v (.int .u64 p0_0),.v (.int .u64 p1_0)])):=by kernel_rfl
theorem zqw {c0 c1 i v:Int} (h:rd [c0,c1] i=some v):zqo Try.prog 89 (.p (.agg [.v (.int .u64 c0),.v (.int .u64 c1)])) (.p (.v (.int .i64 i)))=some (.p (.v (.int .u64 v))):=zza (l:=[c0,c1]) Try.underlying89 a50 z50 rfl h
theorem zmn {c0 c1:Dv}:znc (.tup [c0,c1]) 0=some c0:=rfl
theorem zme {c0 c1:Dv}:znc (.tup [c0,c1]) 1=some c1:=rfl
theorem z4q {id m:Nat}{i:Int} (h0:0≤i) (h1:i<(m:Int)):idxD Try.prog 29 (.ref id 0 m 1) (.p (.v (.int .i64 i)))=some (.ptr id (ato i 1)):=zfz u29 z50 (by decide) h0 h1
theorem zxw {H:List Ob}{id:Nat}{l:List Int}{i:Int}{v:Int}{p:Int} (h:rd l i=some v):stdOb H id (ato i 1) (.p (.v (.int .u64 p))) (some (.arr (encL zbm l)))=some (H.set id (.arr (encL zbm (l.set i.toNat p)))):=zlo zi4 h (by decide) (by rw [zjh,zjh];rfl)
theorem z2o {l:List Int}{i:Int}{v:Int} (h:rd l i=some v):(encL zbm l)[ato i 1]?=some (.v (.int .u64 v)):=(zhx zi4 h (k:=0) (by decide)).trans (by rw [zjh];rfl)
theorem z03 {full:Bool}{l:List Int}{i:Int} (h0:0≤i) (h1:i<(l.length:Int)):idxD Try.prog 29 (.p (.lst full l.length (encL zbm l))) (.p (.v (.int .i64 i)))=some (.p (.iptr (encL zbm l) (ato i 1))):=znu u29 z50 (by decide) zi4 h0 h1
theorem zvz {full:Bool}{l:List Pair}{i:Int} (h0:0≤i) (h1:i<(l.length:Int)):idxD Try.prog 36 (.p (.lst full l.length (encL zac l))) (.p (.v (.int .i64 i)))=some (.p (.iptr (encL zac l) (ato i 2))):=znu u36 z43 (by decide) zhi h0 h1
theorem zus {l:List Pair}{i:Int}{v:Pair} (h:rd l i=some v):lkOb (some (.frz (encL zac l))) (ato i 2) 2=some (.p (.agg [.v (.int .i64 v.Old),.v (.int .i64 v.New)])):=(zsh zhi h).trans (by rw [zi3])
theorem al_43 {H:List Ob}:zlc Try.prog 43 H=some (.ptr H.length 0,some (H++[.var [iv (0:Int),iv (0:Int)]])):=by kernel_rfl
theorem z7z {H:List Ob}{id:Nat}{c0 c1:Dv}{d0 d1:Pv}:staOb H id 0 2 [d0,d1] (some (.var [c0,c1]))=some (H.set id (.var [(.p d0),(.p d1)])):=by simp [staOb,setAt]
theorem z80 {id o:Nat}:zf1 Try.prog 43 (.ptr id o) 1=some (.ptr id (o+1)):=by kernel_rfl
theorem zxr {cs:List Pv}{o:Nat}:zf1 Try.prog 43 (.p (.iptr cs o)) 0=some (.p (.iptr cs (o+0))):=by kernel_rfl
theorem zx4 {cs:List Pv}{o:Nat}:zf1 Try.prog 43 (.p (.iptr cs o)) 1=some (.p (.iptr cs (o+1))):=by kernel_rfl
theorem zyk {l:List Pair}{i:Int}{v:Pair} (h:rd l i=some v):(encL zac l)[ato i 2+1]?=some (.v (.int .i64 v.New)):=(zhx zhi h (k:=1) (by decide)).trans (by rw [zi3];rfl)
theorem yih :ztn Try.prog 43 []=some (.p (.agg [.v (.int .i64 (0:Int)),.v (.int .i64 (0:Int))])):=by kernel_rfl
theorem ydd {p0_0:Int}{p0_1:Int}{H:List Ob}:bsD Try.prog H 36 1 [(0,.p (.agg [.v (.int .i64 p0_0),.v (.int .i64 p0_1)]))]=some (.p (.lst true 1 [.v (.int .i64 p0_0),.v (.int .i64 p0_1)]),none):=by kernel_rfl
theorem ye0 (a0 b0:Int)(a1 b1:Int):zaq Try.prog (Op.equalIn 10000 43 (.agg #[.int .i64 a0,.int .i64 a1]) (.agg #[.int .i64 b0,.int .i64 b1]))=some (decide (a0=b0∧a1=b1)):=by
 refine (zpu (d:=9999) Try.underlying43 (by kernel_rfl)).trans ?_
 refine (z0q (by decide) rfl rfl (zoh Try.underlying3) (z0q (by decide) rfl rfl (zoh Try.underlying3) yg0)).trans ?_
 simp only [Bool.decide_and,Bool.and_true]
theorem yhq {a0 b0:Int}{a1 b1:Int}{xo yo:Operand}:binD Try.prog .neq 43 xo yo (.p (.agg [.v (.int .i64 a0),.v (.int .i64 a1)])) (.p (.agg [.v (.int .i64 b0),.v (.int .i64 b1)]))=some (.p (.v (.bool (!decide (a0=b0∧a1=b1))))):=zup rfl rfl (by kernel_rfl) (ye0 a0 b0 a1 b1)
end Xr

