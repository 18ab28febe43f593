/- A part of the proof: T0. No conditions of its own. -/
import Derived.Test.YtcpenhffpgajoaaE6
namespace Xr
open Go Go.Ev
set_option linter.unusedSimpArgs false
set_option linter.unusedVariables false
set_option linter.defProp false
def zad (x:Int):List Pv:=[.v (.int .i64 x)]
theorem zii (x:Int):zad x=[.v (.int .i64 x)]:=rfl
theorem zfz (x:Int):(zad x).length=1:=rfl
theorem z2q (x:Int):wks (zad x)=zad x:=rfl
def zbl (x:Int):List Pv:=[.v (.int .u64 x)]
theorem zi9 (x:Int):zbl x=[.v (.int .u64 x)]:=rfl
theorem zi0 (x:Int):(zbl x).length=1:=rfl
theorem z1b (x:Int):wks (zbl x)=zbl x:=rfl
def zch (x:Bool):List Pv:=[.v (.bool x)]
theorem zn0 (x:Bool):zch x=[.v (.bool x)]:=rfl
theorem zml (x:Bool):(zch x).length=1:=rfl
def zeh (x:ByteArray):List Pv:=[.v (.string x)]
theorem z2b (x:ByteArray):zeh x=[.v (.string x)]:=rfl
theorem zru (x:ByteArray):(zeh x).length=1:=rfl
theorem zt6 (x:ByteArray):wks (zeh x)=zeh x:=rfl
structure Node where
 Kind:Int
 Text:ByteArray
 Gaps:(List ByteArray)
 Kids:(List Node)
mutual
def en_Node:Node→List Pv
 | ⟨y0,y1,y2,y3⟩=>[.v (.int .i64 y0),.v (.string y1),.lst false y2.length (encL zeh y2),.lst false y3.length (zga y3)]
def zga:List Node→List Pv
 | []=>[]
 | x :: l=>en_Node x++zga l
end
theorem zl7:∀ l,zga l=encL en_Node l
 | []=>by simp [zga,encL]
 | x :: l=>by rw [zga,zbe,zl7 l]
theorem zeg (x:Node):en_Node x=[.v (.int .i64 x.Kind),.v (.string x.Text),.lst false x.Gaps.length (encL zeh x.Gaps),.lst false x.Kids.length (encL en_Node x.Kids)]:=by
 cases x
 simp only [en_Node,zl7]
theorem zfu (x:Node):(en_Node x).length=4:=by rw [zeg];rfl
abbrev zaf (x:Node):List Pv:=[.v (.int .i64 x.Kind),.v (.string x.Text),.lst false x.Gaps.length (encL zeh x.Gaps),.lst false x.Kids.length (encL en_Node x.Kids)]
mutual
theorem zqy:∀ x,wks (en_Node x)=en_Node x
 | ⟨y0,y1,y2,y3⟩=>by simp only [en_Node,wk,wks,zko zt6,zl2 y3]
theorem zl2:∀ l,wks (zga l)=zga l
 | []=>by simp only [zga,wks]
 | x :: l=>by simp only [zga,znr,zqy x,zl2 l]
end
structure Pair where
 Old:Int
 New:Int
deriving instance DecidableEq for Pair
def zac (x:Pair):List Pv:=[.v (.int .i64 x.Old),.v (.int .i64 x.New)]
theorem zdt (x:Pair):zac x=[.v (.int .i64 x.Old),.v (.int .i64 x.New)]:=rfl
theorem zds (x:Pair):(zac x).length=2:=by rw [zdt];rfl
abbrev ydw (x:Pair):List Pv:=[.v (.int .i64 x.Old),.v (.int .i64 x.New)]
theorem z0i (x:Pair):wks (zac x)=zac x:=by simp only [zdt,wk,wks]
theorem zvu (l):wks (encL zad l)=encL zad l:=zko z2q l
theorem zeb (l):wks (encL zeh l)=encL zeh l:=zko zt6 l
theorem zdp (l):wks (encL en_Node l)=encL en_Node l:=zko zqy l
theorem zu1 (l):wks (encL zac l)=encL zac l:=zko z0i l
theorem zv0 (l):wks (encL zbl l)=encL zbl l:=zko z1b l
def wkL:=And.intro @zdp (And.intro @zu1 (And.intro @zvu (And.intro @zeb (@zv0))))
inductive Wf_Node:Node→Prop
 | mk:∀ y0 y1 y2 y3,wfInt .i64 y0→wfStr y1→WfL 16 wfStr y2→(y3.length≤maxLen∧y3.length*72≤reachBytes)→(∀ x∈y3,Wf_Node x)→Wf_Node ⟨y0,y1,y2,y3⟩
end Xr

namespace Xr
open Go Go.Ev
set_option linter.unusedSimpArgs false
set_option linter.unusedVariables false
set_option linter.defProp false
noncomputable def zhc (rec:Node→Int→Int→Option Int) (s2:Int) (w0_0:Int) (w0_1:ByteArray) (w0_2:(List ByteArray)) (w0_3:(List Node)):(Int×Int)→Option (Out (Int×Int) Int):=fun (s7,s8) =>
 if s8<(w0_3.length:Int) then
  (rd w0_3 s8).bind fun v5 =>
  (rec v5 s7 (w64 (s2 - (1:Int)))).bind fun r8 =>
  if r8<(0:Int) then
   some (.ret (-1:Int))
  else
   some (.next (r8,w64 (s8+(1:Int))))
 else
  some (.jmp 0 (s7,s8))
noncomputable def R06_left.body (rec:Node→Int→Int→Option Int) (x0:Node) (x1:Int) (x2:Int):Option Int :=
 if x1<(1:Int) then
  some (-1:Int)
 else
  if x2<(1:Int) then
   some (-1:Int)
  else
   if x1<(x0.Kids.length:Int) then
    some (-1:Int)
   else
    (iter (zhc rec x2 x0.Kind x0.Text x0.Gaps x0.Kids) (w64 (x1 - (1:Int)),(0:Int))).bind fun
     | .jmp _ (s7_13,s8_13) =>
      some s7_13
     | .ret r14 =>
      some r14
     | .next _=>none
noncomputable def zfq (rec:Node→Int→Option Int) (w0_0:Int) (w0_1:ByteArray) (w0_2:(List ByteArray)) (w0_3:(List Node)):(Int×Int)→Option (Out (Int×Int) Int):=fun (s5,s7) =>
 if s7<(w0_3.length:Int) then
  (rd w0_3 s7).bind fun v12 =>
  (rec v12 s5).bind fun r15 =>
  if r15<(0:Int) then
   some (.ret (-1:Int))
  else
   some (.next (r15,w64 (s7+(1:Int))))
 else
  some (.jmp 2 (s5,s7))
noncomputable def zfo (rec:Node→Int→Option Int) (w0_0:Int) (w0_1:ByteArray) (w0_2:(List ByteArray)) (w0_3:(List Node)):(Int×Int)→Option (Out (Int×Int) Int):=fun (s5,s6) =>
 if s6<(w0_2.length:Int) then
  (rd w0_2 s6).bind fun v4 =>
  if s5≤(v4.size:Int) then
   some (.ret (-1:Int))
  else
   some (.next (w64 ((w64 (s5 - (v4.size:Int))) - (1:Int)),w64 (s6+(1:Int))))
 else
  some (.jmp 0 (s5,s6))
noncomputable def R06_weigh.body (rec:Node→Int→Option Int) (x0:Node) (x1:Int):Option Int :=
 if x1<(x0.Text.size:Int) then
  some (-1:Int)
 else
  if x1<(x0.Gaps.length:Int) then
   some (-1:Int)
  else
   (iter (zfo rec x0.Kind x0.Text x0.Gaps x0.Kids) (w64 (x1 - (x0.Text.size:Int)),(0:Int))).bind fun
    | .jmp _ (s5_10,s6_10) =>
     (iter (zfq rec x0.Kind x0.Text x0.Gaps x0.Kids) (s5_10,(0:Int))).bind fun
      | .jmp _ (s5_20,s7_20) =>
       some s5_20
      | .ret r21 =>
       some r21
      | .next _=>none
    | .ret r22 =>
     some r22
    | .next _=>none
noncomputable def zib (x0:Int) (x1:Int):Option Int :=
 some (IntKind.wrap .u64 ((xorK .u64 x0 (IntKind.wrap .u64 x1))*(1099511628211:Int)))
noncomputable def zf6 (s7:Int) (a11_0:Int) (a11_1:Int) (s12:Int):(Int×Int)→Option (Out (Int×Int) Int):=fun (s5,s8) =>
 if (0:Int)≤s8 then
  (shrK .u64 s7 (IntKind.wrap .u64 s8)).bind fun q6 =>
  (zib s5 (IntKind.wrap .u8 q6)).bind fun r9 =>
  some (.next (r9,w64 (s8 - (8:Int))))
 else
  some (.jmp 2 (s5,s8))
noncomputable def zej (a11_0:Int) (a11_1:Int):(Int×Int)→Option (Out (Int×Int) Int):=fun (s5,s12) =>
 if s12<(2:Int) then
  (rd [a11_0,a11_1] s12).bind fun q2 =>
  (iter (zf6 q2 a11_0 a11_1 s12) (s5,(56:Int))).bind fun
   | .jmp _ (s5_13,s8_13) =>
    some (.next (s5_13,w64 (s12+(1:Int))))
   | _=>none
 else
  some (.jmp 0 (s5,s12))
noncomputable def zhq (x0:Int) (x1:Int):Option Int :=
 (iter (zej x0 x1) ((14695981039346656037:Int),(0:Int))).bind fun
  | .jmp _ (s5_15,s12_15) =>
   some s5_15
  | _=>none
noncomputable def zf5 (s0:ByteArray) (s6:Int):(Int×Int)→Option (Out (Int×Int) Int):=fun (s3,s7) =>
 if s7<s6 then
  (bt s0 s7).bind fun q2 =>
  (zib s3 q2).bind fun r5 =>
  some (.next (r5,w64 (s7+(1:Int))))
 else
  some (.jmp 0 (s3,s7))
noncomputable def zi4 (x0:ByteArray):Option Int :=
 (iter (zf5 x0 (x0.size:Int)) ((14695981039346656037:Int),(0:Int))).bind fun
  | .jmp _ (s3_9,s7_9) =>
   some s3_9
  | _=>none
noncomputable def zki (x0:Int) (x1:Int):Option Int :=
 some (IntKind.wrap .u64 ((xorK .u64 x0 (IntKind.wrap .u64 x1))*(1099511628211:Int)))
noncomputable def zh1 (s0:ByteArray):(Int×Int)→Option (Out (Int×Int) Int):=fun (s3,s4) =>
 if s4<(s0.size:Int) then
  (bt s0 s4).bind fun q2 =>
  (zki s3 q2).bind fun r5 =>
  some (.next (r5,w64 (s4+(1:Int))))
 else
  some (.jmp 0 (s3,s4))
noncomputable def znu (x0:ByteArray):Option Int :=
 (iter (zh1 x0) ((14695981039346656037:Int),(0:Int))).bind fun
  | .jmp _ (s3_9,s4_9) =>
   some s3_9
  | _=>none
noncomputable def zgb (s1:Int):(Int×Int)→Option (Out (Int×Int) Int):=fun (s5,s6) =>
 if (0:Int)≤s6 then
  (shrK .u64 s1 s6).bind fun q2 =>
  (zki s5 (IntKind.wrap .u8 q2)).bind fun r5 =>
  some (.next (r5,w64 (s6 - (8:Int))))
 else
  some (.jmp 0 (s5,s6))
noncomputable def zh5 (x0:Int) (x1:Int):Option Int :=
 (iter (zgb x1) (x0,(56:Int))).bind fun
  | .jmp _ (s5_9,s6_9) =>
   some s5_9
  | _=>none
noncomputable def zs3 (x0:Int) (x1:Int):Option Int :=
 (znu (ByteArray.mk #[])).bind fun r1 =>
 (zh5 r1 x0).bind fun r4 =>
 (zh5 r4 x1).bind fun r7 =>
 some r7
noncomputable def zdr (x0:Int):Option Int :=
 if (4294967296:Int)≤x0 then
  (shrK .u64 x0 (32:Int)).bind fun q2 =>
  if (65536:Int)≤q2 then
   (shrK .u64 q2 (16:Int)).bind fun q6 =>
   if (256:Int)≤q6 then
    (shrK .u64 q6 (8:Int)).bind fun q10 =>
    (bt (ByteArray.mk (((([0,1,2,2,3,3,3,3,4,4,4,4,4,4,4,4,5,5,5,5,5,5,5,5,5,5,5,5,5,5,5,5,6,6,6,6,6,6,6,6,6,6,6,6,6,6,6,6,6,6,6,6,6,6,6,6,6,6,6,6,6,6,6,6]:List UInt8).append ([7,7,7,7,7,7,7,7,7,7,7,7,7,7,7,7,7,7,7,7,7,7,7,7,7,7,7,7,7,7,7,7,7,7,7,7,7,7,7,7,7,7,7,7,7,7,7,7,7,7,7,7,7,7,7,7,7,7,7,7,7,7,7,7]:List UInt8)).append (([8,8,8,8,8,8,8,8,8,8,8,8,8,8,8,8,8,8,8,8,8,8,8,8,8,8,8,8,8,8,8,8,8,8,8,8,8,8,8,8,8,8,8,8,8,8,8,8,8,8,8,8,8,8,8,8,8,8,8,8,8,8,8,8]:List UInt8).append ([8,8,8,8,8,8,8,8,8,8,8,8,8,8,8,8,8,8,8,8,8,8,8,8,8,8,8,8,8,8,8,8,8,8,8,8,8,8,8,8,8,8,8,8,8,8,8,8,8,8,8,8,8,8,8,8,8,8,8,8,8,8,8,8]:List UInt8))).toArray)) (IntKind.wrap .u8 q10)).bind fun q13 =>
    some (w64 ((w64 ((w64 ((32:Int)+(16:Int)))+(8:Int)))+(IntKind.wrap .i64 q13)))
   else
    (bt (ByteArray.mk (((([0,1,2,2,3,3,3,3,4,4,4,4,4,4,4,4,5,5,5,5,5,5,5,5,5,5,5,5,5,5,5,5,6,6,6,6,6,6,6,6,6,6,6,6,6,6,6,6,6,6,6,6,6,6,6,6,6,6,6,6,6,6,6,6]:List UInt8).append ([7,7,7,7,7,7,7,7,7,7,7,7,7,7,7,7,7,7,7,7,7,7,7,7,7,7,7,7,7,7,7,7,7,7,7,7,7,7,7,7,7,7,7,7,7,7,7,7,7,7,7,7,7,7,7,7,7,7,7,7,7,7,7,7]:List UInt8)).append (([8,8,8,8,8,8,8,8,8,8,8,8,8,8,8,8,8,8,8,8,8,8,8,8,8,8,8,8,8,8,8,8,8,8,8,8,8,8,8,8,8,8,8,8,8,8,8,8,8,8,8,8,8,8,8,8,8,8,8,8,8,8,8,8]:List UInt8).append ([8,8,8,8,8,8,8,8,8,8,8,8,8,8,8,8,8,8,8,8,8,8,8,8,8,8,8,8,8,8,8,8,8,8,8,8,8,8,8,8,8,8,8,8,8,8,8,8,8,8,8,8,8,8,8,8,8,8,8,8,8,8,8,8]:List UInt8))).toArray)) (IntKind.wrap .u8 q6)).bind fun q16 =>
    some (w64 ((w64 ((32:Int)+(16:Int)))+(IntKind.wrap .i64 q16)))
  else
   if (256:Int)≤q2 then
    (shrK .u64 q2 (8:Int)).bind fun q20 =>
    (bt (ByteArray.mk (((([0,1,2,2,3,3,3,3,4,4,4,4,4,4,4,4,5,5,5,5,5,5,5,5,5,5,5,5,5,5,5,5,6,6,6,6,6,6,6,6,6,6,6,6,6,6,6,6,6,6,6,6,6,6,6,6,6,6,6,6,6,6,6,6]:List UInt8).append ([7,7,7,7,7,7,7,7,7,7,7,7,7,7,7,7,7,7,7,7,7,7,7,7,7,7,7,7,7,7,7,7,7,7,7,7,7,7,7,7,7,7,7,7,7,7,7,7,7,7,7,7,7,7,7,7,7,7,7,7,7,7,7,7]:List UInt8)).append (([8,8,8,8,8,8,8,8,8,8,8,8,8,8,8,8,8,8,8,8,8,8,8,8,8,8,8,8,8,8,8,8,8,8,8,8,8,8,8,8,8,8,8,8,8,8,8,8,8,8,8,8,8,8,8,8,8,8,8,8,8,8,8,8]:List UInt8).append ([8,8,8,8,8,8,8,8,8,8,8,8,8,8,8,8,8,8,8,8,8,8,8,8,8,8,8,8,8,8,8,8,8,8,8,8,8,8,8,8,8,8,8,8,8,8,8,8,8,8,8,8,8,8,8,8,8,8,8,8,8,8,8,8]:List UInt8))).toArray)) (IntKind.wrap .u8 q20)).bind fun q23 =>
    some (w64 ((w64 ((32:Int)+(8:Int)))+(IntKind.wrap .i64 q23)))
   else
    (bt (ByteArray.mk (((([0,1,2,2,3,3,3,3,4,4,4,4,4,4,4,4,5,5,5,5,5,5,5,5,5,5,5,5,5,5,5,5,6,6,6,6,6,6,6,6,6,6,6,6,6,6,6,6,6,6,6,6,6,6,6,6,6,6,6,6,6,6,6,6]:List UInt8).append ([7,7,7,7,7,7,7,7,7,7,7,7,7,7,7,7,7,7,7,7,7,7,7,7,7,7,7,7,7,7,7,7,7,7,7,7,7,7,7,7,7,7,7,7,7,7,7,7,7,7,7,7,7,7,7,7,7,7,7,7,7,7,7,7]:List UInt8)).append (([8,8,8,8,8,8,8,8,8,8,8,8,8,8,8,8,8,8,8,8,8,8,8,8,8,8,8,8,8,8,8,8,8,8,8,8,8,8,8,8,8,8,8,8,8,8,8,8,8,8,8,8,8,8,8,8,8,8,8,8,8,8,8,8]:List UInt8).append ([8,8,8,8,8,8,8,8,8,8,8,8,8,8,8,8,8,8,8,8,8,8,8,8,8,8,8,8,8,8,8,8,8,8,8,8,8,8,8,8,8,8,8,8,8,8,8,8,8,8,8,8,8,8,8,8,8,8,8,8,8,8,8,8]:List UInt8))).toArray)) (IntKind.wrap .u8 q2)).bind fun q26 =>
    some (w64 ((32:Int)+(IntKind.wrap .i64 q26)))
 else
  if (65536:Int)≤x0 then
   (shrK .u64 x0 (16:Int)).bind fun q30 =>
   if (256:Int)≤q30 then
    (shrK .u64 q30 (8:Int)).bind fun q34 =>
    (bt (ByteArray.mk (((([0,1,2,2,3,3,3,3,4,4,4,4,4,4,4,4,5,5,5,5,5,5,5,5,5,5,5,5,5,5,5,5,6,6,6,6,6,6,6,6,6,6,6,6,6,6,6,6,6,6,6,6,6,6,6,6,6,6,6,6,6,6,6,6]:List UInt8).append ([7,7,7,7,7,7,7,7,7,7,7,7,7,7,7,7,7,7,7,7,7,7,7,7,7,7,7,7,7,7,7,7,7,7,7,7,7,7,7,7,7,7,7,7,7,7,7,7,7,7,7,7,7,7,7,7,7,7,7,7,7,7,7,7]:List UInt8)).append (([8,8,8,8,8,8,8,8,8,8,8,8,8,8,8,8,8,8,8,8,8,8,8,8,8,8,8,8,8,8,8,8,8,8,8,8,8,8,8,8,8,8,8,8,8,8,8,8,8,8,8,8,8,8,8,8,8,8,8,8,8,8,8,8]:List UInt8).append ([8,8,8,8,8,8,8,8,8,8,8,8,8,8,8,8,8,8,8,8,8,8,8,8,8,8,8,8,8,8,8,8,8,8,8,8,8,8,8,8,8,8,8,8,8,8,8,8,8,8,8,8,8,8,8,8,8,8,8,8,8,8,8,8]:List UInt8))).toArray)) (IntKind.wrap .u8 q34)).bind fun q37 =>
    some (w64 ((w64 ((w64 ((0:Int)+(16:Int)))+(8:Int)))+(IntKind.wrap .i64 q37)))
   else
    (bt (ByteArray.mk (((([0,1,2,2,3,3,3,3,4,4,4,4,4,4,4,4,5,5,5,5,5,5,5,5,5,5,5,5,5,5,5,5,6,6,6,6,6,6,6,6,6,6,6,6,6,6,6,6,6,6,6,6,6,6,6,6,6,6,6,6,6,6,6,6]:List UInt8).append ([7,7,7,7,7,7,7,7,7,7,7,7,7,7,7,7,7,7,7,7,7,7,7,7,7,7,7,7,7,7,7,7,7,7,7,7,7,7,7,7,7,7,7,7,7,7,7,7,7,7,7,7,7,7,7,7,7,7,7,7,7,7,7,7]:List UInt8)).append (([8,8,8,8,8,8,8,8,8,8,8,8,8,8,8,8,8,8,8,8,8,8,8,8,8,8,8,8,8,8,8,8,8,8,8,8,8,8,8,8,8,8,8,8,8,8,8,8,8,8,8,8,8,8,8,8,8,8,8,8,8,8,8,8]:List UInt8).append ([8,8,8,8,8,8,8,8,8,8,8,8,8,8,8,8,8,8,8,8,8,8,8,8,8,8,8,8,8,8,8,8,8,8,8,8,8,8,8,8,8,8,8,8,8,8,8,8,8,8,8,8,8,8,8,8,8,8,8,8,8,8,8,8]:List UInt8))).toArray)) (IntKind.wrap .u8 q30)).bind fun q40 =>
    some (w64 ((w64 ((0:Int)+(16:Int)))+(IntKind.wrap .i64 q40)))
  else
   if (256:Int)≤x0 then
    (shrK .u64 x0 (8:Int)).bind fun q44 =>
    (bt (ByteArray.mk (((([0,1,2,2,3,3,3,3,4,4,4,4,4,4,4,4,5,5,5,5,5,5,5,5,5,5,5,5,5,5,5,5,6,6,6,6,6,6,6,6,6,6,6,6,6,6,6,6,6,6,6,6,6,6,6,6,6,6,6,6,6,6,6,6]:List UInt8).append ([7,7,7,7,7,7,7,7,7,7,7,7,7,7,7,7,7,7,7,7,7,7,7,7,7,7,7,7,7,7,7,7,7,7,7,7,7,7,7,7,7,7,7,7,7,7,7,7,7,7,7,7,7,7,7,7,7,7,7,7,7,7,7,7]:List UInt8)).append (([8,8,8,8,8,8,8,8,8,8,8,8,8,8,8,8,8,8,8,8,8,8,8,8,8,8,8,8,8,8,8,8,8,8,8,8,8,8,8,8,8,8,8,8,8,8,8,8,8,8,8,8,8,8,8,8,8,8,8,8,8,8,8,8]:List UInt8).append ([8,8,8,8,8,8,8,8,8,8,8,8,8,8,8,8,8,8,8,8,8,8,8,8,8,8,8,8,8,8,8,8,8,8,8,8,8,8,8,8,8,8,8,8,8,8,8,8,8,8,8,8,8,8,8,8,8,8,8,8,8,8,8,8]:List UInt8))).toArray)) (IntKind.wrap .u8 q44)).bind fun q47 =>
    some (w64 ((w64 ((0:Int)+(8:Int)))+(IntKind.wrap .i64 q47)))
   else
    (bt (ByteArray.mk (((([0,1,2,2,3,3,3,3,4,4,4,4,4,4,4,4,5,5,5,5,5,5,5,5,5,5,5,5,5,5,5,5,6,6,6,6,6,6,6,6,6,6,6,6,6,6,6,6,6,6,6,6,6,6,6,6,6,6,6,6,6,6,6,6]:List UInt8).append ([7,7,7,7,7,7,7,7,7,7,7,7,7,7,7,7,7,7,7,7,7,7,7,7,7,7,7,7,7,7,7,7,7,7,7,7,7,7,7,7,7,7,7,7,7,7,7,7,7,7,7,7,7,7,7,7,7,7,7,7,7,7,7,7]:List UInt8)).append (([8,8,8,8,8,8,8,8,8,8,8,8,8,8,8,8,8,8,8,8,8,8,8,8,8,8,8,8,8,8,8,8,8,8,8,8,8,8,8,8,8,8,8,8,8,8,8,8,8,8,8,8,8,8,8,8,8,8,8,8,8,8,8,8]:List UInt8).append ([8,8,8,8,8,8,8,8,8,8,8,8,8,8,8,8,8,8,8,8,8,8,8,8,8,8,8,8,8,8,8,8,8,8,8,8,8,8,8,8,8,8,8,8,8,8,8,8,8,8,8,8,8,8,8,8,8,8,8,8,8,8,8,8]:List UInt8))).toArray)) (IntKind.wrap .u8 x0)).bind fun q50 =>
    some (w64 ((0:Int)+(IntKind.wrap .i64 q50)))
noncomputable def zdj (x0:Int):Option Int :=
 (zdr x0).bind fun r1 =>
 some r1
noncomputable def zaz (x0:Int) (x1:Int) (o1:(List Pair)):Option Bool :=
 (rd o1 x0).bind fun v1 =>
 (rd o1 x1).bind fun v4 =>
 some (decide (v1.Old<v4.Old))
noncomputable def zc0 (s1:Int) (s2:Int) (s6:Int):(Int×(List Pair))→Option (Out (Int×(List Pair)) (List Pair)):=fun (s7,y1) =>
 if s1<s7 then
  (zaz s7 (w64 (s7 - (1:Int))) y1).bind fun r3 =>
  if r3=true then
   (swapL s7 (w64 (s7 - (1:Int))) y1).bind fun r9 =>
   if r9.length=y1.length then
    some (.next (w64 (s7 - (1:Int)),r9))
   else none
  else
   some (.jmp 2 (s7,y1))
 else
  some (.jmp 2 (s7,y1))
noncomputable def zc2 (s1:Int) (s2:Int):(Int×(List Pair))→Option (Out (Int×(List Pair)) (List Pair)):=fun (s6,y1) =>
 if s6<s2 then
  (iter (zc0 s1 s2 s6) (s6,y1)).bind fun
   | .jmp _ (s7_12,y1_12) =>
    some (.next (w64 (s6+(1:Int)),y1_12))
   | _=>none
 else
  some (.jmp 0 (s6,y1))
noncomputable def zcz (x1:Int) (x2:Int) (o1:(List Pair)):Option (List Pair) :=
 (iter (zc2 x1 x2) (w64 (x1+(1:Int)),o1)).bind fun
  | .jmp _ (s6_14,y1_14) =>
   some y1_14
  | _=>none
noncomputable def zeo (s2:Int) (s3:Int):(Int×(List Pair))→Option (Out (Int×(List Pair)) (List Pair)):=fun (s8,y1) =>
 if s2≤(w64 ((w64 ((2:Int)*s8))+(1:Int))) then
  some (.jmp 0 (s8,y1))
 else
  if (w64 ((w64 ((w64 ((2:Int)*s8))+(1:Int)))+(1:Int)))<s2 then
   (zaz (w64 (s3+(w64 ((w64 ((2:Int)*s8))+(1:Int))))) (w64 ((w64 (s3+(w64 ((w64 ((2:Int)*s8))+(1:Int)))))+(1:Int))) y1).bind fun r33 =>
   if r33=true then
    (zaz (w64 (s3+s8)) (w64 (s3+(w64 ((w64 ((w64 ((2:Int)*s8))+(1:Int)))+(1:Int))))) y1).bind fun r37 =>
    if r37=true then
     (swapL (w64 (s3+s8)) (w64 (s3+(w64 ((w64 ((w64 ((2:Int)*s8))+(1:Int)))+(1:Int))))) y1).bind fun r43 =>
     if r43.length=y1.length then
      some (.next (w64 ((w64 ((w64 ((2:Int)*s8))+(1:Int)))+(1:Int)),r43))
     else none
    else
     some (.ret y1)
   else
    (zaz (w64 (s3+s8)) (w64 (s3+(w64 ((w64 ((2:Int)*s8))+(1:Int))))) y1).bind fun r45 =>
    if r45=true then
     (swapL (w64 (s3+s8)) (w64 (s3+(w64 ((w64 ((2:Int)*s8))+(1:Int))))) y1).bind fun r51 =>
     if r51.length=y1.length then
      some (.next (w64 ((w64 ((2:Int)*s8))+(1:Int)),r51))
     else none
    else
     some (.ret y1)
  else
   (zaz (w64 (s3+s8)) (w64 (s3+(w64 ((w64 ((2:Int)*s8))+(1:Int))))) y1).bind fun r53 =>
   if r53=true then
    (swapL (w64 (s3+s8)) (w64 (s3+(w64 ((w64 ((2:Int)*s8))+(1:Int))))) y1).bind fun r59 =>
    if r59.length=y1.length then
     some (.next (w64 ((w64 ((2:Int)*s8))+(1:Int)),r59))
    else none
   else
    some (.ret y1)
noncomputable def zc8 (x1:Int) (x2:Int) (x3:Int) (o1:(List Pair)):Option (List Pair) :=
 (iter (zeo x2 x3) (x1,o1)).bind fun
  | .jmp _ (s8_62,y1_62) =>
   some y1_62
  | .ret r63 =>
   some r63
  | .next _=>none
noncomputable def zeq (s6:Int) (s7:Int):(Int×(List Pair))→Option (Out (Int×(List Pair)) (List Pair)):=fun (s10,y1) =>
 if (0:Int)≤s10 then
  (swapL s6 (w64 (s6+s10)) y1).bind fun r14 =>
  if r14.length=y1.length then
   (zc8 s7 s10 s6 r14).bind fun r16 =>
   if r16.length=r14.length then
    some (.next (w64 (s10 - (1:Int)),r16))
   else none
  else none
 else
  some (.jmp 2 (s10,y1))
noncomputable def zet (s6:Int) (s7:Int) (s8:Int):(Int×(List Pair))→Option (Out (Int×(List Pair)) (List Pair)):=fun (s9,y1) =>
 if (0:Int)≤s9 then
  (zc8 s9 s8 s6 y1).bind fun r5 =>
  if r5.length=y1.length then
   some (.next (w64 (s9 - (1:Int)),r5))
  else none
 else
  some (.jmp 0 (s9,y1))
noncomputable def zex (x1:Int) (x2:Int) (o1:(List Pair)):Option (List Pair) :=
 (quoK .i64 (w64 ((w64 (x2 - x1)) - (1:Int))) (2:Int)).bind fun q1 =>
 (iter (zet x1 (0:Int) (w64 (x2 - x1))) (q1,o1)).bind fun
  | .jmp _ (s9_10,y1_10) =>
   (iter (zeq x1 (0:Int)) (w64 ((w64 (x2 - x1)) - (1:Int)),y1_10)).bind fun
    | .jmp _ (s10_21,y1_21) =>
     some y1_21
    | _=>none
  | _=>none
noncomputable def zcg (x1:Int) (x2:Int) (o1:(List Pair)) (o2:Int):Option (Int×Int×Int) :=
 (zaz x2 x1 o1).bind fun r1 =>
 if r1=true then
  some (x2,x1,w64 (o2+(1:Int)))
 else
  some (x1,x2,o2)
noncomputable def zb5 (x1:Int) (x2:Int) (x3:Int) (o1:(List Pair)) (o2:Int):Option (Int×Int) :=
 (zcg x1 x2 o1 o2).bind fun r1 =>
 (zcg r1.2.1 x3 o1 r1.2.2).bind fun r4 =>
 (zcg r1.1 r4.1 o1 r4.2.2).bind fun r7 =>
 some (r7.2.1,r7.2.2)
noncomputable def za4 (x1:Int) (o1:(List Pair)) (o2:Int):Option (Int×Int) :=
 (zb5 (w64 (x1 - (1:Int))) x1 (w64 (x1+(1:Int))) o1 o2).bind fun r1 =>
 some (r1.1,r1.2)
noncomputable def zcc (x1:Int) (x2:Int) (o1:(List Pair)):Option (Int×Int) :=
 (quoK .i64 (w64 (x2 - x1)) (4:Int)).bind fun q1 =>
 if (8:Int)≤(w64 (x2 - x1)) then
  if (50:Int)≤(w64 (x2 - x1)) then
   (za4 (w64 (x1+(w64 (q1*(1:Int))))) o1 (0:Int)).bind fun r6 =>
   (za4 (w64 (x1+(w64 (q1*(2:Int))))) o1 r6.2).bind fun r9 =>
   (za4 (w64 (x1+(w64 (q1*(3:Int))))) o1 r9.2).bind fun r12 =>
   (zb5 r6.1 r9.1 r12.1 o1 r12.2).bind fun r15 =>
   if r15.2=(0:Int) then
    some (r15.1,(1:Int))
   else
    if r15.2=(12:Int) then
     some (r15.1,(2:Int))
    else
     some (r15.1,(0:Int))
  else
   (zb5 (w64 (x1+(w64 (q1*(1:Int))))) (w64 (x1+(w64 (q1*(2:Int))))) (w64 (x1+(w64 (q1*(3:Int))))) o1 (0:Int)).bind fun r20 =>
   if r20.2=(0:Int) then
    some (r20.1,(1:Int))
   else
    if r20.2=(12:Int) then
     some (r20.1,(2:Int))
    else
     some (r20.1,(0:Int))
 else
  some (w64 (x1+(w64 (q1*(2:Int)))),(1:Int))
noncomputable def zdg:(Int×Int×(List Pair))→Option (Out (Int×Int×(List Pair)) (List Pair)):=fun (s6,s7,y1) =>
 if s6<s7 then
  (swapL s6 s7 y1).bind fun r9 =>
  if r9.length=y1.length then
   some (.next (w64 (s6+(1:Int)),w64 (s7 - (1:Int)),r9))
  else none
 else
  some (.jmp 0 (s6,s7,y1))
noncomputable def zb3 (x1:Int) (x2:Int) (o1:(List Pair)):Option (List Pair) :=
 (iter (zdg) (x1,w64 (x2 - (1:Int)),o1)).bind fun
  | .jmp _ (s6_12,s7_12,y1_12) =>
   some y1_12
  | _=>none
noncomputable def zbh (s1:Int) (s2:Int) (s7:Int) (s8:Int):(Int×(List Pair))→Option (Out (Int×(List Pair)) (Bool×(List Pair))):=fun (s10,y1) =>
 if s10<s2 then
  (zaz s10 (w64 (s10 - (1:Int))) y1).bind fun r41 =>
  if r41=true then
   (swapL s10 (w64 (s10 - (1:Int))) y1).bind fun r47 =>
   if r47.length=y1.length then
    some (.next (w64 (s10+(1:Int)),r47))
   else none
  else
   some (.jmp 6 (s10,y1))
 else
  some (.jmp 6 (s10,y1))
noncomputable def zby (s1:Int) (s2:Int) (s7:Int) (s8:Int):(Int×(List Pair))→Option (Out (Int×(List Pair)) (Bool×(List Pair))):=fun (s9,y1) =>
 if (1:Int)≤s9 then
  (zaz s9 (w64 (s9 - (1:Int))) y1).bind fun r17 =>
  if r17=true then
   (swapL s9 (w64 (s9 - (1:Int))) y1).bind fun r23 =>
   if r23.length=y1.length then
    some (.next (w64 (s9 - (1:Int)),r23))
   else none
  else
   some (.jmp 4 (s9,y1))
 else
  some (.jmp 4 (s9,y1))
noncomputable def zbx (s1:Int) (s2:Int) (s8:Int) (y1:(List Pair)):Int→Option (Out (Int) (Bool×(List Pair))):=fun s7 =>
 if s7<s2 then
  (zaz s7 (w64 (s7 - (1:Int))) y1).bind fun r3 =>
  if r3=true then
   some (.jmp 2 s7)
  else
   some (.next (w64 (s7+(1:Int))))
 else
  some (.jmp 2 s7)
noncomputable def zbw (s1:Int) (s2:Int):(Int×Int×(List Pair))→Option (Out (Int×Int×(List Pair)) (Bool×(List Pair))):=fun (s7,s8,y1) =>
 if s8<(5:Int) then
  (iter (zbx s1 s2 s8 y1) s7).bind fun
   | .jmp _ s7_8 =>
    if s7_8=s2 then
     some (.ret (true,y1))
    else
     if (w64 (s2 - s1))<(50:Int) then
      some (.ret (false,y1))
     else
      (swapL s7_8 (w64 (s7_8 - (1:Int))) y1).bind fun r13 =>
      if r13.length=y1.length then
       if (2:Int)≤(w64 (s7_8 - s1)) then
        (iter (zby s1 s2 s7_8 s8) (w64 (s7_8 - (1:Int)),r13)).bind fun
         | .jmp _ (s9_26,y1_26) =>
          if (2:Int)≤(w64 (s2 - s7_8)) then
           (iter (zbh s1 s2 s7_8 s8) (w64 (s7_8+(1:Int)),y1_26)).bind fun
            | .jmp _ (s10_38,y1_38) =>
             some (.next (s7_8,w64 (s8+(1:Int)),y1_38))
            | _=>none
          else
           some (.next (s7_8,w64 (s8+(1:Int)),y1_26))
         | _=>none
       else
        if (2:Int)≤(w64 (s2 - s7_8)) then
         (iter (zbh s1 s2 s7_8 s8) (w64 (s7_8+(1:Int)),r13)).bind fun
          | .jmp _ (s10_50,y1_50) =>
           some (.next (s7_8,w64 (s8+(1:Int)),y1_50))
          | _=>none
        else
         some (.next (s7_8,w64 (s8+(1:Int)),r13))
      else none
   | _=>none
 else
  some (.jmp 0 (s7,s8,y1))
noncomputable def za9 (x1:Int) (x2:Int) (o1:(List Pair)):Option (Bool×(List Pair)) :=
 (iter (zbw x1 x2) (w64 (x1+(1:Int)),(0:Int),o1)).bind fun
  | .jmp _ (s7_52,s8_52,y1_52) =>
   some (false,y1_52)
  | .ret r53 =>
   some r53
  | .next _=>none
noncomputable def zd9 (s1:Int) (s10:Int) (y1:(List Pair)):Int→Option (Out (Int) (Int×Bool×(List Pair))):=fun s11 =>
 if s10≤s11 then
  (zaz s11 s1 y1).bind fun r36 =>
  if r36=true then
   some (.jmp 8 s11)
  else
   some (.next (w64 (s11 - (1:Int))))
 else
  some (.jmp 8 s11)
noncomputable def zd7 (s1:Int) (s11:Int) (y1:(List Pair)):Int→Option (Out (Int) (Int×Bool×(List Pair))):=fun s10 =>
 if s10≤s11 then
  (zaz s10 s1 y1).bind fun r29 =>
  if r29=true then
   some (.next (w64 (s10+(1:Int))))
  else
   some (.jmp 6 s10)
 else
  some (.jmp 6 s10)
noncomputable def zd4 (s1:Int):(Int×Int×(List Pair))→Option (Out (Int×Int×(List Pair)) (Int×Bool×(List Pair))):=fun (s10,s11,y1) =>
 (iter (zd7 s1 s11 y1) s10).bind fun
  | .jmp _ s10_34 =>
   (iter (zd9 s1 s10_34 y1) s11).bind fun
    | .jmp _ s11_41 =>
     if s11_41<s10_34 then
      some (.jmp 4 (s10_34,s11_41,y1))
     else
      (swapL s10_34 s11_41 y1).bind fun r45 =>
      if r45.length=y1.length then
       some (.next (w64 (s10_34+(1:Int)),w64 (s11_41 - (1:Int)),r45))
      else none
    | _=>none
  | _=>none
noncomputable def zd5 (s1:Int) (s10:Int) (y1:(List Pair)):Int→Option (Out (Int) (Int×Bool×(List Pair))):=fun s11 =>
 if s10≤s11 then
  (zaz s11 s1 y1).bind fun r13 =>
  if r13=true then
   some (.jmp 2 s11)
  else
   some (.next (w64 (s11 - (1:Int))))
 else
  some (.jmp 2 s11)
noncomputable def zd6 (s1:Int) (s11:Int) (y1:(List Pair)):Int→Option (Out (Int) (Int×Bool×(List Pair))):=fun s10 =>
 if s10≤s11 then
  (zaz s10 s1 y1).bind fun r6 =>
  if r6=true then
   some (.next (w64 (s10+(1:Int))))
  else
   some (.jmp 0 s10)
 else
  some (.jmp 0 s10)
noncomputable def zas (x1:Int) (x2:Int) (x3:Int) (o1:(List Pair)):Option (Int×Bool×(List Pair)) :=
 (swapL x1 x3 o1).bind fun r3 =>
 if r3.length=o1.length then
  (iter (zd6 x1 (w64 (x2 - (1:Int))) r3) (w64 (x1+(1:Int)))).bind fun
   | .jmp _ s10_11 =>
    (iter (zd5 x1 s10_11 r3) (w64 (x2 - (1:Int)))).bind fun
     | .jmp _ s11_18 =>
      if s11_18<s10_11 then
       (swapL s11_18 x1 r3).bind fun r22 =>
       if r22.length=r3.length then
        some (s11_18,true,r22)
       else none
      else
       (swapL s10_11 s11_18 r3).bind fun r26 =>
       if r26.length=r3.length then
        (iter (zd4 x1) (w64 (s10_11+(1:Int)),w64 (s11_18 - (1:Int)),r26)).bind fun
         | .jmp _ (s10_48,s11_48,y1_48) =>
          (swapL s11_48 x1 y1_48).bind fun r51 =>
          if r51.length=y1_48.length then
           some (s11_48,false,r51)
          else none
         | _=>none
       else none
     | _=>none
   | _=>none
 else none
noncomputable def zcq (s1:Int) (s9:Int) (y1:(List Pair)):Int→Option (Out (Int) (Int×(List Pair))):=fun s10 =>
 if s9≤s10 then
  (zaz s1 s10 y1).bind fun r13 =>
  if r13=true then
   some (.next (w64 (s10 - (1:Int))))
  else
   some (.jmp 4 s10)
 else
  some (.jmp 4 s10)
noncomputable def zco (s1:Int) (s10:Int) (y1:(List Pair)):Int→Option (Out (Int) (Int×(List Pair))):=fun s9 =>
 if s9≤s10 then
  (zaz s1 s9 y1).bind fun r6 =>
  if r6=true then
   some (.jmp 2 s9)
  else
   some (.next (w64 (s9+(1:Int))))
 else
  some (.jmp 2 s9)
noncomputable def zcr (s1:Int):(Int×Int×(List Pair))→Option (Out (Int×Int×(List Pair)) (Int×(List Pair))):=fun (s9,s10,y1) =>
 (iter (zco s1 s10 y1) s9).bind fun
  | .jmp _ s9_11 =>
   (iter (zcq s1 s9_11 y1) s10).bind fun
    | .jmp _ s10_18 =>
     if s10_18<s9_11 then
      some (.jmp 0 (s9_11,s10_18,y1))
     else
      (swapL s9_11 s10_18 y1).bind fun r22 =>
      if r22.length=y1.length then
       some (.next (w64 (s9_11+(1:Int)),w64 (s10_18 - (1:Int)),r22))
      else none
    | _=>none
  | _=>none
noncomputable def zay (x1:Int) (x2:Int) (x3:Int) (o1:(List Pair)):Option (Int×(List Pair)) :=
 (swapL x1 x3 o1).bind fun r3 =>
 if r3.length=o1.length then
  (iter (zcr x1) (w64 (x1+(1:Int)),w64 (x2 - (1:Int)),r3)).bind fun
   | .jmp _ (s9_25,s10_25,y1_25) =>
    some (s9_25,y1_25)
   | _=>none
 else none
noncomputable def zec (x0:Int):Option Int :=
 (zdj (IntKind.wrap .u64 x0)).bind fun r1 =>
 (shlK .u64 (1:Int) (IntKind.wrap .u64 r1)).bind fun q4 =>
 some q4
noncomputable def zfn (x0:Int):Option (Int×Int) :=
 (shlK .u64 x0 (13:Int)).bind fun q1 =>
 (shrK .u64 (xorK .u64 x0 q1) (7:Int)).bind fun q4 =>
 (shlK .u64 (xorK .u64 (xorK .u64 x0 q1) q4) (17:Int)).bind fun q7 =>
 some (xorK .u64 (xorK .u64 (xorK .u64 x0 q1) q4) q7,xorK .u64 (xorK .u64 (xorK .u64 x0 q1) q4) q7)
noncomputable def zc1 (s1:Int) (s6:Int) (s8:Int):(Int×(List Pair)×Int)→Option (Out (Int×(List Pair)×Int) (List Pair)):=fun (s9,y1,w3_0) =>
 (quoK .i64 s6 (4:Int)).bind fun q24 =>
 if s9≤(w64 ((w64 (s1+(w64 (q24*(2:Int)))))+(1:Int))) then
  (zfn w3_0).bind fun r28 =>
  if s6≤(IntKind.wrap .i64 (andK .u64 r28.1 (IntKind.wrap .u64 (s8 - (1:Int))))) then
   (swapL s9 (w64 (s1+(w64 ((IntKind.wrap .i64 (andK .u64 r28.1 (IntKind.wrap .u64 (s8 - (1:Int))))) - s6)))) y1).bind fun r34 =>
   if r34.length=y1.length then
    some (.next (w64 (s9+(1:Int)),r34,r28.2))
   else none
  else
   (swapL s9 (w64 (s1+(IntKind.wrap .i64 (andK .u64 r28.1 (IntKind.wrap .u64 (s8 - (1:Int))))))) y1).bind fun r38 =>
   if r38.length=y1.length then
    some (.next (w64 (s9+(1:Int)),r38,r28.2))
   else none
 else
  some (.jmp 0 (s9,y1,w3_0))
noncomputable def zcv (x1:Int) (x2:Int) (o1:(List Pair)):Option (List Pair) :=
 if (8:Int)≤(w64 (x2 - x1)) then
  (zec (w64 (x2 - x1))).bind fun r2 =>
  (quoK .i64 (w64 (x2 - x1)) (4:Int)).bind fun q5 =>
  (iter (zc1 x1 (w64 (x2 - x1)) r2) (w64 ((w64 (x1+(w64 (q5*(2:Int))))) - (1:Int)),o1,IntKind.wrap .u64 (w64 (x2 - x1)))).bind fun
   | .jmp _ (s9_41,y1_41,w3_0_41) =>
    some y1_41
   | _=>none
 else
  some o1
noncomputable def ze2 (rec:Int→Int→Int→(List Pair)→Option (List Pair)):(Int×Int×Int×Bool×Bool×(List Pair))→Option (Out (Int×Int×Int×Bool×Bool×(List Pair)) (List Pair)):=fun (s1,s2,s3,s8,s9,y1) =>
 if (w64 (s2 - s1))≤(12:Int) then
  (zcz s1 s2 y1).bind fun r333 =>
  if r333.length=y1.length then
   some (.ret r333)
  else none
 else
  if s3=(0:Int) then
   (zex s1 s2 y1).bind fun r338 =>
   if r338.length=y1.length then
    some (.ret r338)
   else none
  else
   if s8=true then
    (zcc s1 s2 y1).bind fun r343 =>
    if r343.2=(2:Int) then
     (zb3 s1 s2 y1).bind fun r347 =>
     if r347.length=y1.length then
      if s9=true then
       (za9 s1 s2 r347).bind fun r352 =>
       if r352.2.length=r347.length then
        if r352.1=true then
         some (.ret r352.2)
        else
         if (0:Int)<s1 then
          (zaz (w64 (s1 - (1:Int))) (w64 ((w64 (s2 - (1:Int))) - (w64 (r343.1 - s1)))) r352.2).bind fun r358 =>
          if r358=true then
           (zas s1 s2 (w64 ((w64 (s2 - (1:Int))) - (w64 (r343.1 - s1)))) r352.2).bind fun r362 =>
           if r362.2.2.length=r352.2.length then
            (quoK .i64 (w64 (s2 - s1)) (8:Int)).bind fun q366 =>
            if (w64 (r362.1 - s1))<(w64 (s2 - r362.1)) then
             (rec s1 r362.1 s3 r362.2.2).bind fun r370 =>
             if r370.length=r362.2.2.length then
              some (.next (w64 (r362.1+(1:Int)),s2,s3,decide (q366≤(w64 (r362.1 - s1))),r362.2.1,r370))
             else none
            else
             (rec (w64 (r362.1+(1:Int))) s2 s3 r362.2.2).bind fun r374 =>
             if r374.length=r362.2.2.length then
              some (.next (s1,r362.1,s3,decide (q366≤(w64 (s2 - r362.1))),r362.2.1,r374))
             else none
           else none
          else
           (zay s1 s2 (w64 ((w64 (s2 - (1:Int))) - (w64 (r343.1 - s1)))) r352.2).bind fun r378 =>
           if r378.2.length=r352.2.length then
            some (.next (r378.1,s2,s3,s8,s9,r378.2))
           else none
         else
          (zas s1 s2 (w64 ((w64 (s2 - (1:Int))) - (w64 (r343.1 - s1)))) r352.2).bind fun r382 =>
          if r382.2.2.length=r352.2.length then
           (quoK .i64 (w64 (s2 - s1)) (8:Int)).bind fun q386 =>
           if (w64 (r382.1 - s1))<(w64 (s2 - r382.1)) then
            (rec s1 r382.1 s3 r382.2.2).bind fun r390 =>
            if r390.length=r382.2.2.length then
             some (.next (w64 (r382.1+(1:Int)),s2,s3,decide (q386≤(w64 (r382.1 - s1))),r382.2.1,r390))
            else none
           else
            (rec (w64 (r382.1+(1:Int))) s2 s3 r382.2.2).bind fun r394 =>
            if r394.length=r382.2.2.length then
             some (.next (s1,r382.1,s3,decide (q386≤(w64 (s2 - r382.1))),r382.2.1,r394))
            else none
          else none
       else none
      else
       if (0:Int)<s1 then
        (zaz (w64 (s1 - (1:Int))) (w64 ((w64 (s2 - (1:Int))) - (w64 (r343.1 - s1)))) r347).bind fun r399 =>
        if r399=true then
         (zas s1 s2 (w64 ((w64 (s2 - (1:Int))) - (w64 (r343.1 - s1)))) r347).bind fun r403 =>
         if r403.2.2.length=r347.length then
          (quoK .i64 (w64 (s2 - s1)) (8:Int)).bind fun q407 =>
          if (w64 (r403.1 - s1))<(w64 (s2 - r403.1)) then
           (rec s1 r403.1 s3 r403.2.2).bind fun r411 =>
           if r411.length=r403.2.2.length then
            some (.next (w64 (r403.1+(1:Int)),s2,s3,decide (q407≤(w64 (r403.1 - s1))),r403.2.1,r411))
           else none
          else
           (rec (w64 (r403.1+(1:Int))) s2 s3 r403.2.2).bind fun r415 =>
           if r415.length=r403.2.2.length then
            some (.next (s1,r403.1,s3,decide (q407≤(w64 (s2 - r403.1))),r403.2.1,r415))
           else none
         else none
        else
         (zay s1 s2 (w64 ((w64 (s2 - (1:Int))) - (w64 (r343.1 - s1)))) r347).bind fun r419 =>
         if r419.2.length=r347.length then
          some (.next (r419.1,s2,s3,s8,s9,r419.2))
         else none
       else
        (zas s1 s2 (w64 ((w64 (s2 - (1:Int))) - (w64 (r343.1 - s1)))) r347).bind fun r423 =>
        if r423.2.2.length=r347.length then
         (quoK .i64 (w64 (s2 - s1)) (8:Int)).bind fun q427 =>
         if (w64 (r423.1 - s1))<(w64 (s2 - r423.1)) then
          (rec s1 r423.1 s3 r423.2.2).bind fun r431 =>
          if r431.length=r423.2.2.length then
           some (.next (w64 (r423.1+(1:Int)),s2,s3,decide (q427≤(w64 (r423.1 - s1))),r423.2.1,r431))
          else none
         else
          (rec (w64 (r423.1+(1:Int))) s2 s3 r423.2.2).bind fun r435 =>
          if r435.length=r423.2.2.length then
           some (.next (s1,r423.1,s3,decide (q427≤(w64 (s2 - r423.1))),r423.2.1,r435))
          else none
        else none
     else none
    else
     if s9=true then
      if r343.2=(1:Int) then
       (za9 s1 s2 y1).bind fun r441 =>
       if r441.2.length=y1.length then
        if r441.1=true then
         some (.ret r441.2)
        else
         if (0:Int)<s1 then
          (zaz (w64 (s1 - (1:Int))) r343.1 r441.2).bind fun r447 =>
          if r447=true then
           (zas s1 s2 r343.1 r441.2).bind fun r451 =>
           if r451.2.2.length=r441.2.length then
            (quoK .i64 (w64 (s2 - s1)) (8:Int)).bind fun q455 =>
            if (w64 (r451.1 - s1))<(w64 (s2 - r451.1)) then
             (rec s1 r451.1 s3 r451.2.2).bind fun r459 =>
             if r459.length=r451.2.2.length then
              some (.next (w64 (r451.1+(1:Int)),s2,s3,decide (q455≤(w64 (r451.1 - s1))),r451.2.1,r459))
             else none
            else
             (rec (w64 (r451.1+(1:Int))) s2 s3 r451.2.2).bind fun r463 =>
             if r463.length=r451.2.2.length then
              some (.next (s1,r451.1,s3,decide (q455≤(w64 (s2 - r451.1))),r451.2.1,r463))
             else none
           else none
          else
           (zay s1 s2 r343.1 r441.2).bind fun r467 =>
           if r467.2.length=r441.2.length then
            some (.next (r467.1,s2,s3,s8,s9,r467.2))
           else none
         else
          (zas s1 s2 r343.1 r441.2).bind fun r471 =>
          if r471.2.2.length=r441.2.length then
           (quoK .i64 (w64 (s2 - s1)) (8:Int)).bind fun q475 =>
           if (w64 (r471.1 - s1))<(w64 (s2 - r471.1)) then
            (rec s1 r471.1 s3 r471.2.2).bind fun r479 =>
            if r479.length=r471.2.2.length then
             some (.next (w64 (r471.1+(1:Int)),s2,s3,decide (q475≤(w64 (r471.1 - s1))),r471.2.1,r479))
            else none
           else
            (rec (w64 (r471.1+(1:Int))) s2 s3 r471.2.2).bind fun r483 =>
            if r483.length=r471.2.2.length then
             some (.next (s1,r471.1,s3,decide (q475≤(w64 (s2 - r471.1))),r471.2.1,r483))
            else none
          else none
       else none
      else
       if (0:Int)<s1 then
        (zaz (w64 (s1 - (1:Int))) r343.1 y1).bind fun r488 =>
        if r488=true then
         (zas s1 s2 r343.1 y1).bind fun r492 =>
         if r492.2.2.length=y1.length then
          (quoK .i64 (w64 (s2 - s1)) (8:Int)).bind fun q496 =>
          if (w64 (r492.1 - s1))<(w64 (s2 - r492.1)) then
           (rec s1 r492.1 s3 r492.2.2).bind fun r500 =>
           if r500.length=r492.2.2.length then
            some (.next (w64 (r492.1+(1:Int)),s2,s3,decide (q496≤(w64 (r492.1 - s1))),r492.2.1,r500))
           else none
          else
           (rec (w64 (r492.1+(1:Int))) s2 s3 r492.2.2).bind fun r504 =>
           if r504.length=r492.2.2.length then
            some (.next (s1,r492.1,s3,decide (q496≤(w64 (s2 - r492.1))),r492.2.1,r504))
           else none
         else none
        else
         (zay s1 s2 r343.1 y1).bind fun r508 =>
         if r508.2.length=y1.length then
          some (.next (r508.1,s2,s3,s8,s9,r508.2))
         else none
       else
        (zas s1 s2 r343.1 y1).bind fun r512 =>
        if r512.2.2.length=y1.length then
         (quoK .i64 (w64 (s2 - s1)) (8:Int)).bind fun q516 =>
         if (w64 (r512.1 - s1))<(w64 (s2 - r512.1)) then
          (rec s1 r512.1 s3 r512.2.2).bind fun r520 =>
          if r520.length=r512.2.2.length then
           some (.next (w64 (r512.1+(1:Int)),s2,s3,decide (q516≤(w64 (r512.1 - s1))),r512.2.1,r520))
          else none
         else
          (rec (w64 (r512.1+(1:Int))) s2 s3 r512.2.2).bind fun r524 =>
          if r524.length=r512.2.2.length then
           some (.next (s1,r512.1,s3,decide (q516≤(w64 (s2 - r512.1))),r512.2.1,r524))
          else none
        else none
     else
      if (0:Int)<s1 then
       (zaz (w64 (s1 - (1:Int))) r343.1 y1).bind fun r529 =>
       if r529=true then
        (zas s1 s2 r343.1 y1).bind fun r533 =>
        if r533.2.2.length=y1.length then
         (quoK .i64 (w64 (s2 - s1)) (8:Int)).bind fun q537 =>
         if (w64 (r533.1 - s1))<(w64 (s2 - r533.1)) then
          (rec s1 r533.1 s3 r533.2.2).bind fun r541 =>
          if r541.length=r533.2.2.length then
           some (.next (w64 (r533.1+(1:Int)),s2,s3,decide (q537≤(w64 (r533.1 - s1))),r533.2.1,r541))
          else none
         else
          (rec (w64 (r533.1+(1:Int))) s2 s3 r533.2.2).bind fun r545 =>
          if r545.length=r533.2.2.length then
           some (.next (s1,r533.1,s3,decide (q537≤(w64 (s2 - r533.1))),r533.2.1,r545))
          else none
        else none
       else
        (zay s1 s2 r343.1 y1).bind fun r549 =>
        if r549.2.length=y1.length then
         some (.next (r549.1,s2,s3,s8,s9,r549.2))
        else none
      else
       (zas s1 s2 r343.1 y1).bind fun r553 =>
       if r553.2.2.length=y1.length then
        (quoK .i64 (w64 (s2 - s1)) (8:Int)).bind fun q557 =>
        if (w64 (r553.1 - s1))<(w64 (s2 - r553.1)) then
         (rec s1 r553.1 s3 r553.2.2).bind fun r561 =>
         if r561.length=r553.2.2.length then
          some (.next (w64 (r553.1+(1:Int)),s2,s3,decide (q557≤(w64 (r553.1 - s1))),r553.2.1,r561))
         else none
        else
         (rec (w64 (r553.1+(1:Int))) s2 s3 r553.2.2).bind fun r565 =>
         if r565.length=r553.2.2.length then
          some (.next (s1,r553.1,s3,decide (q557≤(w64 (s2 - r553.1))),r553.2.1,r565))
         else none
       else none
   else
    (zcv s1 s2 y1).bind fun r569 =>
    if r569.length=y1.length then
     (zcc s1 s2 r569).bind fun r573 =>
     if r573.2=(2:Int) then
      (zb3 s1 s2 r569).bind fun r577 =>
      if r577.length=r569.length then
       if (0:Int)<s1 then
        (zaz (w64 (s1 - (1:Int))) (w64 ((w64 (s2 - (1:Int))) - (w64 (r573.1 - s1)))) r577).bind fun r582 =>
        if r582=true then
         (zas s1 s2 (w64 ((w64 (s2 - (1:Int))) - (w64 (r573.1 - s1)))) r577).bind fun r586 =>
         if r586.2.2.length=r577.length then
          (quoK .i64 (w64 (s2 - s1)) (8:Int)).bind fun q590 =>
          if (w64 (r586.1 - s1))<(w64 (s2 - r586.1)) then
           (rec s1 r586.1 (w64 (s3 - (1:Int))) r586.2.2).bind fun r594 =>
           if r594.length=r586.2.2.length then
            some (.next (w64 (r586.1+(1:Int)),s2,w64 (s3 - (1:Int)),decide (q590≤(w64 (r586.1 - s1))),r586.2.1,r594))
           else none
          else
           (rec (w64 (r586.1+(1:Int))) s2 (w64 (s3 - (1:Int))) r586.2.2).bind fun r598 =>
           if r598.length=r586.2.2.length then
            some (.next (s1,r586.1,w64 (s3 - (1:Int)),decide (q590≤(w64 (s2 - r586.1))),r586.2.1,r598))
           else none
         else none
        else
         (zay s1 s2 (w64 ((w64 (s2 - (1:Int))) - (w64 (r573.1 - s1)))) r577).bind fun r602 =>
         if r602.2.length=r577.length then
          some (.next (r602.1,s2,w64 (s3 - (1:Int)),s8,s9,r602.2))
         else none
       else
        (zas s1 s2 (w64 ((w64 (s2 - (1:Int))) - (w64 (r573.1 - s1)))) r577).bind fun r606 =>
        if r606.2.2.length=r577.length then
         (quoK .i64 (w64 (s2 - s1)) (8:Int)).bind fun q610 =>
         if (w64 (r606.1 - s1))<(w64 (s2 - r606.1)) then
          (rec s1 r606.1 (w64 (s3 - (1:Int))) r606.2.2).bind fun r614 =>
          if r614.length=r606.2.2.length then
           some (.next (w64 (r606.1+(1:Int)),s2,w64 (s3 - (1:Int)),decide (q610≤(w64 (r606.1 - s1))),r606.2.1,r614))
          else none
         else
          (rec (w64 (r606.1+(1:Int))) s2 (w64 (s3 - (1:Int))) r606.2.2).bind fun r618 =>
          if r618.length=r606.2.2.length then
           some (.next (s1,r606.1,w64 (s3 - (1:Int)),decide (q610≤(w64 (s2 - r606.1))),r606.2.1,r618))
          else none
        else none
      else none
     else
      if (0:Int)<s1 then
       (zaz (w64 (s1 - (1:Int))) r573.1 r569).bind fun r623 =>
       if r623=true then
        (zas s1 s2 r573.1 r569).bind fun r627 =>
        if r627.2.2.length=r569.length then
         (quoK .i64 (w64 (s2 - s1)) (8:Int)).bind fun q631 =>
         if (w64 (r627.1 - s1))<(w64 (s2 - r627.1)) then
          (rec s1 r627.1 (w64 (s3 - (1:Int))) r627.2.2).bind fun r635 =>
          if r635.length=r627.2.2.length then
           some (.next (w64 (r627.1+(1:Int)),s2,w64 (s3 - (1:Int)),decide (q631≤(w64 (r627.1 - s1))),r627.2.1,r635))
          else none
         else
          (rec (w64 (r627.1+(1:Int))) s2 (w64 (s3 - (1:Int))) r627.2.2).bind fun r639 =>
          if r639.length=r627.2.2.length then
           some (.next (s1,r627.1,w64 (s3 - (1:Int)),decide (q631≤(w64 (s2 - r627.1))),r627.2.1,r639))
          else none
        else none
       else
        (zay s1 s2 r573.1 r569).bind fun r643 =>
        if r643.2.length=r569.length then
         some (.next (r643.1,s2,w64 (s3 - (1:Int)),s8,s9,r643.2))
        else none
      else
       (zas s1 s2 r573.1 r569).bind fun r647 =>
       if r647.2.2.length=r569.length then
        (quoK .i64 (w64 (s2 - s1)) (8:Int)).bind fun q651 =>
        if (w64 (r647.1 - s1))<(w64 (s2 - r647.1)) then
         (rec s1 r647.1 (w64 (s3 - (1:Int))) r647.2.2).bind fun r655 =>
         if r655.length=r647.2.2.length then
          some (.next (w64 (r647.1+(1:Int)),s2,w64 (s3 - (1:Int)),decide (q651≤(w64 (r647.1 - s1))),r647.2.1,r655))
         else none
        else
         (rec (w64 (r647.1+(1:Int))) s2 (w64 (s3 - (1:Int))) r647.2.2).bind fun r659 =>
         if r659.length=r647.2.2.length then
          some (.next (s1,r647.1,w64 (s3 - (1:Int)),decide (q651≤(w64 (s2 - r647.1))),r647.2.1,r659))
         else none
       else none
    else none
noncomputable def sort_pdqsort_func.body (rec:Int→Int→Int→(List Pair)→Option (List Pair)) (x1:Int) (x2:Int) (x3:Int) (o1:(List Pair)):Option (List Pair) :=
 (iter (ze2 rec) (x1,x2,x3,true,true,o1)).bind fun
  | .ret r665 =>
   some r665
  | _=>none
noncomputable def ze6 (rec:(List Node)→Node→Option (List Node)) (s12:(List Node)) (s13:Int):(Int×(List Node))→Option (Out (Int×(List Node)) (List Node)):=fun (s14,y1) =>
 if s14<s13 then
  (rd s12 s14).bind fun v4 =>
  (rec y1 v4).bind fun r7 =>
  some (.next (w64 (s14+(1:Int)),r7))
 else
  some (.jmp 0 (s14,y1))
noncomputable def hash_parts.body (rec:(List Node)→Node→Option (List Node)) (x0:(List Node)) (x1:Node):Option (List Node) :=
 if (x0.length+1)*72≤140737488355328 then
  (iter (ze6 rec x1.Kids (x1.Kids.length:Int)) ((0:Int),(x0++[x1]))).bind fun
   | .jmp _ (s14_11,y1_11) =>
    some y1_11
   | _=>none
 else none
noncomputable def zhk (rec:Node→Option Int) (s7:(List Node)) (s8:Int):(Int×Int)→Option (Out (Int×Int) Int):=fun (s3,s9) =>
 if s9<s8 then
  (rd s7 s9).bind fun v2 =>
  (rec v2).bind fun r5 =>
  some (.next (w64 (s3+r5),w64 (s9+(1:Int))))
 else
  some (.jmp 0 (s3,s9))
noncomputable def tree_Size.body (rec:Node→Option Int) (x0:Node):Option Int :=
 (iter (zhk rec x0.Kids (x0.Kids.length:Int)) ((1:Int),(0:Int))).bind fun
  | .jmp _ (s3_9,s9_9) =>
   some s3_9
  | _=>none
noncomputable def zfr (rec:(List Int)→Node→Option ((List Int)×Int)) (p2:Node→Option ByteArray) (s8:Int) (s27:(List Node)) (s28:Int) (w2_0:Int) (w2_1:ByteArray) (w2_2:(List ByteArray)) (w2_3:(List Node)):(Int×Int×(List Int))→Option (Out (Int×Int×(List Int)) ((List Int)×Int)):=fun (s9,s29,y1) =>
 if s29<s28 then
  (rd s27 s29).bind fun v13 =>
  (rec y1 v13).bind fun r16 =>
  (zhq s9 r16.2).bind fun r19 =>
  some (.next (r19,w64 (s29+(1:Int)),r16.1))
 else
  some (.jmp 0 (s9,s29,y1))
noncomputable def hash_fill.body (rec:(List Int)→Node→Option ((List Int)×Int)) (p2:Node→Option ByteArray) (x0:(List Int)) (x1:Node):Option ((List Int)×Int) :=
 if (x0.length+1)*8≤140737488355328 then
  (p2 x1).bind fun r3 =>
  (zi4 r3).bind fun r6 =>
  (zhq (IntKind.wrap .u64 x1.Kind) r6).bind fun r9 =>
  (iter (zfr rec p2 (x0.length:Int) x1.Kids (x1.Kids.length:Int) x1.Kind x1.Text x1.Gaps x1.Kids) (r9,(0:Int),(x0++[(0:Int)]))).bind fun
   | .jmp _ (s9_23,s29_23,y1_23) =>
    (zhq s9_23 (IntKind.wrap .u64 (x1.Kids.length:Int))).bind fun r24 =>
    (rd y1_23 (x0.length:Int)).bind fun v27 =>
    some ((y1_23.set (x0.length:Int).toNat r24),r24)
   | _=>none
 else none
noncomputable def zhi (rec:Node→Node→Option Bool) (s29:Int) (w0_0:Int) (w0_1:ByteArray) (w0_2:(List ByteArray)) (w0_3:(List Node)) (w1_0:Int) (w1_1:ByteArray) (w1_2:(List ByteArray)) (w1_3:(List Node)):Int→Option (Out (Int) Bool):=fun s30 =>
 if s30<s29 then
  (rd w0_3 s30).bind fun v5 =>
  (rd w1_3 s30).bind fun v8 =>
  (rec v5 v8).bind fun r11 =>
  if r11=true then
   some (.next (w64 (s30+(1:Int))))
  else
   some (.ret false)
 else
  some (.jmp 0 s30)
noncomputable def tree_Same.body (rec:Node→Node→Option Bool) (x0:Node) (x1:Node):Option Bool :=
 if x0.Kind=x1.Kind then
  if x0.Text=x1.Text then
   if (x0.Kids.length:Int)=(x1.Kids.length:Int) then
    (iter (zhi rec (x0.Kids.length:Int) x0.Kind x0.Text x0.Gaps x0.Kids x1.Kind x1.Text x1.Gaps x1.Kids) (0:Int)).bind fun
     | .jmp _ s30_16 =>
      some true
     | .ret r17 =>
      some r17
     | .next _=>none
   else
    some false
  else
   some false
 else
  some false
noncomputable def zf4 (rec:(List Node)→Node→Option (List Node)) (w2_0:Int) (w2_1:ByteArray) (w2_2:(List ByteArray)) (w2_3:(List Node)):(Int×(List Node))→Option (Out (Int×(List Node)) (List Node)):=fun (s5,y1) =>
 if s5<(w2_3.length:Int) then
  (rd w2_3 s5).bind fun v4 =>
  (rec y1 v4).bind fun r7 =>
  some (.next (w64 (s5+(1:Int)),r7))
 else
  some (.jmp 0 (s5,y1))
noncomputable def R06_list.body (rec:(List Node)→Node→Option (List Node)) (x0:(List Node)) (x1:Node):Option (List Node) :=
 if (x0.length+1)*72≤140737488355328 then
  (iter (zf4 rec x1.Kind x1.Text x1.Gaps x1.Kids) ((0:Int),(x0++[x1]))).bind fun
   | .jmp _ (s5_11,y1_11) =>
    some y1_11
   | _=>none
 else none
noncomputable def zh7 (rec:Node→Option Int) (w0_0:Int) (w0_1:ByteArray) (w0_2:(List ByteArray)) (w0_3:(List Node)):(Int×Int)→Option (Out (Int×Int) Int):=fun (s3,s4) =>
 if s4<(w0_3.length:Int) then
  (rd w0_3 s4).bind fun v2 =>
  (rec v2).bind fun r5 =>
  some (.next (w64 (s3+r5),w64 (s4+(1:Int))))
 else
  some (.jmp 0 (s3,s4))
noncomputable def R06_Size.body (rec:Node→Option Int) (x0:Node):Option Int :=
 (iter (zh7 rec x0.Kind x0.Text x0.Gaps x0.Kids) ((1:Int),(0:Int))).bind fun
  | .jmp _ (s3_9,s4_9) =>
   some s3_9
  | _=>none
noncomputable def zic (rec:Node→Node→Option Bool) (w0_0:Int) (w0_1:ByteArray) (w0_2:(List ByteArray)) (w0_3:(List Node)) (w1_0:Int) (w1_1:ByteArray) (w1_2:(List ByteArray)) (w1_3:(List Node)):Int→Option (Out (Int) Bool):=fun s5 =>
 if s5<(w0_3.length:Int) then
  (rd w0_3 s5).bind fun v5 =>
  (rd w1_3 s5).bind fun v8 =>
  (rec v5 v8).bind fun r11 =>
  if r11=true then
   some (.next (w64 (s5+(1:Int))))
  else
   some (.ret false)
 else
  some (.jmp 0 s5)
noncomputable def R06_Same.body (rec:Node→Node→Option Bool) (x0:Node) (x1:Node):Option Bool :=
 if x0.Kind=x1.Kind then
  if x0.Text=x1.Text then
   if (x0.Kids.length:Int)=(x1.Kids.length:Int) then
    (iter (zic rec x0.Kind x0.Text x0.Gaps x0.Kids x1.Kind x1.Text x1.Gaps x1.Kids) (0:Int)).bind fun
     | .jmp _ s5_16 =>
      some true
     | .ret r17 =>
      some r17
     | .next _=>none
   else
    some false
  else
   some false
 else
  some false
end Xr

namespace Xr
open Go Go.Ev
set_option linter.unusedSimpArgs false
set_option linter.unusedVariables false
set_option linter.defProp false
noncomputable def zba {T:Type} (p3:T→T→Option Int) (s1:Int) (s2:Int) (s8:Int):(Int×(List T))→Option (Out (Int×(List T)) (List T)):=fun (s9,y0) =>
 if s1<s9 then
  (rd y0 s9).bind fun v3 =>
  (rd y0 (w64 (s9 - (1:Int)))).bind fun v6 =>
  (p3 v3 v6).bind fun r9 =>
  if r9<(0:Int) then
   (rd (y0.set s9.toNat v6) (w64 (s9 - (1:Int)))).bind fun v17 =>
   some (.next (w64 (s9 - (1:Int)),((y0.set s9.toNat v6).set (w64 (s9 - (1:Int))).toNat v3)))
  else
   some (.jmp 2 (s9,y0))
 else
  some (.jmp 2 (s9,y0))
noncomputable def zbf {T:Type} (p3:T→T→Option Int) (s1:Int) (s2:Int):(Int×(List T))→Option (Out (Int×(List T)) (List T)):=fun (s8,y0) =>
 if s8<s2 then
  (iter (zba p3 s1 s2 s8) (s8,y0)).bind fun
   | .jmp _ (s9_22,y0_22) =>
    some (.next (w64 (s8+(1:Int)),y0_22))
   | _=>none
 else
  some (.jmp 0 (s8,y0))
noncomputable def zcb {T:Type} (p3:T→T→Option Int) (x0:(List T)) (x1:Int) (x2:Int):Option (List T) :=
 (iter (zbf p3 x1 x2) (w64 (x1+(1:Int)),x0)).bind fun
  | .jmp _ (s8_24,y0_24) =>
   some y0_24
  | _=>none
noncomputable def za3 {T:Type} (p4:T→T→Option Int) (s2:Int) (s3:Int):(Int×(List T))→Option (Out (Int×(List T)) (List T)):=fun (s10,y0) =>
 if s2≤(w64 ((w64 ((2:Int)*s10))+(1:Int))) then
  some (.jmp 0 (s10,y0))
 else
  if (w64 ((w64 ((w64 ((2:Int)*s10))+(1:Int)))+(1:Int)))<s2 then
   (rd y0 (w64 (s3+(w64 ((w64 ((2:Int)*s10))+(1:Int)))))).bind fun v67 =>
   (rd y0 (w64 ((w64 (s3+(w64 ((w64 ((2:Int)*s10))+(1:Int)))))+(1:Int)))).bind fun v70 =>
   (p4 v67 v70).bind fun r73 =>
   if r73<(0:Int) then
    (rd y0 (w64 (s3+s10))).bind fun v77 =>
    (rd y0 (w64 (s3+(w64 ((w64 ((w64 ((2:Int)*s10))+(1:Int)))+(1:Int)))))).bind fun v80 =>
    (p4 v77 v80).bind fun r83 =>
    if r83<(0:Int) then
     (rd (y0.set (w64 (s3+s10)).toNat v80) (w64 (s3+(w64 ((w64 ((w64 ((2:Int)*s10))+(1:Int)))+(1:Int)))))).bind fun v91 =>
     some (.next (w64 ((w64 ((w64 ((2:Int)*s10))+(1:Int)))+(1:Int)),((y0.set (w64 (s3+s10)).toNat v80).set (w64 (s3+(w64 ((w64 ((w64 ((2:Int)*s10))+(1:Int)))+(1:Int))))).toNat v77)))
    else
     some (.ret y0)
   else
    (rd y0 (w64 (s3+s10))).bind fun v95 =>
    (p4 v95 v67).bind fun r99 =>
    if r99<(0:Int) then
     (rd (y0.set (w64 (s3+s10)).toNat v67) (w64 (s3+(w64 ((w64 ((2:Int)*s10))+(1:Int)))))).bind fun v107 =>
     some (.next (w64 ((w64 ((2:Int)*s10))+(1:Int)),((y0.set (w64 (s3+s10)).toNat v67).set (w64 (s3+(w64 ((w64 ((2:Int)*s10))+(1:Int))))).toNat v95)))
    else
     some (.ret y0)
  else
   (rd y0 (w64 (s3+s10))).bind fun v111 =>
   (rd y0 (w64 (s3+(w64 ((w64 ((2:Int)*s10))+(1:Int)))))).bind fun v114 =>
   (p4 v111 v114).bind fun r117 =>
   if r117<(0:Int) then
    (rd (y0.set (w64 (s3+s10)).toNat v114) (w64 (s3+(w64 ((w64 ((2:Int)*s10))+(1:Int)))))).bind fun v125 =>
    some (.next (w64 ((w64 ((2:Int)*s10))+(1:Int)),((y0.set (w64 (s3+s10)).toNat v114).set (w64 (s3+(w64 ((w64 ((2:Int)*s10))+(1:Int))))).toNat v111)))
   else
    some (.ret y0)
noncomputable def zde {T:Type} (p4:T→T→Option Int) (x0:(List T)) (x1:Int) (x2:Int) (x3:Int):Option (List T) :=
 (iter (za3 p4 x2 x3) (x1,x0)).bind fun
  | .jmp _ (s10_130,y0_130) =>
   some y0_130
  | .ret r131 =>
   some r131
  | .next _=>none
noncomputable def zb1 {T:Type} (p3:T→T→Option Int) (s8:Int) (s9:Int):(Int×(List T))→Option (Out (Int×(List T)) (List T)):=fun (s12,y0) =>
 if (0:Int)≤s12 then
  (rd y0 (w64 (s8+s12))).bind fun v12 =>
  (rd y0 s8).bind fun v15 =>
  (rd (y0.set s8.toNat v12) (w64 (s8+s12))).bind fun v20 =>
  (zde p3 ((y0.set s8.toNat v12).set (w64 (s8+s12)).toNat v15) s9 s12 s8).bind fun r24 =>
  if r24.length=((y0.set s8.toNat v12).set (w64 (s8+s12)).toNat v15).length then
   some (.next (w64 (s12 - (1:Int)),r24))
  else none
 else
  some (.jmp 2 (s12,y0))
noncomputable def zb0 {T:Type} (p3:T→T→Option Int) (s8:Int) (s9:Int) (s10:Int):(Int×(List T))→Option (Out (Int×(List T)) (List T)):=fun (s11,y0) =>
 if (0:Int)≤s11 then
  (zde p3 y0 s11 s10 s8).bind fun r5 =>
  if r5.length=y0.length then
   some (.next (w64 (s11 - (1:Int)),r5))
  else none
 else
  some (.jmp 0 (s11,y0))
noncomputable def zdc {T:Type} (p3:T→T→Option Int) (x0:(List T)) (x1:Int) (x2:Int):Option (List T) :=
 (quoK .i64 (w64 ((w64 (x2 - x1)) - (1:Int))) (2:Int)).bind fun q1 =>
 (iter (zb0 p3 x1 (0:Int) (w64 (x2 - x1))) (q1,x0)).bind fun
  | .jmp _ (s11_10,y0_10) =>
   (iter (zb1 p3 x1 (0:Int)) (w64 ((w64 (x2 - x1)) - (1:Int)),y0_10)).bind fun
    | .jmp _ (s12_29,y0_29) =>
     some y0_29
    | _=>none
  | _=>none
noncomputable def zc5 {T:Type} (p4:T→T→Option Int) (x0:(List T)) (x1:Int) (x2:Int) (x3:Int):Option (Int×Int×(List T)×Int) :=
 (rd x0 x2).bind fun v1 =>
 (rd x0 x1).bind fun v4 =>
 (p4 v1 v4).bind fun r7 =>
 if r7<(0:Int) then
  some (x2,x1,x0,w64 (x3+(1:Int)))
 else
  some (x1,x2,x0,x3)
noncomputable def zc6 {T:Type} (p5:T→T→Option Int) (x0:(List T)) (x1:Int) (x2:Int) (x3:Int) (x4:Int):Option (Int×(List T)×Int) :=
 (zc5 p5 x0 x1 x2 x4).bind fun r1 =>
 if r1.2.2.1.length=x0.length then
  (zc5 p5 r1.2.2.1 r1.2.1 x3 r1.2.2.2).bind fun r5 =>
  if r5.2.2.1.length=r1.2.2.1.length then
   (zc5 p5 r5.2.2.1 r1.1 r5.1 r5.2.2.2).bind fun r9 =>
   if r9.2.2.1.length=r5.2.2.1.length then
    some (r9.2.1,r9.2.2.1,r9.2.2.2)
   else none
  else none
 else none
noncomputable def zbm {T:Type} (p3:T→T→Option Int) (x0:(List T)) (x1:Int) (x2:Int):Option (Int×(List T)×Int) :=
 (zc6 p3 x0 (w64 (x1 - (1:Int))) x1 (w64 (x1+(1:Int))) x2).bind fun r1 =>
 if r1.2.1.length=x0.length then
  some (r1.1,r1.2.1,r1.2.2)
 else none
noncomputable def zbo {T:Type} (p3:T→T→Option Int) (x0:(List T)) (x1:Int) (x2:Int):Option (Int×Int×(List T)) :=
 (quoK .i64 (w64 (x2 - x1)) (4:Int)).bind fun q1 =>
 if (8:Int)≤(w64 (x2 - x1)) then
  if (50:Int)≤(w64 (x2 - x1)) then
   (zbm p3 x0 (w64 (x1+(w64 (q1*(1:Int))))) (0:Int)).bind fun r6 =>
   if r6.2.1.length=x0.length then
    (zbm p3 r6.2.1 (w64 (x1+(w64 (q1*(2:Int))))) r6.2.2).bind fun r10 =>
    if r10.2.1.length=r6.2.1.length then
     (zbm p3 r10.2.1 (w64 (x1+(w64 (q1*(3:Int))))) r10.2.2).bind fun r14 =>
     if r14.2.1.length=r10.2.1.length then
      (zc6 p3 r14.2.1 r6.1 r10.1 r14.1 r14.2.2).bind fun r18 =>
      if r18.2.1.length=r14.2.1.length then
       if r18.2.2=(0:Int) then
        some (r18.1,(1:Int),r18.2.1)
       else
        if r18.2.2=(12:Int) then
         some (r18.1,(2:Int),r18.2.1)
        else
         some (r18.1,(0:Int),r18.2.1)
      else none
     else none
    else none
   else none
  else
   (zc6 p3 x0 (w64 (x1+(w64 (q1*(1:Int))))) (w64 (x1+(w64 (q1*(2:Int))))) (w64 (x1+(w64 (q1*(3:Int))))) (0:Int)).bind fun r24 =>
   if r24.2.1.length=x0.length then
    if r24.2.2=(0:Int) then
     some (r24.1,(1:Int),r24.2.1)
    else
     if r24.2.2=(12:Int) then
      some (r24.1,(2:Int),r24.2.1)
     else
      some (r24.1,(0:Int),r24.2.1)
   else none
 else
  some (w64 (x1+(w64 (q1*(2:Int)))),(1:Int),x0)
noncomputable def zbc {T:Type} (p3:T→T→Option Int):(Int×Int×(List T))→Option (Out (Int×Int×(List T)) (List T)):=fun (s8,s9,y0) =>
 if s8<s9 then
  (rd y0 s9).bind fun v15 =>
  (rd y0 s8).bind fun v18 =>
  (rd (y0.set s8.toNat v15) s9).bind fun v23 =>
  some (.next (w64 (s8+(1:Int)),w64 (s9 - (1:Int)),((y0.set s8.toNat v15).set s9.toNat v18)))
 else
  some (.jmp 0 (s8,s9,y0))
noncomputable def zbk {T:Type} (p3:T→T→Option Int) (x0:(List T)) (x1:Int) (x2:Int):Option (List T) :=
 (iter (zbc p3) (x1,w64 (x2 - (1:Int)),x0)).bind fun
  | .jmp _ (s8_28,s9_28,y0_28) =>
   some y0_28
  | _=>none
noncomputable def zar {T:Type} (p3:T→T→Option Int) (s1:Int) (s2:Int) (s9:Int) (s10:Int):(Int×(List T))→Option (Out (Int×(List T)) (Bool×(List T))):=fun (s12,y0) =>
 if s12<s2 then
  (rd y0 s12).bind fun v75 =>
  (rd y0 (w64 (s12 - (1:Int)))).bind fun v78 =>
  (p3 v75 v78).bind fun r81 =>
  if r81<(0:Int) then
   (rd (y0.set s12.toNat v78) (w64 (s12 - (1:Int)))).bind fun v89 =>
   some (.next (w64 (s12+(1:Int)),((y0.set s12.toNat v78).set (w64 (s12 - (1:Int))).toNat v75)))
  else
   some (.jmp 6 (s12,y0))
 else
  some (.jmp 6 (s12,y0))
noncomputable def zaw {T:Type} (p3:T→T→Option Int) (s1:Int) (s2:Int) (s9:Int) (s10:Int):(Int×(List T))→Option (Out (Int×(List T)) (Bool×(List T))):=fun (s11,y0) =>
 if (1:Int)≤s11 then
  (rd y0 s11).bind fun v31 =>
  (rd y0 (w64 (s11 - (1:Int)))).bind fun v34 =>
  (p3 v31 v34).bind fun r37 =>
  if r37<(0:Int) then
   (rd (y0.set s11.toNat v34) (w64 (s11 - (1:Int)))).bind fun v45 =>
   some (.next (w64 (s11 - (1:Int)),((y0.set s11.toNat v34).set (w64 (s11 - (1:Int))).toNat v31)))
  else
   some (.jmp 4 (s11,y0))
 else
  some (.jmp 4 (s11,y0))
noncomputable def za2 {T:Type} (p3:T→T→Option Int) (s1:Int) (s2:Int) (s10:Int) (y0:(List T)):Int→Option (Out (Int) (Bool×(List T))):=fun s9 =>
 if s9<s2 then
  (rd y0 s9).bind fun v3 =>
  (rd y0 (w64 (s9 - (1:Int)))).bind fun v6 =>
  (p3 v3 v6).bind fun r9 =>
  if r9<(0:Int) then
   some (.jmp 2 s9)
  else
   some (.next (w64 (s9+(1:Int))))
 else
  some (.jmp 2 s9)
noncomputable def zam {T:Type} (p3:T→T→Option Int) (s1:Int) (s2:Int):(Int×Int×(List T))→Option (Out (Int×Int×(List T)) (Bool×(List T))):=fun (s9,s10,y0) =>
 if s10<(5:Int) then
  (iter (za2 p3 s1 s2 s10 y0) s9).bind fun
   | .jmp _ s9_14 =>
    if s9_14=s2 then
     some (.ret (true,y0))
    else
     if (w64 (s2 - s1))<(50:Int) then
      some (.ret (false,y0))
     else
      (rd y0 (w64 (s9_14 - (1:Int)))).bind fun v17 =>
      (rd y0 s9_14).bind fun v20 =>
      (rd (y0.set s9_14.toNat v17) (w64 (s9_14 - (1:Int)))).bind fun v25 =>
      if (2:Int)≤(w64 (s9_14 - s1)) then
       (iter (zaw p3 s1 s2 s9_14 s10) (w64 (s9_14 - (1:Int)),((y0.set s9_14.toNat v17).set (w64 (s9_14 - (1:Int))).toNat v20))).bind fun
        | .jmp _ (s11_50,y0_50) =>
         if (2:Int)≤(w64 (s2 - s9_14)) then
          (iter (zar p3 s1 s2 s9_14 s10) (w64 (s9_14+(1:Int)),y0_50)).bind fun
           | .jmp _ (s12_72,y0_72) =>
            some (.next (s9_14,w64 (s10+(1:Int)),y0_72))
           | _=>none
         else
          some (.next (s9_14,w64 (s10+(1:Int)),y0_50))
        | _=>none
      else
       if (2:Int)≤(w64 (s2 - s9_14)) then
        (iter (zar p3 s1 s2 s9_14 s10) (w64 (s9_14+(1:Int)),((y0.set s9_14.toNat v17).set (w64 (s9_14 - (1:Int))).toNat v20))).bind fun
         | .jmp _ (s12_94,y0_94) =>
          some (.next (s9_14,w64 (s10+(1:Int)),y0_94))
         | _=>none
       else
        some (.next (s9_14,w64 (s10+(1:Int)),((y0.set s9_14.toNat v17).set (w64 (s9_14 - (1:Int))).toNat v20)))
   | _=>none
 else
  some (.jmp 0 (s9,s10,y0))
noncomputable def za7 {T:Type} (p3:T→T→Option Int) (x0:(List T)) (x1:Int) (x2:Int):Option (Bool×(List T)) :=
 (iter (zam p3 x1 x2) (w64 (x1+(1:Int)),(0:Int),x0)).bind fun
  | .jmp _ (s9_96,s10_96,y0_96) =>
   some (false,y0_96)
  | .ret r97 =>
   some r97
  | .next _=>none
noncomputable def zd1 {T:Type} (p4:T→T→Option Int) (s1:Int) (s12:Int) (y0:(List T)):Int→Option (Out (Int) (Int×Bool×(List T))):=fun s13 =>
 if s12≤s13 then
  (rd y0 s13).bind fun v78 =>
  (rd y0 s1).bind fun v81 =>
  (p4 v78 v81).bind fun r84 =>
  if r84<(0:Int) then
   some (.jmp 8 s13)
  else
   some (.next (w64 (s13 - (1:Int))))
 else
  some (.jmp 8 s13)
noncomputable def zd3 {T:Type} (p4:T→T→Option Int) (s1:Int) (s13:Int) (y0:(List T)):Int→Option (Out (Int) (Int×Bool×(List T))):=fun s12 =>
 if s12≤s13 then
  (rd y0 s12).bind fun v65 =>
  (rd y0 s1).bind fun v68 =>
  (p4 v65 v68).bind fun r71 =>
  if r71<(0:Int) then
   some (.next (w64 (s12+(1:Int))))
  else
   some (.jmp 6 s12)
 else
  some (.jmp 6 s12)
noncomputable def zbj {T:Type} (p4:T→T→Option Int) (s1:Int):(Int×Int×(List T))→Option (Out (Int×Int×(List T)) (Int×Bool×(List T))):=fun (s12,s13,y0) =>
 (iter (zd3 p4 s1 s13 y0) s12).bind fun
  | .jmp _ s12_76 =>
   (iter (zd1 p4 s1 s12_76 y0) s13).bind fun
    | .jmp _ s13_89 =>
     if s13_89<s12_76 then
      some (.jmp 4 (s12_76,s13_89,y0))
     else
      (rd y0 s13_89).bind fun v91 =>
      (rd y0 s12_76).bind fun v94 =>
      (rd (y0.set s12_76.toNat v91) s13_89).bind fun v99 =>
      some (.next (w64 (s12_76+(1:Int)),w64 (s13_89 - (1:Int)),((y0.set s12_76.toNat v91).set s13_89.toNat v94)))
    | _=>none
  | _=>none
noncomputable def zd2 {T:Type} (p4:T→T→Option Int) (s1:Int) (s12:Int) (y0:(List T)):Int→Option (Out (Int) (Int×Bool×(List T))):=fun s13 =>
 if s12≤s13 then
  (rd y0 s13).bind fun v27 =>
  (rd y0 s1).bind fun v30 =>
  (p4 v27 v30).bind fun r33 =>
  if r33<(0:Int) then
   some (.jmp 2 s13)
  else
   some (.next (w64 (s13 - (1:Int))))
 else
  some (.jmp 2 s13)
noncomputable def zd0 {T:Type} (p4:T→T→Option Int) (s1:Int) (s13:Int) (y0:(List T)):Int→Option (Out (Int) (Int×Bool×(List T))):=fun s12 =>
 if s12≤s13 then
  (rd y0 s12).bind fun v14 =>
  (rd y0 s1).bind fun v17 =>
  (p4 v14 v17).bind fun r20 =>
  if r20<(0:Int) then
   some (.next (w64 (s12+(1:Int))))
  else
   some (.jmp 0 s12)
 else
  some (.jmp 0 s12)
noncomputable def zao {T:Type} (p4:T→T→Option Int) (x0:(List T)) (x1:Int) (x2:Int) (x3:Int):Option (Int×Bool×(List T)) :=
 (rd x0 x3).bind fun v1 =>
 (rd x0 x1).bind fun v4 =>
 (rd (x0.set x1.toNat v1) x3).bind fun v9 =>
 (iter (zd0 p4 x1 (w64 (x2 - (1:Int))) ((x0.set x1.toNat v1).set x3.toNat v4)) (w64 (x1+(1:Int)))).bind fun
  | .jmp _ s12_25 =>
   (iter (zd2 p4 x1 s12_25 ((x0.set x1.toNat v1).set x3.toNat v4)) (w64 (x2 - (1:Int)))).bind fun
    | .jmp _ s13_38 =>
     if s13_38<s12_25 then
      (rd ((x0.set x1.toNat v1).set x3.toNat v4) x1).bind fun v40 =>
      (rd ((x0.set x1.toNat v1).set x3.toNat v4) s13_38).bind fun v43 =>
      (rd (((x0.set x1.toNat v1).set x3.toNat v4).set s13_38.toNat v40) x1).bind fun v48 =>
      some (s13_38,true,((((x0.set x1.toNat v1).set x3.toNat v4).set s13_38.toNat v40).set x1.toNat v43))
     else
      (rd ((x0.set x1.toNat v1).set x3.toNat v4) s13_38).bind fun v52 =>
      (rd ((x0.set x1.toNat v1).set x3.toNat v4) s12_25).bind fun v55 =>
      (rd (((x0.set x1.toNat v1).set x3.toNat v4).set s12_25.toNat v52) s13_38).bind fun v60 =>
      (iter (zbj p4 x1) (w64 (s12_25+(1:Int)),w64 (s13_38 - (1:Int)),((((x0.set x1.toNat v1).set x3.toNat v4).set s12_25.toNat v52).set s13_38.toNat v55))).bind fun
       | .jmp _ (s12_104,s13_104,y0_104) =>
        (rd y0_104 x1).bind fun v105 =>
        (rd y0_104 s13_104).bind fun v108 =>
        (rd (y0_104.set s13_104.toNat v105) x1).bind fun v113 =>
        some (s13_104,false,((y0_104.set s13_104.toNat v105).set x1.toNat v108))
       | _=>none
    | _=>none
  | _=>none
noncomputable def zed {T:Type} (p4:T→T→Option Int) (s1:Int) (s11:Int) (y0:(List T)):Int→Option (Out (Int) (Int×(List T))):=fun s12 =>
 if s11≤s12 then
  (rd y0 s1).bind fun v27 =>
  (rd y0 s12).bind fun v30 =>
  (p4 v27 v30).bind fun r33 =>
  if r33<(0:Int) then
   some (.next (w64 (s12 - (1:Int))))
  else
   some (.jmp 4 s12)
 else
  some (.jmp 4 s12)
noncomputable def zea {T:Type} (p4:T→T→Option Int) (s1:Int) (s12:Int) (y0:(List T)):Int→Option (Out (Int) (Int×(List T))):=fun s11 =>
 if s11≤s12 then
  (rd y0 s1).bind fun v14 =>
  (rd y0 s11).bind fun v17 =>
  (p4 v14 v17).bind fun r20 =>
  if r20<(0:Int) then
   some (.jmp 2 s11)
  else
   some (.next (w64 (s11+(1:Int))))
 else
  some (.jmp 2 s11)
noncomputable def zef {T:Type} (p4:T→T→Option Int) (s1:Int):(Int×Int×(List T))→Option (Out (Int×Int×(List T)) (Int×(List T))):=fun (s11,s12,y0) =>
 (iter (zea p4 s1 s12 y0) s11).bind fun
  | .jmp _ s11_25 =>
   (iter (zed p4 s1 s11_25 y0) s12).bind fun
    | .jmp _ s12_38 =>
     if s12_38<s11_25 then
      some (.jmp 0 (s11_25,s12_38,y0))
     else
      (rd y0 s12_38).bind fun v40 =>
      (rd y0 s11_25).bind fun v43 =>
      (rd (y0.set s11_25.toNat v40) s12_38).bind fun v48 =>
      some (.next (w64 (s11_25+(1:Int)),w64 (s12_38 - (1:Int)),((y0.set s11_25.toNat v40).set s12_38.toNat v43)))
    | _=>none
  | _=>none
noncomputable def za1 {T:Type} (p4:T→T→Option Int) (x0:(List T)) (x1:Int) (x2:Int) (x3:Int):Option (Int×(List T)) :=
 (rd x0 x3).bind fun v1 =>
 (rd x0 x1).bind fun v4 =>
 (rd (x0.set x1.toNat v1) x3).bind fun v9 =>
 (iter (zef p4 x1) (w64 (x1+(1:Int)),w64 (x2 - (1:Int)),((x0.set x1.toNat v1).set x3.toNat v4))).bind fun
  | .jmp _ (s11_53,s12_53,y0_53) =>
   some (s11_53,y0_53)
  | _=>none
noncomputable def zes (x0:Int):Option Int :=
 (zdj (IntKind.wrap .u64 x0)).bind fun r1 =>
 (shlK .u64 (1:Int) r1).bind fun q4 =>
 some q4
noncomputable def zfw (x0:Int):Option (Int×Int) :=
 (shlK .u64 x0 (13:Int)).bind fun q1 =>
 (shrK .u64 (xorK .u64 x0 q1) (7:Int)).bind fun q4 =>
 (shlK .u64 (xorK .u64 (xorK .u64 x0 q1) q4) (17:Int)).bind fun q7 =>
 some (xorK .u64 (xorK .u64 (xorK .u64 x0 q1) q4) q7,xorK .u64 (xorK .u64 (xorK .u64 x0 q1) q4) q7)
noncomputable def zbg {T:Type} (p3:T→T→Option Int) (s1:Int) (s8:Int) (s10:Int):(Int×(List T)×Int)→Option (Out (Int×(List T)×Int) (List T)):=fun (s11,y0,w1_0) =>
 (quoK .i64 s8 (4:Int)).bind fun q40 =>
 if s11≤(w64 ((w64 (s1+(w64 (q40*(2:Int)))))+(1:Int))) then
  (zfw w1_0).bind fun r44 =>
  if s8≤(IntKind.wrap .i64 (andK .u64 r44.1 (IntKind.wrap .u64 (s10 - (1:Int))))) then
   (rd y0 (w64 (s1+(w64 ((IntKind.wrap .i64 (andK .u64 r44.1 (IntKind.wrap .u64 (s10 - (1:Int))))) - s8))))).bind fun v48 =>
   (rd y0 s11).bind fun v51 =>
   (rd (y0.set s11.toNat v48) (w64 (s1+(w64 ((IntKind.wrap .i64 (andK .u64 r44.1 (IntKind.wrap .u64 (s10 - (1:Int))))) - s8))))).bind fun v56 =>
   some (.next (w64 (s11+(1:Int)),((y0.set s11.toNat v48).set (w64 (s1+(w64 ((IntKind.wrap .i64 (andK .u64 r44.1 (IntKind.wrap .u64 (s10 - (1:Int))))) - s8)))).toNat v51),r44.2))
  else
   (rd y0 (w64 (s1+(IntKind.wrap .i64 (andK .u64 r44.1 (IntKind.wrap .u64 (s10 - (1:Int)))))))).bind fun v60 =>
   (rd y0 s11).bind fun v63 =>
   (rd (y0.set s11.toNat v60) (w64 (s1+(IntKind.wrap .i64 (andK .u64 r44.1 (IntKind.wrap .u64 (s10 - (1:Int)))))))).bind fun v68 =>
   some (.next (w64 (s11+(1:Int)),((y0.set s11.toNat v60).set (w64 (s1+(IntKind.wrap .i64 (andK .u64 r44.1 (IntKind.wrap .u64 (s10 - (1:Int))))))).toNat v63),r44.2))
 else
  some (.jmp 0 (s11,y0,w1_0))
noncomputable def zb9 {T:Type} (p3:T→T→Option Int) (x0:(List T)) (x1:Int) (x2:Int):Option (List T) :=
 if (8:Int)≤(w64 (x2 - x1)) then
  (zes (w64 (x2 - x1))).bind fun r2 =>
  (quoK .i64 (w64 (x2 - x1)) (4:Int)).bind fun q5 =>
  (iter (zbg p3 x1 (w64 (x2 - x1)) r2) (w64 ((w64 (x1+(w64 (q5*(2:Int))))) - (1:Int)),x0,IntKind.wrap .u64 (w64 (x2 - x1)))).bind fun
   | .jmp _ (s11_73,y0_73,w1_0_73) =>
    some y0_73
   | _=>none
 else
  some x0
noncomputable def zev {T:Type} (rec:(List T)→Int→Int→Int→Option (List T)) (p4:T→T→Option Int):(Int×Int×Int×Bool×Bool×(List T))→Option (Out (Int×Int×Int×Bool×Bool×(List T)) (List T)):=fun (s1,s2,s3,s10,s11,y0) =>
 if (w64 (s2 - s1))≤(12:Int) then
  (zcb p4 y0 s1 s2).bind fun r377 =>
  if r377.length=y0.length then
   some (.ret r377)
  else none
 else
  if s3=(0:Int) then
   (zdc p4 y0 s1 s2).bind fun r382 =>
   if r382.length=y0.length then
    some (.ret r382)
   else none
  else
   if s10=true then
    (zbo p4 y0 s1 s2).bind fun r387 =>
    if r387.2.2.length=y0.length then
     if r387.2.1=(2:Int) then
      (zbk p4 r387.2.2 s1 s2).bind fun r392 =>
      if r392.length=r387.2.2.length then
       if s11=true then
        (za7 p4 r392 s1 s2).bind fun r397 =>
        if r397.2.length=r392.length then
         if r397.1=true then
          some (.ret r397.2)
         else
          if (0:Int)<s1 then
           (rd r397.2 (w64 (s1 - (1:Int)))).bind fun v403 =>
           (rd r397.2 (w64 ((w64 (s2 - (1:Int))) - (w64 (r387.1 - s1))))).bind fun v406 =>
           (p4 v403 v406).bind fun r409 =>
           if r409<(0:Int) then
            (zao p4 r397.2 s1 s2 (w64 ((w64 (s2 - (1:Int))) - (w64 (r387.1 - s1))))).bind fun r413 =>
            if r413.2.2.length=r397.2.length then
             (quoK .i64 (w64 (s2 - s1)) (8:Int)).bind fun q417 =>
             if (w64 (r413.1 - s1))<(w64 (s2 - r413.1)) then
              (rec r413.2.2 s1 r413.1 s3).bind fun r421 =>
              if r421.length=r413.2.2.length then
               some (.next (w64 (r413.1+(1:Int)),s2,s3,decide (q417≤(w64 (r413.1 - s1))),r413.2.1,r421))
              else none
             else
              (rec r413.2.2 (w64 (r413.1+(1:Int))) s2 s3).bind fun r425 =>
              if r425.length=r413.2.2.length then
               some (.next (s1,r413.1,s3,decide (q417≤(w64 (s2 - r413.1))),r413.2.1,r425))
              else none
            else none
           else
            (za1 p4 r397.2 s1 s2 (w64 ((w64 (s2 - (1:Int))) - (w64 (r387.1 - s1))))).bind fun r429 =>
            if r429.2.length=r397.2.length then
             some (.next (r429.1,s2,s3,s10,s11,r429.2))
            else none
          else
           (zao p4 r397.2 s1 s2 (w64 ((w64 (s2 - (1:Int))) - (w64 (r387.1 - s1))))).bind fun r433 =>
           if r433.2.2.length=r397.2.length then
            (quoK .i64 (w64 (s2 - s1)) (8:Int)).bind fun q437 =>
            if (w64 (r433.1 - s1))<(w64 (s2 - r433.1)) then
             (rec r433.2.2 s1 r433.1 s3).bind fun r441 =>
             if r441.length=r433.2.2.length then
              some (.next (w64 (r433.1+(1:Int)),s2,s3,decide (q437≤(w64 (r433.1 - s1))),r433.2.1,r441))
             else none
            else
             (rec r433.2.2 (w64 (r433.1+(1:Int))) s2 s3).bind fun r445 =>
             if r445.length=r433.2.2.length then
              some (.next (s1,r433.1,s3,decide (q437≤(w64 (s2 - r433.1))),r433.2.1,r445))
             else none
           else none
        else none
       else
        if (0:Int)<s1 then
         (rd r392 (w64 (s1 - (1:Int)))).bind fun v450 =>
         (rd r392 (w64 ((w64 (s2 - (1:Int))) - (w64 (r387.1 - s1))))).bind fun v453 =>
         (p4 v450 v453).bind fun r456 =>
         if r456<(0:Int) then
          (zao p4 r392 s1 s2 (w64 ((w64 (s2 - (1:Int))) - (w64 (r387.1 - s1))))).bind fun r460 =>
          if r460.2.2.length=r392.length then
           (quoK .i64 (w64 (s2 - s1)) (8:Int)).bind fun q464 =>
           if (w64 (r460.1 - s1))<(w64 (s2 - r460.1)) then
            (rec r460.2.2 s1 r460.1 s3).bind fun r468 =>
            if r468.length=r460.2.2.length then
             some (.next (w64 (r460.1+(1:Int)),s2,s3,decide (q464≤(w64 (r460.1 - s1))),r460.2.1,r468))
            else none
           else
            (rec r460.2.2 (w64 (r460.1+(1:Int))) s2 s3).bind fun r472 =>
            if r472.length=r460.2.2.length then
             some (.next (s1,r460.1,s3,decide (q464≤(w64 (s2 - r460.1))),r460.2.1,r472))
            else none
          else none
         else
          (za1 p4 r392 s1 s2 (w64 ((w64 (s2 - (1:Int))) - (w64 (r387.1 - s1))))).bind fun r476 =>
          if r476.2.length=r392.length then
           some (.next (r476.1,s2,s3,s10,s11,r476.2))
          else none
        else
         (zao p4 r392 s1 s2 (w64 ((w64 (s2 - (1:Int))) - (w64 (r387.1 - s1))))).bind fun r480 =>
         if r480.2.2.length=r392.length then
          (quoK .i64 (w64 (s2 - s1)) (8:Int)).bind fun q484 =>
          if (w64 (r480.1 - s1))<(w64 (s2 - r480.1)) then
           (rec r480.2.2 s1 r480.1 s3).bind fun r488 =>
           if r488.length=r480.2.2.length then
            some (.next (w64 (r480.1+(1:Int)),s2,s3,decide (q484≤(w64 (r480.1 - s1))),r480.2.1,r488))
           else none
          else
           (rec r480.2.2 (w64 (r480.1+(1:Int))) s2 s3).bind fun r492 =>
           if r492.length=r480.2.2.length then
            some (.next (s1,r480.1,s3,decide (q484≤(w64 (s2 - r480.1))),r480.2.1,r492))
           else none
         else none
      else none
     else
      if s11=true then
       if r387.2.1=(1:Int) then
        (za7 p4 r387.2.2 s1 s2).bind fun r498 =>
        if r498.2.length=r387.2.2.length then
         if r498.1=true then
          some (.ret r498.2)
         else
          if (0:Int)<s1 then
           (rd r498.2 (w64 (s1 - (1:Int)))).bind fun v504 =>
           (rd r498.2 r387.1).bind fun v507 =>
           (p4 v504 v507).bind fun r510 =>
           if r510<(0:Int) then
            (zao p4 r498.2 s1 s2 r387.1).bind fun r514 =>
            if r514.2.2.length=r498.2.length then
             (quoK .i64 (w64 (s2 - s1)) (8:Int)).bind fun q518 =>
             if (w64 (r514.1 - s1))<(w64 (s2 - r514.1)) then
              (rec r514.2.2 s1 r514.1 s3).bind fun r522 =>
              if r522.length=r514.2.2.length then
               some (.next (w64 (r514.1+(1:Int)),s2,s3,decide (q518≤(w64 (r514.1 - s1))),r514.2.1,r522))
              else none
             else
              (rec r514.2.2 (w64 (r514.1+(1:Int))) s2 s3).bind fun r526 =>
              if r526.length=r514.2.2.length then
               some (.next (s1,r514.1,s3,decide (q518≤(w64 (s2 - r514.1))),r514.2.1,r526))
              else none
            else none
           else
            (za1 p4 r498.2 s1 s2 r387.1).bind fun r530 =>
            if r530.2.length=r498.2.length then
             some (.next (r530.1,s2,s3,s10,s11,r530.2))
            else none
          else
           (zao p4 r498.2 s1 s2 r387.1).bind fun r534 =>
           if r534.2.2.length=r498.2.length then
            (quoK .i64 (w64 (s2 - s1)) (8:Int)).bind fun q538 =>
            if (w64 (r534.1 - s1))<(w64 (s2 - r534.1)) then
             (rec r534.2.2 s1 r534.1 s3).bind fun r542 =>
             if r542.length=r534.2.2.length then
              some (.next (w64 (r534.1+(1:Int)),s2,s3,decide (q538≤(w64 (r534.1 - s1))),r534.2.1,r542))
             else none
            else
             (rec r534.2.2 (w64 (r534.1+(1:Int))) s2 s3).bind fun r546 =>
             if r546.length=r534.2.2.length then
              some (.next (s1,r534.1,s3,decide (q538≤(w64 (s2 - r534.1))),r534.2.1,r546))
             else none
           else none
        else none
       else
        if (0:Int)<s1 then
         (rd r387.2.2 (w64 (s1 - (1:Int)))).bind fun v551 =>
         (rd r387.2.2 r387.1).bind fun v554 =>
         (p4 v551 v554).bind fun r557 =>
         if r557<(0:Int) then
          (zao p4 r387.2.2 s1 s2 r387.1).bind fun r561 =>
          if r561.2.2.length=r387.2.2.length then
           (quoK .i64 (w64 (s2 - s1)) (8:Int)).bind fun q565 =>
           if (w64 (r561.1 - s1))<(w64 (s2 - r561.1)) then
            (rec r561.2.2 s1 r561.1 s3).bind fun r569 =>
            if r569.length=r561.2.2.length then
             some (.next (w64 (r561.1+(1:Int)),s2,s3,decide (q565≤(w64 (r561.1 - s1))),r561.2.1,r569))
            else none
           else
            (rec r561.2.2 (w64 (r561.1+(1:Int))) s2 s3).bind fun r573 =>
            if r573.length=r561.2.2.length then
             some (.next (s1,r561.1,s3,decide (q565≤(w64 (s2 - r561.1))),r561.2.1,r573))
            else none
          else none
         else
          (za1 p4 r387.2.2 s1 s2 r387.1).bind fun r577 =>
          if r577.2.length=r387.2.2.length then
           some (.next (r577.1,s2,s3,s10,s11,r577.2))
          else none
        else
         (zao p4 r387.2.2 s1 s2 r387.1).bind fun r581 =>
         if r581.2.2.length=r387.2.2.length then
          (quoK .i64 (w64 (s2 - s1)) (8:Int)).bind fun q585 =>
          if (w64 (r581.1 - s1))<(w64 (s2 - r581.1)) then
           (rec r581.2.2 s1 r581.1 s3).bind fun r589 =>
           if r589.length=r581.2.2.length then
            some (.next (w64 (r581.1+(1:Int)),s2,s3,decide (q585≤(w64 (r581.1 - s1))),r581.2.1,r589))
           else none
          else
           (rec r581.2.2 (w64 (r581.1+(1:Int))) s2 s3).bind fun r593 =>
           if r593.length=r581.2.2.length then
            some (.next (s1,r581.1,s3,decide (q585≤(w64 (s2 - r581.1))),r581.2.1,r593))
           else none
         else none
      else
       if (0:Int)<s1 then
        (rd r387.2.2 (w64 (s1 - (1:Int)))).bind fun v598 =>
        (rd r387.2.2 r387.1).bind fun v601 =>
        (p4 v598 v601).bind fun r604 =>
        if r604<(0:Int) then
         (zao p4 r387.2.2 s1 s2 r387.1).bind fun r608 =>
         if r608.2.2.length=r387.2.2.length then
          (quoK .i64 (w64 (s2 - s1)) (8:Int)).bind fun q612 =>
          if (w64 (r608.1 - s1))<(w64 (s2 - r608.1)) then
           (rec r608.2.2 s1 r608.1 s3).bind fun r616 =>
           if r616.length=r608.2.2.length then
            some (.next (w64 (r608.1+(1:Int)),s2,s3,decide (q612≤(w64 (r608.1 - s1))),r608.2.1,r616))
           else none
          else
           (rec r608.2.2 (w64 (r608.1+(1:Int))) s2 s3).bind fun r620 =>
           if r620.length=r608.2.2.length then
            some (.next (s1,r608.1,s3,decide (q612≤(w64 (s2 - r608.1))),r608.2.1,r620))
           else none
         else none
        else
         (za1 p4 r387.2.2 s1 s2 r387.1).bind fun r624 =>
         if r624.2.length=r387.2.2.length then
          some (.next (r624.1,s2,s3,s10,s11,r624.2))
         else none
       else
        (zao p4 r387.2.2 s1 s2 r387.1).bind fun r628 =>
        if r628.2.2.length=r387.2.2.length then
         (quoK .i64 (w64 (s2 - s1)) (8:Int)).bind fun q632 =>
         if (w64 (r628.1 - s1))<(w64 (s2 - r628.1)) then
          (rec r628.2.2 s1 r628.1 s3).bind fun r636 =>
          if r636.length=r628.2.2.length then
           some (.next (w64 (r628.1+(1:Int)),s2,s3,decide (q632≤(w64 (r628.1 - s1))),r628.2.1,r636))
          else none
         else
          (rec r628.2.2 (w64 (r628.1+(1:Int))) s2 s3).bind fun r640 =>
          if r640.length=r628.2.2.length then
           some (.next (s1,r628.1,s3,decide (q632≤(w64 (s2 - r628.1))),r628.2.1,r640))
          else none
        else none
    else none
   else
    (zb9 p4 y0 s1 s2).bind fun r644 =>
    if r644.length=y0.length then
     (zbo p4 r644 s1 s2).bind fun r648 =>
     if r648.2.2.length=r644.length then
      if r648.2.1=(2:Int) then
       (zbk p4 r648.2.2 s1 s2).bind fun r653 =>
       if r653.length=r648.2.2.length then
        if (0:Int)<s1 then
         (rd r653 (w64 (s1 - (1:Int)))).bind fun v658 =>
         (rd r653 (w64 ((w64 (s2 - (1:Int))) - (w64 (r648.1 - s1))))).bind fun v661 =>
         (p4 v658 v661).bind fun r664 =>
         if r664<(0:Int) then
          (zao p4 r653 s1 s2 (w64 ((w64 (s2 - (1:Int))) - (w64 (r648.1 - s1))))).bind fun r668 =>
          if r668.2.2.length=r653.length then
           (quoK .i64 (w64 (s2 - s1)) (8:Int)).bind fun q672 =>
           if (w64 (r668.1 - s1))<(w64 (s2 - r668.1)) then
            (rec r668.2.2 s1 r668.1 (w64 (s3 - (1:Int)))).bind fun r676 =>
            if r676.length=r668.2.2.length then
             some (.next (w64 (r668.1+(1:Int)),s2,w64 (s3 - (1:Int)),decide (q672≤(w64 (r668.1 - s1))),r668.2.1,r676))
            else none
           else
            (rec r668.2.2 (w64 (r668.1+(1:Int))) s2 (w64 (s3 - (1:Int)))).bind fun r680 =>
            if r680.length=r668.2.2.length then
             some (.next (s1,r668.1,w64 (s3 - (1:Int)),decide (q672≤(w64 (s2 - r668.1))),r668.2.1,r680))
            else none
          else none
         else
          (za1 p4 r653 s1 s2 (w64 ((w64 (s2 - (1:Int))) - (w64 (r648.1 - s1))))).bind fun r684 =>
          if r684.2.length=r653.length then
           some (.next (r684.1,s2,w64 (s3 - (1:Int)),s10,s11,r684.2))
          else none
        else
         (zao p4 r653 s1 s2 (w64 ((w64 (s2 - (1:Int))) - (w64 (r648.1 - s1))))).bind fun r688 =>
         if r688.2.2.length=r653.length then
          (quoK .i64 (w64 (s2 - s1)) (8:Int)).bind fun q692 =>
          if (w64 (r688.1 - s1))<(w64 (s2 - r688.1)) then
           (rec r688.2.2 s1 r688.1 (w64 (s3 - (1:Int)))).bind fun r696 =>
           if r696.length=r688.2.2.length then
            some (.next (w64 (r688.1+(1:Int)),s2,w64 (s3 - (1:Int)),decide (q692≤(w64 (r688.1 - s1))),r688.2.1,r696))
           else none
          else
           (rec r688.2.2 (w64 (r688.1+(1:Int))) s2 (w64 (s3 - (1:Int)))).bind fun r700 =>
           if r700.length=r688.2.2.length then
            some (.next (s1,r688.1,w64 (s3 - (1:Int)),decide (q692≤(w64 (s2 - r688.1))),r688.2.1,r700))
           else none
         else none
       else none
      else
       if (0:Int)<s1 then
        (rd r648.2.2 (w64 (s1 - (1:Int)))).bind fun v705 =>
        (rd r648.2.2 r648.1).bind fun v708 =>
        (p4 v705 v708).bind fun r711 =>
        if r711<(0:Int) then
         (zao p4 r648.2.2 s1 s2 r648.1).bind fun r715 =>
         if r715.2.2.length=r648.2.2.length then
          (quoK .i64 (w64 (s2 - s1)) (8:Int)).bind fun q719 =>
          if (w64 (r715.1 - s1))<(w64 (s2 - r715.1)) then
           (rec r715.2.2 s1 r715.1 (w64 (s3 - (1:Int)))).bind fun r723 =>
           if r723.length=r715.2.2.length then
            some (.next (w64 (r715.1+(1:Int)),s2,w64 (s3 - (1:Int)),decide (q719≤(w64 (r715.1 - s1))),r715.2.1,r723))
           else none
          else
           (rec r715.2.2 (w64 (r715.1+(1:Int))) s2 (w64 (s3 - (1:Int)))).bind fun r727 =>
           if r727.length=r715.2.2.length then
            some (.next (s1,r715.1,w64 (s3 - (1:Int)),decide (q719≤(w64 (s2 - r715.1))),r715.2.1,r727))
           else none
         else none
        else
         (za1 p4 r648.2.2 s1 s2 r648.1).bind fun r731 =>
         if r731.2.length=r648.2.2.length then
          some (.next (r731.1,s2,w64 (s3 - (1:Int)),s10,s11,r731.2))
         else none
       else
        (zao p4 r648.2.2 s1 s2 r648.1).bind fun r735 =>
        if r735.2.2.length=r648.2.2.length then
         (quoK .i64 (w64 (s2 - s1)) (8:Int)).bind fun q739 =>
         if (w64 (r735.1 - s1))<(w64 (s2 - r735.1)) then
          (rec r735.2.2 s1 r735.1 (w64 (s3 - (1:Int)))).bind fun r743 =>
          if r743.length=r735.2.2.length then
           some (.next (w64 (r735.1+(1:Int)),s2,w64 (s3 - (1:Int)),decide (q739≤(w64 (r735.1 - s1))),r735.2.1,r743))
          else none
         else
          (rec r735.2.2 (w64 (r735.1+(1:Int))) s2 (w64 (s3 - (1:Int)))).bind fun r747 =>
          if r747.length=r735.2.2.length then
           some (.next (s1,r735.1,w64 (s3 - (1:Int)),decide (q739≤(w64 (s2 - r735.1))),r735.2.1,r747))
          else none
        else none
     else none
    else none
noncomputable def slices_pdqsortCmpFunc.body {T:Type} (rec:(List T)→Int→Int→Int→Option (List T)) (p4:T→T→Option Int) (x0:(List T)) (x1:Int) (x2:Int) (x3:Int):Option (List T) :=
 (iter (zev rec p4) (x1,x2,x3,true,true,x0)).bind fun
  | .ret r753 =>
   some r753
  | _=>none
end Xr

namespace Xr
open Go Go.Ev
set_option linter.unusedVariables false
set_option linter.unusedSimpArgs false
def lessV (a b:Pair):Bool:=decide (a.Old<b.Old)
def cmpT (a b:Pair):Option Int:=some (if lessV a b=true then -1 else 0)
theorem ybz (i j:Int) (l:List Pair):zaz i j l=(rd l i).bind fun a=>(rd l j).bind fun b=>some (lessV a b):=rfl
theorem zhw (b:Bool):((if b=true then (-1:Int) else 0)<0)↔b=true:=by cases b<;>simp
theorem ygd {T:Type}{l:List T}{i j:Int}{x y:T} (h:rd l j=some y):∃ z,rd (l.set i.toNat x) j=some z:=by
 obtain ⟨h0,h1,_⟩:=zhr h
 exact ⟨_,rd_lt h0 (by simpa using h1)⟩
theorem zji {α:Type} (i j:Int) (l:List Pair) (k:List Pair→Option α):((swapL i j l).bind fun r=>if r.length=l.length then k r else none)=(rd l i).bind fun x=>(rd l j).bind fun y=>k ((l.set i.toNat y).set j.toNat x):=by
 unfold swapL
 cases rd l i with
 | none=>rfl
 | some x =>
  cases rd l j with
  | none=>rfl
  | some y=>simp only [Option.bind_some,List.length_set,if_true]
theorem zfy {α:Type} (i j:Int) (l:List Pair) (k:Bool→Option α):((zaz i j l).bind k)=(rd l i).bind fun x=>(rd l j).bind fun y=>k (lessV x y):=by
 rw [ybz]
 cases rd l i with
 | none=>rfl
 | some x=>cases rd l j<;>rfl
theorem zgy {α:Type} (x y:Pair) (k:Int→Option α):(cmpT x y).bind k=k (if lessV x y=true then -1 else 0):=rfl
theorem bnd {α β:Type}{x:Option α}{f g:α→Option β} (h:∀ o,f o=g o):x.bind f=x.bind g:=by
 cases x with
 | none=>rfl
 | some a=>exact h a
theorem zw0 {α:Type}{l:List Pair}{i j:Int}{x y:Pair}{k:Option α} (h:rd l j=some y):((rd (l.set i.toNat x) j).bind fun _=>k)=k:=by
 obtain ⟨z,hz⟩:=ygd (i:=i) (x:=x) h
 rw [hz];rfl
theorem rdb {α:Type}{l:List Pair}{i j:Int}{x:Pair}{k:Option α} (h:(rd l j).isSome=true):((rd (l.set i.toNat x) j).bind fun _=>k)=k:=by
 obtain ⟨y,hy⟩:=Option.isSome_iff_exists.1 h
 exact zw0 hy
theorem yb3 (a b c:Int):zc0 a b c=zba cmpT a b c:=by
 funext ⟨j,y⟩
 simp only [zc0,zba,zji,zfy,zgy,zhw]
 cases hx:rd y j with
 | none=>rfl
 | some x =>
  cases hz:rd y (w64 (j - 1)) with
  | none=>rfl
  | some z=>simp only [Option.bind_some,zw0 hz,zw0 hx]
theorem yhk (a b:Int) (l:List Pair):zcz a b l=zcb cmpT l a b:=by
 have h0:zc2 a b=zbf cmpT a b:=by
  funext ⟨j,y⟩
  simp only [zc2,zbf,yb3]
  split
  ·exact bnd fun o=>by rcases o with _ | ⟨_,_,_⟩ | _<;>rfl
  ·rfl
 unfold zcz zcb
 rw [h0];exact bnd fun o=>by rcases o with _ | ⟨_,_,_⟩ | _<;>rfl
theorem z7j (a b:Int):zeo a b=za3 cmpT a b:=by
 funext ⟨j,y⟩
 simp only [zeo,za3,zji,zfy,zgy,zhw]
 cases hA:rd y (w64 (b+(w64 ((w64 ((2:Int)*j))+(1:Int)))))<;>cases hB:rd y (w64 ((w64 (b+(w64 ((w64 ((2:Int)*j))+(1:Int)))))+(1:Int)))<;>cases hC:rd y (w64 (b+j))<;>cases hD:rd y (w64 (b+(w64 ((w64 ((w64 ((2:Int)*j))+(1:Int)))+(1:Int))))) <;>
  simp only [Option.bind_some,Option.bind_none,rdb,Option.isSome_some,hA,hB,hC,hD]
theorem z4u (a b c:Int) (l:List Pair):zc8 a b c l=zde cmpT l a b c:=by
 unfold zc8 zde
 rw [z7j];exact bnd fun o=>by rcases o with _ | ⟨_,_,_⟩ | _<;>rfl
theorem ycy (a b:Int) (l:List Pair):zex a b l=zdc cmpT l a b:=by
 have h0:∀ s t u,zet s t u=zb0 cmpT s t u:=by
  intro s t u
  funext ⟨j,y⟩
  simp only [zet,zb0,z4u]
 have h1:∀ s t,zeq s t=zb1 cmpT s t:=by
  intro s t
  funext ⟨j,y⟩
  simp only [zeq,zb1,z4u,zji]
  cases hA:rd y s<;>cases hB:rd y (w64 (s+j))<;>simp only [Option.bind_some,Option.bind_none,rdb,Option.isSome_some,hA,hB]
 unfold zex zdc
 simp only [h0,h1]
 refine bnd fun q=>bnd fun o=>?_
 rcases o with _ | ⟨_,_,_⟩ | _
 ·rfl
 ·exact bnd fun o=>by rcases o with _ | ⟨_,_,_⟩ | _<;>rfl
 ·rfl
theorem yjd (a b:Int) (l:List Pair):zb3 a b l=zbk cmpT l a b:=by
 have h0:zdg=zbc cmpT:=by
  funext ⟨i,j,y⟩
  simp only [zdg,zbc,zji]
  cases hA:rd y i<;>cases hB:rd y j<;>simp only [Option.bind_some,Option.bind_none,rdb,Option.isSome_some,hA,hB]
 unfold zb3 zbk
 rw [h0];exact bnd fun o=>by rcases o with _ | ⟨_,_,_,_⟩ | _<;>rfl
theorem zpw (a b c:Int) (l:List Pair):(zcg a b l c).map (fun r=>(r.1,r.2.1,l,r.2.2))=zc5 cmpT l a b c:=by
 simp only [zcg,zc5,zfy,zgy,zhw]
 cases hA:rd l b<;>cases hB:rd l a<;>simp only [Option.bind_some,Option.bind_none,Option.map_none]
 split<;>rfl
theorem yjh (x:Int):zfn x=zfw x:=rfl
theorem zpc (a b c d:Int) (l:List Pair):zc6 cmpT l a b c d=(zb5 a b c l d).map fun r=>(r.1,l,r.2):=by
 unfold zc6 zb5
 rw [← zpw]
 cases h1:zcg a b l d with
 | none=>rfl
 | some r =>
  simp only [Option.map_some,Option.bind_some,if_true]
  rw [← zpw]
  cases h2:zcg r.2.1 c l r.2.2 with
  | none=>rfl
  | some q =>
   simp only [Option.map_some,Option.bind_some,if_true]
   rw [← zpw]
   cases h3:zcg r.1 q.1 l q.2.2 with
   | none=>rfl
   | some t=>simp only [Option.map_some,Option.bind_some,if_true]
theorem z1z (a d:Int) (l:List Pair):zbm cmpT l a d=(za4 a l d).map fun r=>(r.1,l,r.2):=by
 unfold zbm za4
 rw [zpc]
 cases zb5 (w64 (a - 1)) a (w64 (a+1)) l d with
 | none=>rfl
 | some r=>simp only [Option.map_some,Option.bind_some,if_true]
theorem z86 (a b:Int) (l:List Pair):zbo cmpT l a b=(zcc a b l).map fun r=>(r.1,r.2,l):=by
 unfold zbo zcc
 cases quoK .i64 (w64 (b - a)) 4 with
 | none=>rfl
 | some q =>
  simp only [Option.bind_some,z1z,zpc]
  split
  ·split
   ·cases h1:za4 (w64 (a+w64 (q*1))) l 0 with
    | none=>rfl
    | some r =>
     simp only [Option.map_some,Option.bind_some,if_true,z1z]
     cases h2:za4 (w64 (a+w64 (q*2))) l r.2 with
     | none=>rfl
     | some t =>
      simp only [Option.map_some,Option.bind_some,if_true,z1z]
      cases h3:za4 (w64 (a+w64 (q*3))) l t.2 with
      | none=>rfl
      | some u =>
       simp only [Option.map_some,Option.bind_some,if_true,zpc]
       cases h4:zb5 r.1 t.1 u.1 l u.2 with
       | none=>rfl
       | some v =>
        simp only [Option.map_some,Option.bind_some,if_true]
        split
        ·rfl
        ·split<;>rfl
   ·cases h4:zb5 (w64 (a+w64 (q*1))) (w64 (a+w64 (q*2))) (w64 (a+w64 (q*3))) l 0 with
    | none=>rfl
    | some v =>
     simp only [Option.map_some,Option.bind_some,if_true]
     split
     ·rfl
     ·split<;>rfl
  ·rfl
theorem yda (a b c:Int) (y:List Pair):zbx a b c y=za2 cmpT a b c y:=by
 funext i
 simp only [zbx,za2,zfy,zgy,zhw]
theorem ycb (a b c d:Int):zby a b c d=zaw cmpT a b c d:=by
 funext ⟨i,y⟩
 simp only [zby,zaw,zji,zfy,zgy,zhw]
 cases hA:rd y i<;>cases hB:rd y (w64 (i - 1))<;>simp only [Option.bind_some,Option.bind_none,rdb,Option.isSome_some,hA,hB]
theorem z2j (a b c d:Int):zbh a b c d=zar cmpT a b c d:=by
 funext ⟨i,y⟩
 simp only [zbh,zar,zji,zfy,zgy,zhw]
 cases hA:rd y i<;>cases hB:rd y (w64 (i - 1))<;>simp only [Option.bind_some,Option.bind_none,rdb,Option.isSome_some,hA,hB]
end Xr

namespace Xr
open Go Go.Ev
set_option linter.unusedVariables false
set_option linter.unusedSimpArgs false
theorem z7v (a b:Int) (y:List Pair):zd6 a b y=zd0 cmpT a b y:=by
 funext i
 simp only [zd6,zd0,zfy,zgy,zhw]
theorem z9e (a b:Int) (y:List Pair):zd5 a b y=zd2 cmpT a b y:=by
 funext i
 simp only [zd5,zd2,zfy,zgy,zhw]
theorem z8i (a b:Int) (y:List Pair):zd7 a b y=zd3 cmpT a b y:=by
 funext i
 simp only [zd7,zd3,zfy,zgy,zhw]
theorem z68 (a b:Int) (y:List Pair):zd9 a b y=zd1 cmpT a b y:=by
 funext i
 simp only [zd9,zd1,zfy,zgy,zhw]
theorem zj1 {α:Type} (i j:Int) (l:List Pair) (k:List Pair→Option α):((swapL i j l).bind fun r=>if r.length=l.length then k r else none)=(rd l j).bind fun v=>(rd l i).bind fun w=>(rd (l.set i.toNat v) j).bind fun _=>k ((l.set i.toNat v).set j.toNat w):=by
 rw [zji]
 cases hA:rd l i<;>cases hB:rd l j<;>simp only [Option.bind_some,Option.bind_none,rdb,Option.isSome_some,hA,hB]
theorem z8n (a:Int):zd4 a=zbj cmpT a:=by
 funext ⟨i,j,y⟩
 simp only [zd4,zbj,z8i,z68]
 refine bnd fun o=>?_
 rcases o with _ | ⟨_,i'⟩ | _
 ·rfl
 ·refine bnd fun o=>?_
  rcases o with _ | ⟨_,j'⟩ | _
  ·rfl
  ·simp only
   split
   ·rfl
   ·rw [zj1]
  ·rfl
 ·rfl
theorem ycx (a b c:Int) (l:List Pair):zas a b c l=zao cmpT l a b c:=by
 unfold zas zao
 rw [zj1]
 refine bnd fun v1=>bnd fun v4=>bnd fun v9=>?_
 rw [z7v]
 refine bnd fun o=>?_
 rcases o with _ | ⟨_,i'⟩ | _
 ·rfl
 ·simp only
  rw [z9e]
  refine bnd fun o=>?_
  rcases o with _ | ⟨_,j'⟩ | _
  ·rfl
  ·simp only
   split
   ·rw [zj1]
   ·rw [zj1]
    refine bnd fun v52=>bnd fun v55=>bnd fun v60=>?_
    rw [z8n]
    refine bnd fun o=>?_
    rcases o with _ | ⟨_,i2,j2,y2⟩ | _
    ·rfl
    ·simp only
     rw [zj1]
    ·rfl
  ·rfl
 ·rfl
theorem ydm (a b:Int):zbw a b=zam cmpT a b:=by
 funext ⟨i,c,y⟩
 simp only [zbw,zam,yda]
 split
 ·refine bnd fun o=>?_
  rcases o with _ | ⟨_,i'⟩ | _
  ·rfl
  ·simp only
   split
   ·rfl
   ·split
    ·rfl
    ·rw [zj1]
     refine bnd fun v=>bnd fun w=>bnd fun u=>?_
     split
     ·rw [ycb]
      refine bnd fun o=>?_
      rcases o with _ | ⟨_,k,y2⟩ | _
      ·rfl
      ·simp only
       split
       ·rw [z2j]
        exact bnd fun o=>by rcases o with _ | ⟨_,_,_⟩ | _<;>rfl
       ·rfl
      ·rfl
     ·split
      ·rw [z2j]
       exact bnd fun o=>by rcases o with _ | ⟨_,_,_⟩ | _<;>rfl
      ·rfl
  ·rfl
 ·rfl
theorem yj3 (a b:Int) (l:List Pair):za9 a b l=za7 cmpT l a b:=by
 unfold za9 za7
 rw [ydm]
 exact bnd fun o=>by rcases o with _ | ⟨_,_,_,_⟩ | _<;>rfl
end Xr

namespace Xr
open Go Go.Ev
set_option linter.unusedVariables false
set_option linter.unusedSimpArgs false
theorem yfu (a b:Int) (y:List Pair):zco a b y=zea cmpT a b y:=by
 funext i
 simp only [zco,zea,zfy,zgy,zhw]
theorem ykj (a b:Int) (y:List Pair):zcq a b y=zed cmpT a b y:=by
 funext i
 simp only [zcq,zed,zfy,zgy,zhw]
theorem yjs (a:Int):zcr a=zef cmpT a:=by
 funext ⟨i,j,y⟩
 simp only [zcr,zef,yfu,ykj]
 refine bnd fun o=>?_
 rcases o with _ | ⟨_,i'⟩ | _
 ·rfl
 ·refine bnd fun o=>?_
  rcases o with _ | ⟨_,j'⟩ | _
  ·rfl
  ·simp only
   split
   ·rfl
   ·rw [zj1]
  ·rfl
 ·rfl
theorem pe_eq (a b c:Int) (l:List Pair):zay a b c l=za1 cmpT l a b c:=by
 unfold zay za1
 rw [zj1]
 refine bnd fun v1=>bnd fun v4=>bnd fun v9=>?_
 rw [yjs]
 exact bnd fun o=>by rcases o with _ | ⟨_,_,_,_⟩ | _<;>rfl
theorem zk1 {s:ByteArray}{i q:Int} (h:bt s i=some q):0≤q∧q<256:=by
 unfold bt at h
 obtain ⟨b,_,rfl⟩:=Option.map_eq_some_iff.1 h
 have:=b.toNat_lt
 omega
theorem z0j {q:Int} (h0:0≤q) (h1:q<9223372036854775808):IntKind.wrap .i64 q=q:=zdn (by omega) h1
theorem zo7 {q:Int} (h0:0≤q) (h1:q<9223372036854775808):IntKind.wrap .u64 q=q:=by
 change (if (false && decide (q % 18446744073709551616 ≥ 9223372036854775808))=true then q % 18446744073709551616 - 18446744073709551616 else q % 18446744073709551616)=q
 simp only [Bool.false_and,Bool.false_eq_true,if_false]
 omega
theorem zjh {q:Int} (h0:0≤q) (h1:q<9223372036854775808):w64 q=q:=zdn (by omega) h1
theorem z3d {x r:Int} (h:zdj x=some r):0≤r∧r<1000:=by
 have key:∀ r,zdr x=some r→0≤r∧r<1000:=by
  intro r h
  unfold zdr at h
  have k:∀ (c q:Int),0≤c→c<100→0≤q→q<256→0≤w64 (c+IntKind.wrap .i64 q)∧w64 (c+IntKind.wrap .i64 q)<1000:=by
   intro c q a1 a2 a3 a4
   rw [z0j a3 (by omega),zjh (by omega) (by omega)];omega
  have d1:w64 (32+16)=48:=zjh (by omega) (by omega)
  have d2:w64 (48+8)=56:=zjh (by omega) (by omega)
  have d3:w64 (32+8)=40:=zjh (by omega) (by omega)
  have d4:w64 (0+16)=16:=zjh (by omega) (by omega)
  have d5:w64 (16+8)=24:=zjh (by omega) (by omega)
  have d6:w64 (0+8)=8:=zjh (by omega) (by omega)
  simp only [d1,d2,d3,d4,d5,d6] at h
  rcases itc h with ⟨_,_,h⟩ | ⟨_,_,h⟩
  ·obtain ⟨q2,_,h⟩:=bsm h
   rcases itc h with ⟨_,_,h⟩ | ⟨_,_,h⟩
   ·obtain ⟨q6,_,h⟩:=bsm h
    rcases itc h with ⟨_,_,h⟩ | ⟨_,_,h⟩
    ·obtain ⟨q10,_,h⟩:=bsm h
     (obtain ⟨q,hq,h⟩:=bsm h;cases h;have hb:=zk1 hq;exact k _ _ (by omega) (by omega) hb.1 hb.2)
    ·(obtain ⟨q,hq,h⟩:=bsm h;cases h;have hb:=zk1 hq;exact k _ _ (by omega) (by omega) hb.1 hb.2)
   ·rcases itc h with ⟨_,_,h⟩ | ⟨_,_,h⟩
    ·obtain ⟨q10,_,h⟩:=bsm h
     (obtain ⟨q,hq,h⟩:=bsm h;cases h;have hb:=zk1 hq;exact k _ _ (by omega) (by omega) hb.1 hb.2)
    ·(obtain ⟨q,hq,h⟩:=bsm h;cases h;have hb:=zk1 hq;exact k _ _ (by omega) (by omega) hb.1 hb.2)
  ·rcases itc h with ⟨_,_,h⟩ | ⟨_,_,h⟩
   ·obtain ⟨q6,_,h⟩:=bsm h
    rcases itc h with ⟨_,_,h⟩ | ⟨_,_,h⟩
    ·obtain ⟨q10,_,h⟩:=bsm h
     (obtain ⟨q,hq,h⟩:=bsm h;cases h;have hb:=zk1 hq;exact k _ _ (by omega) (by omega) hb.1 hb.2)
    ·(obtain ⟨q,hq,h⟩:=bsm h;cases h;have hb:=zk1 hq;exact k _ _ (by omega) (by omega) hb.1 hb.2)
   ·rcases itc h with ⟨_,_,h⟩ | ⟨_,_,h⟩
    ·obtain ⟨q10,_,h⟩:=bsm h
     (obtain ⟨q,hq,h⟩:=bsm h;cases h;have hb:=zk1 hq;exact k _ _ (by omega) (by omega) hb.1 hb.2)
    ·(obtain ⟨q,hq,h⟩:=bsm h;cases h;have hb:=zk1 hq;exact k _ _ (by omega) (by omega) hb.1 hb.2)
 unfold zdj at h
 obtain ⟨q,hq,h⟩:=bsm h
 cases h
 exact key _ hq
theorem ycp (x:Int):zec x=zes x:=by
 unfold zec zes
 cases h:zdj (IntKind.wrap .u64 x) with
 | none=>rfl
 | some r =>
  have:=z3d h
  simp only [Option.bind_some]
  rw [zo7 this.1 (by omega)]
theorem ydk (a b c:Int):zc1 a b c=zbg cmpT a b c:=by
 funext ⟨i,y,w⟩
 simp only [zc1,zbg,yjh]
 refine bnd fun q=>?_
 split
 ·refine bnd fun r=>?_
  split
  ·rw [zj1]
  ·rw [zj1]
 ·rfl
theorem yj0 (a b:Int) (l:List Pair):zcv a b l=zb9 cmpT l a b:=by
 unfold zcv zb9
 simp only [ycp,ydk]
 split
 ·exact bnd fun r=>bnd fun q=>bnd fun o=>by rcases o with _ | ⟨_,_,_,_⟩ | _<;>rfl
 ·rfl
theorem yif (rec:Int→Int→Int→List Pair→Option (List Pair)):ze2 rec=zev (fun l a b c=>rec a b c l) cmpT:=by
 funext ⟨a,b,c,d,e,y⟩
 simp only [ze2,zev,yhk,ycy,yj0,yjd,yj3,ycx,pe_eq,z86,zfy,zgy,zhw,Option.bind_map,Function.comp_def,if_true]
end Xr

namespace Xr
open Go Go.Ev
set_option linter.unusedVariables false
section
variable {T : Type} {p : T → T → Option Int} {key : T → Int}
structure Seg (l l':List T) (a b:Nat):Prop where
 perm:l'.Perm l
 out:∀ i,i<a∨b≤i→l'[i]?=l[i]?
theorem Seg.refl (l:List T) (a b:Nat):Seg l l a b:=⟨.refl _,fun _ _=>rfl⟩
theorem Seg.trans {l m n:List T}{a b:Nat} (h:Seg l m a b) (k:Seg m n a b):Seg l n a b:=⟨k.perm.trans h.perm,fun i hi=>(k.out i hi).trans (h.out i hi)⟩
theorem Seg.mono {l m:List T}{a b a' b':Nat} (h:Seg l m a b) (h1:a'≤a) (h2:b≤b'):Seg l m a' b':=⟨h.perm,fun i hi=>h.out i (by omega)⟩
theorem Seg.len {l m:List T}{a b:Nat} (h:Seg l m a b):m.length=l.length:=h.perm.length_eq
theorem Seg.swap {l:List T}{i j a b:Nat}{x y:T} (hx:l[i]?=some x) (hy:l[j]?=some y) (hi:a≤i∧i<b) (hj:a≤j∧j<b):Seg l ((l.set i y).set j x) a b:=by
 obtain ⟨h1,e1⟩:=List.getElem?_eq_some_iff.1 hx
 obtain ⟨h2,e2⟩:=List.getElem?_eq_some_iff.1 hy
 subst e1 e2
 refine ⟨List.set_set_perm h1 h2,fun k hk=>?_⟩
 rw [List.getElem?_set_ne (by omega),List.getElem?_set_ne (by omega)]
theorem zgx {l:List T}{i j:Nat}{x y:T} (hx:l[i]?=some x) (hy:l[j]?=some y) (k:Nat):((l.set i y).set j x)[k]?=if k=j then some x else if k=i then some y else l[k]?:=by
 obtain ⟨h1,e1⟩:=List.getElem?_eq_some_iff.1 hx
 obtain ⟨h2,e2⟩:=List.getElem?_eq_some_iff.1 hy
 by_cases hkj:k=j
 ·subst hkj;rw [if_pos rfl,List.getElem?_set_self (by simpa using h2)]
 ·rw [if_neg hkj,List.getElem?_set_ne (fun e=>hkj e.symm)]
  by_cases hki:k=i
  ·subst hki;rw [if_pos rfl,List.getElem?_set_self h1]
  ·rw [if_neg hki,List.getElem?_set_ne (fun e=>hki e.symm)]
def Keyed (p:T→T→Option Int) (key:T→Int) (l:List T):Prop:=∀ x∈l,∀ y∈l,∃ c,p x y=some c∧(c<0↔key x<key y)
theorem Keyed.perm {l m:List T} (h:Keyed p key l) (hp:m.Perm l):Keyed p key m:=fun x hx y hy=>h x (hp.mem_iff.1 hx) y (hp.mem_iff.1 hy)
theorem Keyed.seg {l m:List T}{a b:Nat} (h:Keyed p key l) (hs:Seg l m a b):Keyed p key m:=h.perm hs.perm
def ka (key:T→Int) (l:List T) (i:Nat):Int:=((l[i]?).map key).getD 0
theorem zbq {l:List T}{i:Nat}{x:T} (h:l[i]?=some x):ka key l i=key x:=by simp [ka,h]
def Asc (key:T→Int) (l:List T) (a b:Nat):Prop:=∀ i j,a≤i→i<j→j<b→ka key l i≤ka key l j
theorem zce {l:List T}{i:Nat} (h:i<l.length):∃ x,l[i]?=some x:=⟨_,List.getElem?_eq_getElem h⟩
theorem zg9 {n:Nat} (h:n<2 ^ 62) (h0:0<n):w64 ((n:Int) - 1)=((n - 1:Nat):Int):=by
 rw [zdn (by omega) (by omega)];omega
def Sink (key:T→Int) (l:List T) (a i j:Nat):Prop:=(∀ p q,a≤p→p<q→q≤i→p≠j→q≠j→ka key l p≤ka key l q)∧∀ q,j<q→q≤i→ka key l j≤ka key l q
theorem z2w {l:List T}{a b i:Nat} (hk:Keyed p key l) (hb:b≤l.length) (hl:l.length<2 ^ 40) (hai:a≤i) (hib:i<b) :
  ∀ (j:Nat) (y:List T),a≤j→j≤i→Seg l y a b→Sink key y a i j →
   ∃ (j':Nat) (y':List T),iter (zba p (a:Int) (b:Int) (i:Int)) ((j:Int),y)=some (.jmp 2 ((j':Int),y'))∧Seg l y' a b∧Asc key y' a (i+1):=by
 intro j
 induction j with
 | zero =>
  intro y h1 h2 hs hq
  refine ⟨0,y,zau ?_,hs,fun u v hu huv hv=>?_⟩
  ·simp only [zba]
   rw [if_neg (by omega)]
  ·by_cases hu0:u=0
   ·subst hu0;exact hq.2 v (by omega) (by omega)
   ·exact hq.1 u v hu huv (by omega) (by omega) (by omega)
 | succ j ih =>
  intro y h1 h2 hs hq
  by_cases hlt:a<j+1
  case neg =>
   obtain rfl:a=j+1:=by omega
   refine ⟨j+1,y,zau ?_,hs,fun u v hu huv hv=>?_⟩
   ·simp only [zba]
    rw [if_neg (by omega)]
   ·by_cases hu0:u=j+1
    ·subst hu0;exact hq.2 v (by omega) (by omega)
    ·exact hq.1 u v hu huv (by omega) (by omega) (by omega)
  have hyl:=hs.len
  obtain ⟨x,hx⟩:=zce (l:=y) (i:=j+1) (by omega)
  obtain ⟨z,hz⟩:=zce (l:=y) (i:=j) (by omega)
  obtain ⟨c,hc,hcc⟩:=hk.seg hs x (List.mem_of_getElem? hx) z (List.mem_of_getElem? hz)
  have e1:w64 (((j+1:Nat):Int) - 1)=(j:Int):=by rw [zg9 (by omega) (by omega)];rfl
  have hrd:(y.set (j+1) z)[j]?=some z:=by rw [List.getElem?_set_ne (by omega)];exact hz
  have hstep:zba p (a:Int) (b:Int) (i:Int) (((j+1:Nat):Int),y)=if c<0 then some (.next ((j:Int),(y.set (j+1) z).set j x)) else some (.jmp 2 (((j+1:Nat):Int),y)):=by
   simp only [zba,e1]
   simp only [zb2,hx,hz,Option.bind_some,hc,Int.toNat_natCast,hrd]
   rw [if_pos (by omega)]
  have kx:=zbq (key:=key) hx
  have kz:=zbq (key:=key) hz
  by_cases h0:c<0
  ·rw [if_pos h0] at hstep
   rw [zat hstep]
   have hlt':=hcc.1 h0
   have hget:=zgx hx hz
   have kk:∀ k,ka key ((y.set (j+1) z).set j x) k=if k=j then key x else if k=j+1 then key z else ka key y k:=by
    intro k
    unfold ka
    rw [hget k]
    split
    ·rfl
    ·split<;>rfl
   refine ih _ (by omega) (by omega) (hs.trans (Seg.swap hx hz (by omega) (by omega))) ⟨fun u v hu huv hv hu' hv'=>?_,fun v hv hvi=>?_⟩
   ·rw [kk,kk,if_neg hu',if_neg hv']
    by_cases hv1:v=j+1
    ·rw [if_pos hv1,if_neg (by omega),← kz];exact hq.1 u j hu (by omega) (by omega) (by omega) (by omega)
    ·rw [if_neg hv1]
     by_cases hu1:u=j+1
     ·rw [if_pos hu1,← kz];exact hq.1 j v (by omega) (by omega) hv (by omega) (by omega)
     ·rw [if_neg hu1];exact hq.1 u v hu huv hv (by omega) (by omega)
   ·rw [kk,kk,if_pos rfl,if_neg (by omega)]
    by_cases hv1:v=j+1
    ·rw [if_pos hv1];omega
    ·rw [if_neg hv1,← kx];exact hq.2 v (by omega) hvi
  ·rw [if_neg h0] at hstep
   refine ⟨j+1,y,zau hstep,hs,fun u v hu huv hv=>?_⟩
   have hge:key z≤key x:=by
    have:=mt hcc.2 h0;omega
   by_cases hu1:u=j+1
   ·subst hu1;exact hq.2 v (by omega) (by omega)
   ·by_cases hv1:v=j+1
    ·subst hv1
     by_cases hu2:u=j
     ·subst hu2;rw [kx,kz];exact hge
     ·have:=hq.1 u j hu (by omega) (by omega) (by omega) (by omega)
      rw [kx];rw [kz] at this;omega
    ·exact hq.1 u v hu huv (by omega) hu1 hv1
theorem yaw {l:List T}{a b:Nat} (hk:Keyed p key l) (hab:a≤b) (hb:b≤l.length) (hl:l.length<2 ^ 40):∃ l',zcb p l (a:Int) (b:Int)=some l'∧Seg l l' a b∧Asc key l' a b:=by
 have key1:∀ (d i:Nat) (y:List T),i+d=max b (a+1)→a+1≤i→Seg l y a b→Asc key y a i →
   ∃ (i':Nat) (y':List T),iter (zbf p (a:Int) (b:Int)) ((i:Int),y)=some (.jmp 0 ((i':Int),y'))∧Seg l y' a b∧Asc key y' a b:=by
  intro d
  induction d with
  | zero =>
   intro i y h1 h2 hs hq
   refine ⟨i,y,zau ?_,hs,fun u v hu huv hv=>hq u v hu huv (by omega)⟩
   simp only [zbf]
   rw [if_neg (by omega)]
  | succ d ih =>
   intro i y h1 h2 hs hq
   have hib:i<b:=by omega
   obtain ⟨j',y',h3,h4,h5⟩:=z2w hk hb hl (a:=a) (b:=b) (i:=i) (by omega) hib i y (by omega) (Nat.le_refl _) hs ⟨fun u v hu huv hv hu' hv'=>hq u v hu huv (by omega),fun v hv hv'=>by omega⟩
   have hstep:zbf p (a:Int) (b:Int) ((i:Int),y)=some (.next (((i+1:Nat):Int),y')):=by
    simp only [zbf,h3,Option.bind_some,zbb (show i<2 ^ 62 by omega)]
    rw [if_pos (by omega)]
   rw [zat hstep]
   exact ih (i+1) y' (by omega) (by omega) h4 h5
 obtain ⟨i',y',h1,h2,h3⟩:=key1 (max b (a+1) - (a+1)) (a+1) l (by omega) (Nat.le_refl _) (.refl ..) (fun u v hu huv hv=>by omega)
 refine ⟨y', ?_,h2,h3⟩
 unfold zcb
 rw [zbb (by omega),h1]
 rfl
theorem w64_n {x:Int}{n:Nat} (h:x=(n:Int)) (hn:n<2 ^ 62):w64 x=(n:Int):=by subst h;exact zsl hn
def kid (key:T→Int) (l:List T) (a hi r:Nat):Nat:=if 2*r+2<hi∧ka key l (a+(2*r+1))<ka key l (a+(2*r+2)) then 2*r+2 else 2*r+1
theorem z4s {y:List T}{a hi r:Nat} (hk:Keyed p key y) (hl:a+hi≤y.length) (hy:y.length<2 ^ 40) (h2:2*r+1<hi) :
  ∃ x z,y[a+r]?=some x∧y[a+kid key y a hi r]?=some z∧za3 p (hi:Int) (a:Int) ((r:Int),y) =
   if key x<key z then some (.next (((kid key y a hi r:Nat):Int),(y.set (a+r) z).set (a+kid key y a hi r) x)) else some (.ret y):=by
 obtain ⟨x,hx⟩:=zce (l:=y) (i:=a+r) (by omega)
 obtain ⟨z1,hz1⟩:=zce (l:=y) (i:=a+(2*r+1)) (by omega)
 have e1:w64 ((2:Int)*(r:Int))=((2*r:Nat):Int):=w64_n (by omega) (by omega)
 have e2:w64 (((2*r:Nat):Int)+1)=((2*r+1:Nat):Int):=w64_n (by omega) (by omega)
 have e3:w64 (((2*r+1:Nat):Int)+1)=((2*r+2:Nat):Int):=w64_n (by omega) (by omega)
 have e4:w64 ((a:Int)+((2*r+1:Nat):Int))=((a+(2*r+1):Nat):Int):=w64_n (by omega) (by omega)
 have e5:w64 (((a+(2*r+1):Nat):Int)+1)=((a+(2*r+2):Nat):Int):=w64_n (by omega) (by omega)
 have e6:w64 ((a:Int)+((2*r+2:Nat):Int))=((a+(2*r+2):Nat):Int):=w64_n (by omega) (by omega)
 have e7:w64 ((a:Int)+(r:Int))=((a+r:Nat):Int):=w64_n (by omega) (by omega)
 have kx:=zbq (key:=key) hx
 have k1:=zbq (key:=key) hz1
 have n1:¬ (hi:Int)≤((2*r+1:Nat):Int):=by omega
 have mx:=List.mem_of_getElem? hx
 have m1:=List.mem_of_getElem? hz1
 obtain ⟨c1,hc1,hcc1⟩:=hk x mx z1 m1
 have hrd1:(y.set (a+r) z1)[a+(2*r+1)]?=some z1:=by rw [List.getElem?_set_ne (by omega)];exact hz1
 by_cases h3:2*r+2<hi
 ·obtain ⟨z2,hz2⟩:=zce (l:=y) (i:=a+(2*r+2)) (by omega)
  have k2:=zbq (key:=key) hz2
  have m2:=List.mem_of_getElem? hz2
  obtain ⟨c2,hc2,hcc2⟩:=hk x mx z2 m2
  obtain ⟨c,hc,hcc⟩:=hk z1 m1 z2 m2
  have hrd2:(y.set (a+r) z2)[a+(2*r+2)]?=some z2:=by rw [List.getElem?_set_ne (by omega)];exact hz2
  have n3:((2*r+2:Nat):Int)<(hi:Int):=by omega
  by_cases h4:c<0
  ·have hkid:kid key y a hi r=2*r+2:=by unfold kid;rw [if_pos ⟨h3,by rw [k1,k2];exact hcc.1 h4⟩]
   refine ⟨x,z2,hx,by rw [hkid];exact hz2, ?_⟩
   rw [hkid]
   simp only [za3,e1,e2,e3,e4,e5,e6,e7]
   simp only [zb2,hx,hz1,hz2,Option.bind_some,hc,hc2,Int.toNat_natCast,hrd2]
   rw [if_neg n1,if_pos n3,if_pos h4]
   by_cases h5:c2<0
   ·rw [if_pos h5,if_pos (hcc2.1 h5)]
   ·rw [if_neg h5,if_neg (mt hcc2.2 h5)]
  ·have hkid:kid key y a hi r=2*r+1:=by unfold kid;rw [if_neg (fun h=>h4 (hcc.2 (by rw [← k1,← k2];exact h.2)))]
   refine ⟨x,z1,hx,by rw [hkid];exact hz1, ?_⟩
   rw [hkid]
   simp only [za3,e1,e2,e3,e4,e5,e6,e7]
   simp only [zb2,hx,hz1,hz2,Option.bind_some,hc,hc1,Int.toNat_natCast,hrd1]
   rw [if_neg n1,if_pos n3,if_neg h4]
   by_cases h5:c1<0
   ·rw [if_pos h5,if_pos (hcc1.1 h5)]
   ·rw [if_neg h5,if_neg (mt hcc1.2 h5)]
 ·have n3:¬ ((2*r+2:Nat):Int)<(hi:Int):=by omega
  have hkid:kid key y a hi r=2*r+1:=by unfold kid;rw [if_neg (fun h=>h3 h.1)]
  refine ⟨x,z1,hx,by rw [hkid];exact hz1, ?_⟩
  rw [hkid]
  simp only [za3,e1,e2,e3,e4,e5,e6,e7]
  simp only [zb2,hx,hz1,Option.bind_some,hc1,Int.toNat_natCast,hrd1]
  rw [if_neg n1,if_neg n3]
  by_cases h5:c1<0
  ·rw [if_pos h5,if_pos (hcc1.1 h5)]
  ·rw [if_neg h5,if_neg (mt hcc1.2 h5)]
def yco (key:T→Int) (l:List T) (a lo hi r:Nat):Prop :=
 (∀ q k,lo≤q→q≠r→(k=2*q+1∨k=2*q+2)→k<hi→ka key l (a+k)≤ka key l (a+q)) ∧
 (∀ q k,lo≤q→(r=2*q+1∨r=2*q+2)→(k=2*r+1∨k=2*r+2)→k<hi→ka key l (a+k)≤ka key l (a+q))
def Heap (key:T→Int) (l:List T) (a lo hi:Nat):Prop:=∀ q k,lo≤q→(k=2*q+1∨k=2*q+2)→k<hi→ka key l (a+k)≤ka key l (a+q)
theorem zyd {y:List T}{a hi r:Nat} (h:hi≤2*r+1) (hr:r<2 ^ 41):za3 p (hi:Int) (a:Int) ((r:Int),y)=some (.jmp 0 ((r:Int),y)):=by
 have e1:w64 ((2:Int)*(r:Int))=((2*r:Nat):Int):=w64_n (by omega) (by omega)
 have e2:w64 (((2*r:Nat):Int)+1)=((2*r+1:Nat):Int):=w64_n (by omega) (by omega)
 simp only [za3,e1,e2]
 rw [if_pos (by omega)]
theorem yh2 (y:List T) (a hi r:Nat):kid key y a hi r=2*r+1∨kid key y a hi r=2*r+2:=by unfold kid;split<;>simp
theorem z4d {y:List T}{a hi r:Nat} (h:2*r+1<hi):kid key y a hi r<hi:=by unfold kid;split<;>omega
theorem yb1 {y:List T}{a hi r k:Nat} (h:k=2*r+1∨k=2*r+2) (hk:k<hi):ka key y (a+k)≤ka key y (a+kid key y a hi r):=by
 unfold kid
 split
 ·rename_i hc
  rcases h with rfl | rfl<;>omega
 ·rename_i hc
  rcases h with rfl | rfl
  ·omega
  ·by_cases h1:ka key y (a+(2*r+1))<ka key y (a+(2*r+2))
   ·exact absurd ⟨hk,h1⟩ hc
   ·omega
theorem ybn {l:List T}{a hi lo:Nat} (hk:Keyed p key l) (hl:a+hi≤l.length) (hy:l.length<2 ^ 40):∀ (d r:Nat) (y:List T),hi - r≤d→lo≤r→r<2 ^ 41→Seg l y a (a+hi)→yco key y a lo hi r →
  ∃ y',(∃ r':Int,iter (za3 p (hi:Int) (a:Int)) ((r:Int),y)=some (.jmp 0 (r',y'))∨iter (za3 p (hi:Int) (a:Int)) ((r:Int),y)=some (.ret y'))∧Seg l y' a (a+hi)∧Heap key y' a lo hi:=by
 intro d
 induction d with
 | zero =>
  intro r y hd hr hr2 hs hb
  refine ⟨y,⟨(r:Int),.inl (zau (zyd (by omega) hr2))⟩,hs,fun q k h1 h2 h3=>?_⟩
  exact hb.1 q k h1 (by omega) h2 h3
 | succ d ih =>
  intro r y hd hr hr2 hs hb
  have hyl:=hs.len
  by_cases h2:hi≤2*r+1
  ·refine ⟨y,⟨(r:Int),.inl (zau (zyd h2 hr2))⟩,hs,fun q k h1 h2 h3=>?_⟩
   exact hb.1 q k h1 (by omega) h2 h3
  have h2':2*r+1<hi:=by omega
  obtain ⟨x,z,hx,hz,hstep⟩:=z4s (hk.seg hs) (a:=a) (hi:=hi) (r:=r) (by omega) (by omega) h2'
  have hco:=yh2 (key:=key) y a hi r
  have hclt:=z4d (key:=key) (y:=y) (a:=a) h2'
  have hmax:=fun k=>yb1 (key:=key) (y:=y) (a:=a) (hi:=hi) (r:=r) (k:=k)
  generalize kid key y a hi r=c at *
  have kx:=zbq (key:=key) hx
  have kz:=zbq (key:=key) hz
  by_cases h0:key x<key z
  ·rw [if_pos h0] at hstep
   rw [zat hstep]
   have hget:=zgx hx hz
   have kk:∀ k,ka key ((y.set (a+r) z).set (a+c) x) k=if k=a+c then key x else if k=a+r then key z else ka key y k:=by
    intro k
    unfold ka
    rw [hget k]
    split
    ·rfl
    ·split<;>rfl
   refine ih c _ (by omega) (by omega) (by omega) (hs.trans (Seg.swap hx hz (by omega) (by omega))) ⟨fun q k h1 h3 h4 h5=>?_,fun q k h1 h3 h4 h5=>?_⟩
   ·rw [kk,kk,if_neg (show ¬ a+q=a+c by omega)]
    by_cases hqr:q=r
    ·subst hqr
     rw [if_pos rfl]
     by_cases hkc:k=c
     ·subst hkc;rw [if_pos rfl];omega
     ·rw [if_neg (by omega),if_neg (by omega),← kz];exact hmax k h4 h5
    ·rw [if_neg (show ¬ a+q=a+r by omega)]
     have hkc:¬ k=c:=by omega
     rw [if_neg (by omega)]
     by_cases hkr:k=r
     ·subst hkr
      rw [if_pos rfl,← kz];exact hb.2 q c h1 h4 hco hclt
     ·rw [if_neg (by omega)];exact hb.1 q k h1 hqr h4 h5
   ·obtain rfl:q=r:=by omega
    rw [kk,kk,if_neg (by omega),if_neg (by omega),if_neg (by omega),if_pos rfl,← kz]
    exact hb.1 c k (by omega) (by omega) h4 h5
  ·rw [if_neg h0] at hstep
   refine ⟨y,⟨0,.inr (zj0 hstep)⟩,hs,fun q k h1 h3 h4=>?_⟩
   by_cases hqr:q=r
   ·subst hqr
    have:=hmax k h3 h4
    omega
   ·exact hb.1 q k h1 hqr h3 h4
theorem sift {l:List T}{a hi lo:Nat} (hk:Keyed p key l) (hl:a+hi≤l.length) (hy:l.length<2 ^ 40) (hlo:lo<2 ^ 40) (h:Heap key l a (lo+1) hi) :
  ∃ y',zde p l (lo:Int) (hi:Int) (a:Int)=some y'∧Seg l y' a (a+hi)∧Heap key y' a lo hi:=by
 obtain ⟨y',h1,h2,h3⟩:=ybn hk hl hy (hi - lo) lo l (Nat.le_refl _) (Nat.le_refl _) (by omega) (.refl ..) ⟨fun q k h1 h2 h3 h4=>h q k (by omega) h3 h4,fun q k h1 h2=>by omega⟩
 refine ⟨y', ?_,h2,h3⟩
 unfold zde
 obtain ⟨r',h1 | h1⟩:=h1
 ·rw [h1];rfl
 ·rw [h1];rfl
theorem Seg.mid {l m:List T}{a b:Nat} (h:Seg l m a b) (hab:a≤b) (hb:b≤l.length):((m.take b).drop a).Perm ((l.take b).drop a):=by
 have hl:=h.len
 have e:∀ x:List T,x=x.take a++((x.take b).drop a++x.drop b):=fun x=>by
  have e1:x.take a++(x.take b).drop a=x.take b:=by
   have:x.take a=(x.take b).take a:=by rw [List.take_take,Nat.min_eq_left hab]
   rw [this,List.take_append_drop]
  rw [← List.append_assoc,e1,List.take_append_drop]
 have ea:m.take a=l.take a:=by
  apply List.ext_getElem?
  intro i
  rw [List.getElem?_take,List.getElem?_take]
  split
  ·exact h.out i (by omega)
  ·rfl
 have eb:m.drop b=l.drop b:=by
  apply List.ext_getElem?
  intro i
  rw [List.getElem?_drop,List.getElem?_drop]
  exact h.out _ (by omega)
 have hp:=h.perm
 rw [e m,e l,ea,eb,List.perm_append_left_iff,List.perm_append_right_iff] at hp
 exact hp
theorem zr0 {l:List T}{a b i:Nat} (h1:a≤i) (h2:i<b):((l.take b).drop a)[i - a]?=l[i]?:=by
 rw [List.getElem?_drop,List.getElem?_take,if_pos (by omega)]
 congr 1;omega
theorem Seg.all {l m:List T}{a b:Nat} (h:Seg l m a b) (hab:a≤b) (hb:b≤l.length) {Q:Int→Prop} (hq:∀ i,a≤i→i<b→Q (ka key l i)):∀ i,a≤i→i<b→Q (ka key m i):=by
 intro i h1 h2
 have hl:=h.len
 obtain ⟨x,hx⟩:=zce (l:=m) (i:=i) (by omega)
 have hm:x∈(m.take b).drop a:=List.mem_of_getElem? (by rw [zr0 h1 h2];exact hx)
 have hm2:=(h.mid hab hb).mem_iff.1 hm
 obtain ⟨k,hk⟩:=List.getElem?_of_mem hm2
 have hk2:k<b - a:=by
  have:=(List.getElem?_eq_some_iff.1 hk).1
  simp only [List.length_drop,List.length_take] at this
  omega
 have hk3:l[a+k]?=some x:=by
  have:=zr0 (l:=l) (a:=a) (b:=b) (i:=a+k) (by omega) (by omega)
  rw [← this,show a+k - a=k by omega];exact hk
 rw [zbq hx,← zbq (key:=key) hk3]
 exact hq _ (by omega) (by omega)
theorem z65 {l:List T}{a n:Nat} (h:Heap key l a 0 n):∀ k,k<n→ka key l (a+k)≤ka key l (a+0):=by
 intro k
 induction k using Nat.strongRecOn with
 | ind k ih =>
  intro hk
  by_cases h0:k=0
  ·subst h0;omega
  ·have h1:=h ((k - 1) / 2) k (by omega) (by omega) hk
   have h2:=ih ((k - 1) / 2) (by omega) (by omega)
   omega
theorem heap1 {l:List T}{a n:Nat} (hk:Keyed p key l) (hl:a+n≤l.length) (hy:l.length<2 ^ 40):∀ (i:Nat) (y:List T),i≤2 ^ 40→Seg l y a (a+n)→Heap key y a i n →
  ∃ y',iter (zb0 p (a:Int) 0 (n:Int)) ((i:Int) - 1,y)=some (.jmp 0 (-1,y'))∧Seg l y' a (a+n)∧Heap key y' a 0 n:=by
 intro i
 induction i with
 | zero =>
  intro y hi hs hh
  exact ⟨y,zau (by simp only [zb0];rw [if_neg (by omega)];rfl),hs,hh⟩
 | succ i ih =>
  intro y hi hs hh
  have hyl:=hs.len
  obtain ⟨y',h1,h2,h3⟩:=sift (hk.seg hs) (a:=a) (hi:=n) (lo:=i) (by omega) (by omega) (by omega) hh
  have hstep:zb0 p (a:Int) 0 (n:Int) (((i+1:Nat):Int) - 1,y)=some (.next ((i:Int) - 1,y')):=by
   rw [show ((i+1:Nat):Int) - 1=(i:Int) by omega]
   simp only [zb0,h1,Option.bind_some]
   rw [if_pos (by omega),if_pos h2.len,zdn (by omega) (by omega)]
  rw [zat hstep]
  exact ih y' (by omega) (hs.trans h2) h3
theorem heap2 {l:List T}{a n:Nat} (hk:Keyed p key l) (hl:a+n≤l.length) (hy:l.length<2 ^ 40):∀ (i:Nat) (y:List T),i≤n→Seg l y a (a+n)→Heap key y a 0 i→(∀ u v,u<v→i≤v→v<n→ka key y (a+u)≤ka key y (a+v)) →
  ∃ y',iter (zb1 p (a:Int) 0) ((i:Int) - 1,y)=some (.jmp 2 (-1,y'))∧Seg l y' a (a+n)∧Asc key y' a (a+n):=by
 intro i
 induction i with
 | zero =>
  intro y hi hs hh ht
  refine ⟨y,zau (by simp only [zb1];rw [if_neg (by omega)];rfl),hs,fun u v h1 h2 h3=>?_⟩
  have:=ht (u - a) (v - a) (by omega) (by omega) (by omega)
  rwa [show a+(u - a)=u by omega,show a+(v - a)=v by omega] at this
 | succ i ih =>
  intro y hi hs hh ht
  have hyl:=hs.len
  obtain ⟨x,hx⟩:=zce (l:=y) (i:=a) (by omega)
  obtain ⟨z,hz⟩:=zce (l:=y) (i:=a+i) (by omega)
  have hget:=zgx hx hz
  have hsw:=Seg.swap (a:=a) (b:=a+n) hx hz (by omega) (by omega)
  generalize hy1:(y.set a z).set (a+i) x=y1 at *
  have kx:=zbq (key:=key) hx
  have kz:=zbq (key:=key) hz
  have kk:∀ k,ka key y1 k=if k=a+i then key x else if k=a then key z else ka key y k:=by
   intro k
   unfold ka
   rw [hget k]
   split
   ·rfl
   ·split<;>rfl
  have hmax:=z65 hh
  have hs1:=hs.trans hsw
  have hyl1:=hs1.len
  obtain ⟨y',h1,h2,h3⟩:=sift (hk.seg hs1) (a:=a) (hi:=i) (lo:=0) (by omega) (by omega) (by omega) (fun q k h4 h5 h6=>by
   rw [kk,kk,if_neg (by omega),if_neg (by omega),if_neg (by omega),if_neg (by omega)]
   exact hh q k (by omega) h5 (by omega))
  have e1:w64 ((a:Int)+(i:Int))=((a+i:Nat):Int):=w64_n (by omega) (by omega)
  have hrd:∃ q,(y.set a z)[a+i]?=some q:=zce (by rw [List.length_set];omega)
  obtain ⟨q,hq⟩:=hrd
  have hstep:zb1 p (a:Int) 0 (((i+1:Nat):Int) - 1,y)=some (.next ((i:Int) - 1,y')):=by
   rw [show ((i+1:Nat):Int) - 1=(i:Int) by omega]
   simp only [zb1,e1]
   simp only [zb2,hx,hz,Option.bind_some,Int.toNat_natCast,hq,hy1]
   rw [show ((0:Int))=((0:Nat):Int) from rfl,h1]
   simp only [Option.bind_some]
   rw [if_pos (by omega),if_pos h2.len,zdn (by omega) (by omega)]
  rw [zat hstep]
  refine ih y' (by omega) (hs1.trans (h2.mono (Nat.le_refl _) (by omega))) h3 (fun u v h4 h5 h6=>?_)
  have hv:ka key y' (a+v)=ka key y1 (a+v):=by unfold ka;rw [h2.out (a+v) (by omega)]
  rw [hv]
  have hall:∀ k,a≤k→k<a+i→ka key y1 k≤ka key y1 (a+v):=by
   intro k hk1 hk2
   rw [kk,kk,if_neg (by omega)]
   by_cases hvi:v=i
   ·subst hvi
    rw [if_pos rfl,← kx]
    by_cases hka:k=a
    ·rw [if_pos hka,← kz];exact hmax v (by omega)
    ·rw [if_neg hka]
     have:=hmax (k - a) (by omega)
     rwa [show a+(k - a)=k by omega] at this
   ·rw [if_neg (show ¬ a+v=a+i by omega),if_neg (show ¬ a+v=a by omega)]
    by_cases hka:k=a
    ·rw [if_pos hka,← kz];exact ht i v (by omega) (by omega) h6
    ·rw [if_neg hka]
     have:=ht (k - a) v (by omega) (by omega) h6
     rwa [show a+(k - a)=k by omega] at this
  by_cases hui:u<i
  ·exact h2.all (key:=key) (Q:=fun c=>c≤ka key y1 (a+v)) (by omega) (by omega) hall (a+u) (by omega) (by omega)
  ·have hu:ka key y' (a+u)=ka key y1 (a+u):=by unfold ka;rw [h2.out (a+u) (by omega)]
   rw [hu,kk,kk,if_neg (show ¬ a+v=a+i by omega),if_neg (show ¬ a+v=a by omega)]
   by_cases hui2:u=i
   ·subst hui2
    rw [if_pos rfl,← kx];exact ht 0 v (by omega) (by omega) h6
   ·rw [if_neg (by omega),if_neg (by omega)]
    exact ht u v h4 (by omega) h6
theorem ybq {l:List T}{a b:Nat} (hk:Keyed p key l) (hab:a≤b) (hb:b≤l.length) (hl:l.length<2 ^ 40):∃ l',zdc p l (a:Int) (b:Int)=some l'∧Seg l l' a b∧Asc key l' a b:=by
 obtain ⟨n,rfl⟩:∃ n,b=a+n:=⟨b - a,by omega⟩
 have e1:w64 (((a+n:Nat):Int) - (a:Int))=(n:Int):=w64_n (by omega) (by omega)
 have e2:w64 ((n:Int) - 1)=(n:Int) - 1:=zdn (by omega) (by omega)
 have hd:∃ m:Nat,((n:Int) - 1).tdiv 2=(m:Int) - 1∧n≤2*m∧m≤n+1:=by
  cases n with
  | zero=>exact ⟨1,rfl,by omega,by omega⟩
  | succ k =>
   rw [show ((k+1:Nat):Int) - 1=(k:Int) by omega,Int.tdiv_eq_ediv_of_nonneg (by omega)]
   exact ⟨k / 2+1,by omega,by omega,by omega⟩
 obtain ⟨m,hm0,hm2,hm3⟩:=hd
 have hm:quoK .i64 ((n:Int) - 1) 2=some ((m:Int) - 1):=by
  unfold quoK
  rw [if_neg (by omega),hm0]
  have hw:IntKind.wrap .i64 ((m:Int) - 1)=(m:Int) - 1:=zdn (x:=(m:Int) - 1) (by omega) (by omega)
  rw [hw]
 obtain ⟨y1,h1,h2,h3⟩:=heap1 hk hb hl (a:=a) (n:=n) m l (by omega) (.refl ..) (fun q k h4 h5 h6=>by omega)
 obtain ⟨y2,h4,h5,h6⟩:=heap2 hk hb hl (a:=a) (n:=n) n y1 (Nat.le_refl _) h2 h3 (fun u v h4 h5 h6=>by omega)
 refine ⟨y2, ?_,h5,h6⟩
 unfold zdc
 simp only [e1,e2,hm,Option.bind_some,h1,h4]
theorem zp0 {l:List T} (hk:Keyed p key l) {i j:Nat} (hi:i<l.length) (hj:j<l.length) (s:Int) :
  ∃ (i' j':Nat) (s':Int),zc5 p l (i:Int) (j:Int) s=some ((i':Int),(j':Int),l,s')∧((i'=i∧j'=j)∨(i'=j∧j'=i)):=by
 obtain ⟨x,hx⟩:=zce hi
 obtain ⟨z,hz⟩:=zce hj
 obtain ⟨c,hc,_⟩:=hk z (List.mem_of_getElem? hz) x (List.mem_of_getElem? hx)
 unfold zc5
 simp only [zb2,hx,hz,Option.bind_some,hc]
 by_cases h0:c<0
 ·exact ⟨j,i,_,by rw [if_pos h0],.inr ⟨rfl,rfl⟩⟩
 ·exact ⟨i,j,_,by rw [if_neg h0],.inl ⟨rfl,rfl⟩⟩
theorem zp7 {l:List T} (hk:Keyed p key l) {i j k:Nat} (hi:i<l.length) (hj:j<l.length) (hkk:k<l.length) (s:Int) :
  ∃ (m:Nat) (s':Int),zc6 p l (i:Int) (j:Int) (k:Int) s=some ((m:Int),l,s')∧(m=i∨m=j∨m=k):=by
 obtain ⟨a,b,s1,h1,e1⟩:=zp0 hk hi hj s
 obtain ⟨c,d,s2,h2,e2⟩:=zp0 hk (i:=b) (j:=k) (by omega) hkk s1
 obtain ⟨e,f,s3,h3,e3⟩:=zp0 hk (i:=a) (j:=c) (by omega) (by omega) s2
 refine ⟨f,s3, ?_,by omega⟩
 unfold zc6
 simp only [h1,h2,h3,Option.bind_some,if_true]
theorem zla {l:List T} (hk:Keyed p key l) (hl:l.length<2 ^ 40) {i:Nat} (h0:0<i) (hi:i+1<l.length) (s:Int) :
  ∃ (m:Nat) (s':Int),zbm p l (i:Int) s=some ((m:Int),l,s')∧i - 1≤m∧m≤i+1:=by
 obtain ⟨m,s',h1,h2⟩:=zp7 hk (i:=i - 1) (j:=i) (k:=i+1) (by omega) (by omega) hi s
 refine ⟨m,s', ?_,by omega,by omega⟩
 unfold zbm
 rw [zg9 (by omega) h0,zbb (by omega),h1]
 simp only [Option.bind_some,if_true]
theorem zyw {l:List T}{a b:Nat} (hk:Keyed p key l) (hab:a+8≤b) (hb:b≤l.length) (hl:l.length<2 ^ 40) :
  ∃ (m:Nat) (h:Int),zbo p l (a:Int) (b:Int)=some ((m:Int),h,l)∧a≤m∧m<b:=by
 have e1:w64 ((b:Int) - (a:Int))=((b - a:Nat):Int):=w64_n (by omega) (by omega)
 obtain ⟨q,hq⟩:∃ q:Nat,q=(b - a) / 4:=⟨_,rfl⟩
 have e2:quoK .i64 ((b - a:Nat):Int) 4=some (q:Int):=by
  unfold quoK
  rw [if_neg (by omega),Int.tdiv_eq_ediv_of_nonneg (by omega)]
  have:((b - a:Nat):Int) / 4=(q:Int):=by omega
  rw [this]
  exact congrArg some (zsl (by omega))
 have f1:w64 ((q:Int)*1)=(q:Int):=w64_n (by omega) (by omega)
 have f2:w64 ((q:Int)*2)=((q*2:Nat):Int):=w64_n (by omega) (by omega)
 have f3:w64 ((q:Int)*3)=((q*3:Nat):Int):=w64_n (by omega) (by omega)
 have g1:w64 ((a:Int)+(q:Int))=((a+q:Nat):Int):=w64_n (by omega) (by omega)
 have g2:w64 ((a:Int)+((q*2:Nat):Int))=((a+q*2:Nat):Int):=w64_n (by omega) (by omega)
 have g3:w64 ((a:Int)+((q*3:Nat):Int))=((a+q*3:Nat):Int):=w64_n (by omega) (by omega)
 unfold zbo
 simp only [e1,e2,Option.bind_some,f1,f2,f3,g1,g2,g3]
 rw [if_pos (by omega)]
 have fin:∀ (m:Nat) (s:Int),a≤m→m<b→∃ (m':Nat) (h:Int),(if s=0 then some ((m:Int),(1:Int),l) else if s=12 then some ((m:Int),(2:Int),l) else some ((m:Int),(0:Int),l))=some ((m':Int),h,l)∧a≤m'∧m'<b:=by
  intro m s h1 h2
  by_cases h3:s=0
  ·exact ⟨m,1,by rw [if_pos h3],h1,h2⟩
  ·by_cases h4:s=12
   ·exact ⟨m,2,by rw [if_neg h3,if_pos h4],h1,h2⟩
   ·exact ⟨m,0,by rw [if_neg h3,if_neg h4],h1,h2⟩
 by_cases h50:(50:Int)≤((b - a:Nat):Int)
 ·rw [if_pos h50]
  obtain ⟨m1,s1,h1,k1⟩:=zla hk hl (i:=a+q) (by omega) (by omega) 0
  obtain ⟨m2,s2,h2,k2⟩:=zla hk hl (i:=a+q*2) (by omega) (by omega) s1
  obtain ⟨m3,s3,h3,k3⟩:=zla hk hl (i:=a+q*3) (by omega) (by omega) s2
  obtain ⟨m,s,h4,k4⟩:=zp7 hk (i:=m1) (j:=m2) (k:=m3) (by omega) (by omega) (by omega) s3
  simp only [h1,h2,h3,h4,Option.bind_some,if_true]
  exact fin m s (by omega) (by omega)
 ·rw [if_neg h50]
  obtain ⟨m,s,h4,k4⟩:=zp7 hk (i:=a+q) (j:=a+q*2) (k:=a+q*3) (by omega) (by omega) (by omega) 0
  simp only [h4,Option.bind_some,if_true]
  exact fin m s (by omega) (by omega)
theorem ya8 {l:List T}{a b:Nat} (hab:a≤b) (hb:b≤l.length) (hl:l.length<2 ^ 40):∃ l',zbk p l (a:Int) (b:Int)=some l'∧Seg l l' a b:=by
 have key1:∀ (d i j:Nat) (y:List T),j - i≤d→a≤i→j≤b→i≤2 ^ 40→Seg l y a b→∃ (i' j':Int) (y':List T),iter (zbc p) ((i:Int),(j:Int) - 1,y)=some (.jmp 0 (i',j',y'))∧Seg l y' a b:=by
  intro d
  induction d with
  | zero =>
   intro i j y h1 h2 h3 h4 hs
   exact ⟨_,_,y,zau (by simp only [zbc];rw [if_neg (by omega)]),hs⟩
  | succ d ih =>
   intro i j y h1 h2 h3 h4 hs
   have hyl:=hs.len
   by_cases h:(i:Int)<(j:Int) - 1
   ·obtain ⟨x,hx⟩:=zce (l:=y) (i:=i) (by omega)
    obtain ⟨z,hz⟩:=zce (l:=y) (i:=j - 1) (by omega)
    obtain ⟨q,hq⟩:=zce (l:=y.set i z) (i:=j - 1) (by rw [List.length_set];omega)
    have ej:(j:Int) - 1=((j - 1:Nat):Int):=by omega
    have hstep:zbc p ((i:Int),(j:Int) - 1,y)=some (.next (((i+1:Nat):Int),((j - 1:Nat):Int) - 1,(y.set i z).set (j - 1) x)):=by
     simp only [zbc]
     rw [if_pos h,ej]
     simp only [zb2,hx,hz,Option.bind_some,Int.toNat_natCast,hq]
     rw [zbb (by omega),zdn (by omega) (by omega)]
    rw [zat hstep]
    exact ih (i+1) (j - 1) _ (by omega) (by omega) (by omega) (by omega) (hs.trans (Seg.swap hx hz (by omega) (by omega)))
   ·exact ⟨_,_,y,zau (by simp only [zbc];rw [if_neg h]),hs⟩
 obtain ⟨i',j',y',h1,h2⟩:=key1 (b - a) a b l (Nat.le_refl _) (Nat.le_refl _) (Nat.le_refl _) (by omega) (.refl ..)
 refine ⟨y', ?_,h2⟩
 unfold zbk
 rw [zdn (by omega) (by omega),h1]
 rfl
def zrc (nj:Nat) (p:T→T→Option Int) (s1 s13:Int) (y0:List T):Int→Option (Out Int (Int×Bool×List T)):=fun s12 =>
 if s12≤s13 then (rd y0 s12).bind fun v=>(rd y0 s1).bind fun w=>(p v w).bind fun r=>if r<(0:Int) then some (.next (w64 (s12+(1:Int)))) else some (.jmp nj s12) else some (.jmp nj s12)
def zq7 (nj:Nat) (p:T→T→Option Int) (s1 s12:Int) (y0:List T):Int→Option (Out Int (Int×Bool×List T)):=fun s13 =>
 if s12≤s13 then (rd y0 s13).bind fun v=>(rd y0 s1).bind fun w=>(p v w).bind fun r=>if r<(0:Int) then some (.jmp nj s13) else some (.next (w64 (s13 - (1:Int)))) else some (.jmp nj s13)
theorem up0 {s1 s13:Int}{y0:List T}:zd0 p s1 s13 y0=zrc 0 p s1 s13 y0:=rfl
theorem up3 {s1 s13:Int}{y0:List T}:zd3 p s1 s13 y0=zrc 6 p s1 s13 y0:=rfl
theorem dn1 {s1 s12:Int}{y0:List T}:zd2 p s1 s12 y0=zq7 2 p s1 s12 y0:=rfl
theorem dn4 {s1 s12:Int}{y0:List T}:zd1 p s1 s12 y0=zq7 8 p s1 s12 y0:=rfl
theorem up_ok {y:List T}{s J nj:Nat}{pv:T} (hk:Keyed p key y) (hs:y[s]?=some pv) (hJ:J≤y.length) (hl:y.length<2 ^ 40):∀ (d i:Nat),i+d=J→∃ i',iter (zrc nj p (s:Int) ((J:Int) - 1) y) (i:Int)=some (.jmp nj ((i':Nat):Int))∧i≤i'∧i'≤J∧(∀ k,i≤k→k<i'→ka key y k<key pv)∧(i'<J→key pv≤ka key y i'):=by
 intro d
 induction d with
 | zero =>
  intro i h
  exact ⟨i,zau (by simp only [zrc];rw [if_neg (by omega)]),by omega,by omega,fun k h1 h2=>by omega,fun h1=>by omega⟩
 | succ d ih =>
  intro i h
  obtain ⟨x,hx⟩:=zce (l:=y) (i:=i) (by omega)
  obtain ⟨c,hc,hcc⟩:=hk x (List.mem_of_getElem? hx) pv (List.mem_of_getElem? hs)
  have kx:=zbq (key:=key) hx
  have hstep:zrc nj p (s:Int) ((J:Int) - 1) y (i:Int)=if c<0 then some (.next ((i+1:Nat):Int)) else some (.jmp nj (i:Int)):=by
   simp only [zrc]
   rw [if_pos (by omega)]
   simp only [zb2,hx,hs,Option.bind_some,hc,zbb (show i<2 ^ 62 by omega)]
  by_cases h0:c<0
  ·rw [if_pos h0] at hstep
   rw [zat hstep]
   obtain ⟨i',h1,h2,h3,h4,h5⟩:=ih (i+1) (by omega)
   refine ⟨i',h1,by omega,h3,fun k h6 h7=>?_,h5⟩
   by_cases hki:k=i
   ·subst hki;rw [kx];exact hcc.1 h0
   ·exact h4 k (by omega) h7
  ·rw [if_neg h0] at hstep
   refine ⟨i,zau hstep,by omega,by omega,fun k h1 h2=>by omega,fun _=>?_⟩
   have:=mt hcc.2 h0
   rw [kx];omega
theorem dn_ok {y:List T}{s i nj:Nat}{pv:T} (hk:Keyed p key y) (hs:y[s]?=some pv) (hl:y.length<2 ^ 40):∀ (d J:Nat),i+d=J→J≤y.length→∃ J':Nat,iter (zq7 nj p (s:Int) (i:Int) y) ((J:Int) - 1)=some (.jmp nj ((J':Int) - 1))∧i≤J'∧J'≤J∧(∀ k,J'≤k→k<J→key pv≤ka key y k)∧(i<J'→ka key y (J' - 1)<key pv):=by
 intro d
 induction d with
 | zero =>
  intro J h hJ
  exact ⟨J,zau (by simp only [zq7];rw [if_neg (by omega)]),by omega,by omega,fun k h1 h2=>by omega,fun h1=>by omega⟩
 | succ d ih =>
  intro J h hJ
  obtain ⟨m,rfl⟩:∃ m,J=m+1:=⟨J - 1,by omega⟩
  obtain ⟨x,hx⟩:=zce (l:=y) (i:=m) (by omega)
  obtain ⟨c,hc,hcc⟩:=hk x (List.mem_of_getElem? hx) pv (List.mem_of_getElem? hs)
  have kx:=zbq (key:=key) hx
  have hstep:zq7 nj p (s:Int) (i:Int) y (((m+1:Nat):Int) - 1)=if c<0 then some (.jmp nj (((m+1:Nat):Int) - 1)) else some (.next ((m:Int) - 1)):=by
   rw [show ((m+1:Nat):Int) - 1=(m:Int) by omega]
   simp only [zq7]
   rw [if_pos (by omega)]
   simp only [zb2,hx,hs,Option.bind_some,hc]
   rw [zdn (by omega) (by omega)]
  by_cases h0:c<0
  ·rw [if_pos h0] at hstep
   refine ⟨m+1,zau hstep,by omega,by omega,fun k h1 h2=>by omega,fun _=>?_⟩
   rw [Nat.add_sub_cancel,kx];exact hcc.1 h0
  ·rw [if_neg h0] at hstep
   rw [zat hstep]
   obtain ⟨J',h1,h2,h3,h4,h5⟩:=ih m (by omega) (by omega)
   refine ⟨J',h1,h2,by omega,fun k h6 h7=>?_,h5⟩
   by_cases hkm:k=m
   ·subst hkm
    have:=mt hcc.2 h0
    rw [kx];omega
   ·exact h4 k h6 (by omega)
structure Part (key:T→Int) (l y:List T) (a b i J:Nat) (pv:T):Prop where
 seg:Seg l y a b
 piv:y[a]?=some pv
 lo:∀ k,a+1≤k→k<i→ka key y k<key pv
 hi:∀ k,J≤k→k<b→key pv≤ka key y k
theorem z21 {l:List T}{a b:Nat}{pv:T} (hk:Keyed p key l) (hb:b≤l.length) (hl:l.length<2 ^ 40):∀ (d i J:Nat) (y:List T),J - i≤d→a+1≤i→i≤J→J≤b→Part key l y a b i J pv →
  ∃ (i' J':Nat) (y':List T),iter (zbj p (a:Int)) ((i:Int),(J:Int) - 1,y)=some (.jmp 4 ((i':Int),(J':Int) - 1,y'))∧Part key l y' a b i' J' pv∧i'=J'∧a+1≤i'∧i'≤b:=by
 intro d
 induction d with
 | zero =>
  intro i J y h1 h2 h3 h4 hp
  obtain rfl:i=J:=by omega
  have hyl:=hp.seg.len
  obtain ⟨i',e1,g1,g2,g3,g4⟩:=up_ok (nj:=6) (hk.seg hp.seg) hp.piv (J:=i) (by omega) (by omega) 0 i rfl
  obtain rfl:i'=i:=by omega
  obtain ⟨J',e2,g5,g6,g7,g8⟩:=dn_ok (nj:=8) (hk.seg hp.seg) hp.piv (i:=i') (by omega) 0 i' rfl (by omega)
  obtain rfl:J'=i':=by omega
  refine ⟨J',J',y,zau ?_,hp,rfl,h2,h4⟩
  simp only [zbj,up3,e1,Option.bind_some,dn4,e2]
  rw [if_pos (by omega)]
 | succ d ih =>
  intro i J y h1 h2 h3 h4 hp
  have hyl:=hp.seg.len
  obtain ⟨i',e1,g1,g2,g3,g4⟩:=up_ok (nj:=6) (hk.seg hp.seg) hp.piv (J:=J) (by omega) (by omega) (J - i) i (by omega)
  obtain ⟨J',e2,g5,g6,g7,g8⟩:=dn_ok (nj:=8) (hk.seg hp.seg) hp.piv (i:=i') (by omega) (J - i') J (by omega) (by omega)
  have hp1:Part key l y a b i' J' pv:=⟨hp.seg,hp.piv,fun k k1 k2=>by
   by_cases hki:k<i
   ·exact hp.lo k k1 hki
   ·exact g3 k (by omega) k2,fun k k1 k2=>by
   by_cases hkJ:J≤k
   ·exact hp.hi k hkJ k2
   ·exact g7 k k1 (by omega)⟩
  by_cases hend:i'=J'
  ·refine ⟨i',J',y,zau ?_,hp1,hend,by omega,by omega⟩
   simp only [zbj,up3,e1,Option.bind_some,dn4,e2]
   rw [if_pos (by omega)]
  ·have hlt:i'<J':=by omega
   have hne:i'≠J' - 1:=by
    intro e
    have q1:=g4 (by omega)
    have q2:=g8 hlt
    rw [← e] at q2;omega
   obtain ⟨x,hx⟩:=zce (l:=y) (i:=i') (by omega)
   obtain ⟨z,hz⟩:=zce (l:=y) (i:=J' - 1) (by omega)
   obtain ⟨q,hq⟩:=zce (l:=y.set i' z) (i:=J' - 1) (by rw [List.length_set];omega)
   have hget:=zgx hx hz
   have kx:=zbq (key:=key) hx
   have kz:=zbq (key:=key) hz
   have eJ:(J':Int) - 1=((J' - 1:Nat):Int):=by omega
   have hstep:zbj p (a:Int) ((i:Int),(J:Int) - 1,y)=some (.next (((i'+1:Nat):Int),((J' - 1:Nat):Int) - 1,(y.set i' z).set (J' - 1) x)):=by
    simp only [zbj,up3,e1,Option.bind_some,dn4,e2]
    rw [if_neg (by omega),eJ]
    simp only [zb2,hx,hz,Option.bind_some,Int.toNat_natCast,hq]
    rw [zbb (by omega),zdn (by omega) (by omega)]
   have hsw:=Seg.swap (a:=a) (b:=b) hx hz (by omega) (by omega)
   generalize hy1:(y.set i' z).set (J' - 1) x=y1 at *
   have kk:∀ k,ka key y1 k=if k=J' - 1 then key x else if k=i' then key z else ka key y k:=by
    intro k
    unfold ka
    rw [hget k]
    split
    ·rfl
    ·split<;>rfl
   rw [zat hstep]
   have hpv1:y1[a]?=some pv:=by rw [hget,if_neg (by omega),if_neg (by omega)];exact hp.piv
   exact ih (i'+1) (J' - 1) y1 (by omega) (by omega) (by omega) (by omega) ⟨hp.seg.trans hsw,hpv1,fun k k1 k2=>by
    rw [kk,if_neg (by omega)]
    by_cases hki:k=i'
    ·rw [if_pos hki,← kz];exact g8 hlt
    ·rw [if_neg hki];exact hp1.lo k k1 (by omega),fun k k1 k2=>by
    rw [kk]
    by_cases hkJ:k=J' - 1
    ·rw [if_pos hkJ,← kx];exact g4 (by omega)
    ·rw [if_neg hkJ,if_neg (by omega)];exact hp1.hi k (by omega) k2⟩
end
end Xr

namespace Xr
open Go Go.Ev
set_option linter.unusedVariables false
section
variable {T : Type} {p : T → T → Option Int} {key : T → Int}
theorem zx7 {l y:List T}{a b m:Nat}{pv:T} (hp:Part key l y a b (m+1) (m+1) pv) (ha:a≤m) (hm:m<b) (hb:b≤l.length) :
  ∃ (w:T) (y':List T),y[m]?=some w∧(∃ q,(y.set m pv)[a]?=some q)∧(y.set m pv).set a w=y'∧Seg l y' a b∧(∀ k,a≤k→k<m→ka key y' k<ka key y' m)∧(∀ k,m≤k→k<b→ka key y' m≤ka key y' k):=by
 have hyl:=hp.seg.len
 obtain ⟨w,hw⟩:=zce (l:=y) (i:=m) (by omega)
 obtain ⟨q,hq⟩:=zce (l:=y.set m pv) (i:=a) (by rw [List.length_set];omega)
 have hget:=zgx hw hp.piv
 have hsw:=Seg.swap (a:=a) (b:=b) hw hp.piv (by omega) (by omega)
 have kw:=zbq (key:=key) hw
 have kp:=zbq (key:=key) hp.piv
 refine ⟨w,_,hw,⟨q,hq⟩,rfl,hp.seg.trans hsw, ?_, ?_⟩
 all_goals
  generalize hy1:(y.set m pv).set a w=y1 at *
  have kk:∀ k,ka key y1 k=if k=a then key w else if k=m then key pv else ka key y k:=by
   intro k
   unfold ka
   rw [hget k]
   split
   ·rfl
   ·split<;>rfl
  have km:ka key y1 m=key pv:=by
   rw [kk]
   by_cases h:m=a
   ·rw [if_pos h];subst h;rw [← kw,← kp]
   ·rw [if_neg h,if_pos rfl]
  intro k k1 k2
  rw [km,kk]
 ·by_cases h:k=a
  ·rw [if_pos h,← kw];exact hp.lo m (by omega) (by omega)
  ·rw [if_neg h,if_neg (by omega)];exact hp.lo k (by omega) (by omega)
 ·by_cases h:k=m
  ·subst h
   rw [← kk,km];exact Int.le_refl _
  ·rw [if_neg (by omega),if_neg h];exact hp.hi k (by omega) k2
theorem zu3 {l:List T}{a b c:Nat} (hk:Keyed p key l) (hc1:a≤c) (hc2:c<b) (hb:b≤l.length) (hl:l.length<2 ^ 40) :
  ∃ (m:Nat) (r:Bool) (l':List T),zao p l (a:Int) (b:Int) (c:Int)=some ((m:Int),r,l')∧a≤m∧m<b∧Seg l l' a b∧(∀ k,a≤k→k<m→ka key l' k<ka key l' m)∧(∀ k,m≤k→k<b→ka key l' m≤ka key l' k):=by
 obtain ⟨x,hx⟩:=zce (l:=l) (i:=a) (by omega)
 obtain ⟨pv,hpv⟩:=zce (l:=l) (i:=c) (by omega)
 obtain ⟨q,hq⟩:=zce (l:=l.set a pv) (i:=c) (by rw [List.length_set];omega)
 have hget:=zgx hx hpv
 have hsw:=Seg.swap (a:=a) (b:=b) hx hpv (by omega) (by omega)
 have hb1:w64 ((b:Int) - 1)=(b:Int) - 1:=zdn (by omega) (by omega)
 unfold zao
 simp only [zb2,hx,hpv,hq,Option.bind_some,Int.toNat_natCast,hb1]
 rw [zbb (n:=a) (by omega)]
 generalize hy0:(l.set a pv).set c x=y at *
 have hyl:=hsw.len
 have hya:y[a]?=some pv:=by
  rw [hget]
  by_cases h:a=c
  ·subst h;rw [if_pos rfl];rw [hx] at hpv;exact hpv
  ·rw [if_neg h,if_pos rfl]
 obtain ⟨i',e1,g1,g2,g3,g4⟩:=up_ok (nj:=0) (hk.seg hsw) hya (J:=b) (by omega) (by omega) (b - (a+1)) (a+1) (by omega)
 obtain ⟨J',e2,g5,g6,g7,g8⟩:=dn_ok (nj:=2) (hk.seg hsw) hya (i:=i') (by omega) (b - i') b (by omega) (by omega)
 have hp1:Part key l y a b i' J' pv:=⟨hsw,hya,g3,g7⟩
 simp only [up0,e1,Option.bind_some,dn1,e2]
 by_cases hend:i'=J'
 ·obtain ⟨m,rfl⟩:∃ m,i'=m+1:=⟨i' - 1,by omega⟩
  subst hend
  obtain ⟨w,y',f1,⟨q2,f2⟩,f3,f4,f5,f6⟩:=zx7 hp1 (by omega) (by omega) hb
  have eJ:((m+1:Nat):Int) - 1=(m:Int):=by omega
  rw [if_pos (by omega),eJ]
  simp only [zb2,hya,f1,f2,Option.bind_some,Int.toNat_natCast,f3]
  exact ⟨m,true,y',rfl,by omega,by omega,f4,f5,f6⟩
 ·have hlt:i'<J':=by omega
  have hne:i'≠J' - 1:=by
   intro e
   have q1:=g4 (by omega)
   have q2:=g8 hlt
   rw [← e] at q2;omega
  obtain ⟨x1,hx1⟩:=zce (l:=y) (i:=i') (by omega)
  obtain ⟨z,hz⟩:=zce (l:=y) (i:=J' - 1) (by omega)
  obtain ⟨q1,hq1⟩:=zce (l:=y.set i' z) (i:=J' - 1) (by rw [List.length_set];omega)
  have hget1:=zgx hx1 hz
  have kx:=zbq (key:=key) hx1
  have kz:=zbq (key:=key) hz
  have eJ:(J':Int) - 1=((J' - 1:Nat):Int):=by omega
  rw [if_neg (by omega),eJ]
  simp only [zb2,hx1,hz,hq1,Option.bind_some,Int.toNat_natCast]
  rw [zbb (by omega),zdn (x:=((J' - 1:Nat):Int) - 1) (by omega) (by omega)]
  have hsw1:=Seg.swap (a:=a) (b:=b) hx1 hz (by omega) (by omega)
  generalize hy1:(y.set i' z).set (J' - 1) x1=y1 at *
  have kk:∀ k,ka key y1 k=if k=J' - 1 then key x1 else if k=i' then key z else ka key y k:=by
   intro k
   unfold ka
   rw [hget1 k]
   split
   ·rfl
   ·split<;>rfl
  have hpv1:y1[a]?=some pv:=by rw [hget1,if_neg (by omega),if_neg (by omega)];exact hya
  obtain ⟨i2,J2,y2,e3,hp2,rfl,h7,h8⟩:=z21 hk hb hl (J' - 1 - (i'+1)) (i'+1) (J' - 1) y1 (by omega) (by omega) (by omega) (by omega) ⟨hsw.trans hsw1,hpv1,fun k k1 k2=>by
    rw [kk,if_neg (by omega)]
    by_cases hki:k=i'
    ·rw [if_pos hki,← kz];exact g8 hlt
    ·rw [if_neg hki];exact hp1.lo k k1 (by omega),fun k k1 k2=>by
    rw [kk]
    by_cases hkJ:k=J' - 1
    ·rw [if_pos hkJ,← kx];exact g4 (by omega)
    ·rw [if_neg hkJ,if_neg (by omega)];exact hp1.hi k (by omega) k2⟩
  rw [e3]
  obtain ⟨m,rfl⟩:∃ m,i2=m+1:=⟨i2 - 1,by omega⟩
  obtain ⟨w,y',f1,⟨q2,f2⟩,f3,f4,f5,f6⟩:=zx7 hp2 (by omega) (by omega) hb
  have eJ2:((m+1:Nat):Int) - 1=(m:Int):=by omega
  rw [eJ2]
  simp only [zb2,hp2.piv,f1,f2,Option.bind_some,Int.toNat_natCast,f3]
  exact ⟨m,false,y',rfl,by omega,by omega,f4,f5,f6⟩
end
end Xr

namespace Xr
open Go Go.Ev
set_option linter.unusedVariables false
section
variable {T : Type} {p : T → T → Option Int} {key : T → Int}
theorem z91 {y:List T}{a b:Nat} (hk:Keyed p key y) (hb:b≤y.length) (hl:y.length<2 ^ 40) (s1 s10:Int):∀ (d i:Nat),i+d=b→0<i →
  ∃ i':Nat,iter (za2 p s1 (b:Int) s10 y) (i:Int)=some (.jmp 2 (i':Int))∧i≤i'∧i'≤b∧(∀ k,i≤k→k<i'→ka key y (k - 1)≤ka key y k):=by
 intro d
 induction d with
 | zero =>
  intro i h h0
  exact ⟨i,zau (by simp only [za2];rw [if_neg (by omega)]),by omega,by omega,fun k h1 h2=>by omega⟩
 | succ d ih =>
  intro i h h0
  obtain ⟨x,hx⟩:=zce (l:=y) (i:=i) (by omega)
  obtain ⟨z,hz⟩:=zce (l:=y) (i:=i - 1) (by omega)
  obtain ⟨c,hc,hcc⟩:=hk x (List.mem_of_getElem? hx) z (List.mem_of_getElem? hz)
  have kx:=zbq (key:=key) hx
  have kz:=zbq (key:=key) hz
  have hstep:za2 p s1 (b:Int) s10 y (i:Int)=if c<0 then some (.jmp 2 (i:Int)) else some (.next ((i+1:Nat):Int)):=by
   simp only [za2]
   rw [if_pos (by omega),zg9 (by omega) h0]
   simp only [zb2,hx,hz,Option.bind_some,hc]
   rw [zbb (by omega)]
  by_cases hc0:c<0
  ·rw [if_pos hc0] at hstep
   exact ⟨i,zau hstep,by omega,by omega,fun k h1 h2=>by omega⟩
  ·rw [if_neg hc0] at hstep
   obtain ⟨i',e,g1,g2,g3⟩:=ih (i+1) (by omega) (by omega)
   refine ⟨i',by rw [zat hstep];exact e,by omega,g2,fun k h1 h2=>?_⟩
   by_cases hki:k=i
   ·subst hki;rw [kx,kz]
    have:=mt hcc.2 hc0
    omega
   ·exact g3 k (by omega) h2
theorem Seg.low {l m:List T}{a b:Nat} (h:Seg l m a b) (hab:a≤b) (hb:b≤l.length) (hlow:0<a→∀ k,a≤k→k<b→ka key l (a - 1)≤ka key l k):0<a→∀ k,a≤k→k<b→ka key m (a - 1)≤ka key m k:=by
 intro h0
 have e:ka key m (a - 1)=ka key l (a - 1):=by unfold ka;rw [h.out (a - 1) (by omega)]
 rw [e]
 exact h.all hab hb (Q:=fun q=>ka key l (a - 1)≤q) (hlow h0)
theorem yjn {a b:Nat} (s1 s9 s10:Int):∀ (d j:Nat) (y:List T),Keyed p key y→b≤y.length→y.length<2 ^ 40→a<j→j+d=b →
  ∃ (j':Int) (y':List T),iter (zar p s1 (b:Int) s9 s10) ((j:Int),y)=some (.jmp 6 (j',y'))∧Seg y y' a b:=by
 intro d
 induction d with
 | zero =>
  intro j y hk hb hl h1 h2
  exact ⟨_,y,zau (by simp only [zar];rw [if_neg (by omega)]),Seg.refl _ _ _⟩
 | succ d ih =>
  intro j y hk hb hl h1 h2
  obtain ⟨x,hx⟩:=zce (l:=y) (i:=j) (by omega)
  obtain ⟨z,hz⟩:=zce (l:=y) (i:=j - 1) (by omega)
  obtain ⟨q,hq⟩:=zce (l:=y.set j z) (i:=j - 1) (by rw [List.length_set];omega)
  obtain ⟨c,hc,hcc⟩:=hk x (List.mem_of_getElem? hx) z (List.mem_of_getElem? hz)
  have hstep:zar p s1 (b:Int) s9 s10 ((j:Int),y)=if c<0 then some (.next (((j+1:Nat):Int),(y.set j z).set (j - 1) x)) else some (.jmp 6 ((j:Int),y)):=by
   simp only [zar]
   rw [if_pos (by omega),zg9 (by omega) (by omega)]
   simp only [zb2,hx,hz,Option.bind_some,hc,Int.toNat_natCast,hq]
   rw [zbb (by omega)]
  by_cases hc0:c<0
  ·rw [if_pos hc0] at hstep
   have hsw:=Seg.swap (a:=a) (b:=b) hx hz (by omega) (by omega)
   have hll:=hsw.len
   obtain ⟨j',y',e,hs⟩:=ih (j+1) _ (hk.seg hsw) (by omega) (by omega) (by omega) (by omega)
   exact ⟨j',y',by rw [zat hstep];exact e,hsw.trans hs⟩
  ·rw [if_neg hc0] at hstep
   exact ⟨_,y,zau hstep,Seg.refl _ _ _⟩
theorem z5r {l:List T}{a b i:Nat} (hk:Keyed p key l) (hib:i<b) (hb:b≤l.length) (hl:l.length<2 ^ 40) (hlow:0<a→∀ k,a≤k→k<b→ka key l (a - 1)≤ka key l k) (s1 s2 s9 s10:Int):∀ (j:Nat) (y:List T),a≤j→j≤i→Seg l y a b→Sink key y a i j →
  ∃ (j':Int) (y':List T),iter (zaw p s1 s2 s9 s10) ((j:Int),y)=some (.jmp 4 (j',y'))∧Seg l y' a b∧Asc key y' a (i+1):=by
 intro j
 induction j with
 | zero =>
  intro y h1 h2 hs hq
  obtain rfl:a=0:=by omega
  refine ⟨_,y,zau (by simp only [zaw];rw [if_neg (by omega)]),hs,fun u v hu huv hv=>?_⟩
  by_cases hu0:u=0
  ·subst hu0;exact hq.2 v (by omega) (by omega)
  ·exact hq.1 u v hu huv (by omega) (by omega) (by omega)
 | succ j ih =>
  intro y h1 h2 hs hq
  have hyl:=hs.len
  obtain ⟨x,hx⟩:=zce (l:=y) (i:=j+1) (by omega)
  obtain ⟨z,hz⟩:=zce (l:=y) (i:=j) (by omega)
  obtain ⟨q,hrd⟩:=zce (l:=y.set (j+1) z) (i:=j) (by rw [List.length_set];omega)
  obtain ⟨c,hc,hcc⟩:=hk.seg hs x (List.mem_of_getElem? hx) z (List.mem_of_getElem? hz)
  have kx:=zbq (key:=key) hx
  have kz:=zbq (key:=key) hz
  have hstep:zaw p s1 s2 s9 s10 (((j+1:Nat):Int),y)=if c<0 then some (.next ((j:Int),(y.set (j+1) z).set j x)) else some (.jmp 4 (((j+1:Nat):Int),y)):=by
   simp only [zaw]
   rw [if_pos (by omega),zg9 (by omega) (by omega),Nat.add_sub_cancel]
   simp only [zb2,hx,hz,Option.bind_some,hc,Int.toNat_natCast,hrd]
  by_cases h0:c<0
  ·rw [if_pos h0] at hstep
   rw [zat hstep]
   have hlt':=hcc.1 h0
   have haj:a≤j:=by
    rcases Nat.lt_or_ge j a with h | h
    ·have ea:a=j+1:=by omega
     have:=hs.low (by omega) hb hlow (by omega) (j+1) (by omega) (by omega)
     rw [ea,Nat.add_sub_cancel,kx,kz] at this
     omega
    ·exact h
   have hget:=zgx hx hz
   have kk:∀ k,ka key ((y.set (j+1) z).set j x) k=if k=j then key x else if k=j+1 then key z else ka key y k:=by
    intro k
    unfold ka
    rw [hget k]
    split
    ·rfl
    ·split<;>rfl
   refine ih _ (by omega) (by omega) (hs.trans (Seg.swap hx hz (by omega) (by omega))) ⟨fun u v hu huv hv hu' hv'=>?_,fun v hv hvi=>?_⟩
   ·rw [kk,kk,if_neg hu',if_neg hv']
    by_cases hv1:v=j+1
    ·rw [if_pos hv1,if_neg (by omega),← kz];exact hq.1 u j hu (by omega) (by omega) (by omega) (by omega)
    ·rw [if_neg hv1]
     by_cases hu1:u=j+1
     ·rw [if_pos hu1,← kz];exact hq.1 j v (by omega) (by omega) hv (by omega) (by omega)
     ·rw [if_neg hu1];exact hq.1 u v hu huv hv (by omega) (by omega)
   ·rw [kk,kk,if_pos rfl,if_neg (by omega)]
    by_cases hv1:v=j+1
    ·rw [if_pos hv1];omega
    ·rw [if_neg hv1,← kx];exact hq.2 v (by omega) hvi
  ·rw [if_neg h0] at hstep
   refine ⟨_,y,zau hstep,hs,fun u v hu huv hv=>?_⟩
   have hge:key z≤key x:=by
    have:=mt hcc.2 h0;omega
   by_cases hu1:u=j+1
   ·subst hu1;exact hq.2 v (by omega) (by omega)
   ·by_cases hv1:v=j+1
    ·subst hv1
     by_cases hu2:u=j
     ·subst hu2;rw [kx,kz];exact hge
     ·have:=hq.1 u j hu (by omega) (by omega) (by omega) (by omega)
      rw [kx];rw [kz] at this;omega
    ·exact hq.1 u v hu huv (by omega) hu1 hv1
theorem ybt {y:List T}{a i i':Nat} (h:Asc key y a i) (hai:a<i) (g:∀ k,i≤k→k<i'→ka key y (k - 1)≤ka key y k):Asc key y a i':=by
 intro u v hu huv hv
 induction v with
 | zero=>omega
 | succ v ih =>
  by_cases h1:v+1<i
  ·exact h u (v+1) hu huv h1
  ·have h2:=g (v+1) (by omega) hv
   rw [Nat.add_sub_cancel] at h2
   by_cases h3:u=v
   ·subst h3;exact h2
   ·exact Int.le_trans (ih (by omega) (by omega)) h2
theorem z7e {l:List T}{a b:Nat} (hk:Keyed p key l) (hb:b≤l.length) (hl:l.length<2 ^ 40) (hlow:0<a→∀ k,a≤k→k<b→ka key l (a - 1)≤ka key l k):∀ (d n:Nat),n+d=5→∀ (i:Nat) (y:List T),a+1≤i→i≤b→Seg l y a b→Asc key y a i →
  (∃ (i':Int) (n':Int) (y':List T),iter (zam p (a:Int) (b:Int)) ((i:Int),(n:Int),y)=some (.jmp 0 (i',n',y'))∧Seg l y' a b) ∨
  (∃ (r:Bool) (y':List T),iter (zam p (a:Int) (b:Int)) ((i:Int),(n:Int),y)=some (.ret (r,y'))∧Seg l y' a b∧(r=true→Asc key y' a b)):=by
 intro d
 induction d with
 | zero =>
  intro n hn i y h1 h2 hs ha
  exact .inl ⟨_,_,y,zau (by simp only [zam];rw [if_neg (by omega)]),hs⟩
 | succ d ih =>
  intro n hn i y h1 h2 hs ha
  have hyl:=hs.len
  obtain ⟨m,e1,g1,g2,g3⟩:=z91 (y:=y) (a:=a) (b:=b) (hk.seg hs) (by omega) (by omega) (a:Int) (n:Int) (b - i) i (by omega) (by omega)
  have hasc:=ybt ha (by omega) g3
  have hba:w64 ((b:Int) - (a:Int))=(b:Int) - a:=zdn (by omega) (by omega)
  by_cases hmb:m=b
  ·refine .inr ⟨true,y,zj0 ?_,hs,fun _=>hmb ▸ hasc⟩
   simp only [zam]
   rw [if_pos (by omega),e1]
   simp only [Option.bind_some]
   rw [if_pos (by omega)]
  by_cases hsh:(b:Int) - a<50
  ·refine .inr ⟨false,y,zj0 ?_,hs,fun h=>nomatch h⟩
   simp only [zam]
   rw [if_pos (by omega),e1]
   simp only [Option.bind_some]
   rw [if_neg (by omega),hba,if_pos hsh]
  obtain ⟨x,hx⟩:=zce (l:=y) (i:=m) (by omega)
  obtain ⟨z,hz⟩:=zce (l:=y) (i:=m - 1) (by omega)
  obtain ⟨q,hq⟩:=zce (l:=y.set m z) (i:=m - 1) (by rw [List.length_set];omega)
  have hsw:=Seg.swap (a:=a) (b:=b) hx hz (by omega) (by omega)
  have hget:=zgx hx hz
  generalize hy1:(y.set m z).set (m - 1) x=y1 at *
  have hs1:=hs.trans hsw
  have hd:∃ (y2:List T),Seg l y2 a b∧Asc key y2 a m∧(if (2:Int)≤(m:Int) - a then ∃ j':Int,iter (zaw p (a:Int) (b:Int) (m:Int) (n:Int)) (((m - 1:Nat):Int),y1)=some (.jmp 4 (j',y2)) else y2=y1):=by
   by_cases h2m:(2:Int)≤(m:Int) - a
   ·obtain ⟨j',y2,f1,f2,f3⟩:=z5r hk (i:=m - 1) (by omega) hb hl hlow (a:Int) (b:Int) (m:Int) (n:Int) (m - 1) y1 (by omega) (by omega) hs1 ⟨fun u v hu huv hv hu' hv'=>by
     have w:∀ k,k<m - 1→ka key y1 k=ka key y k:=by
      intro k hk'
      unfold ka
      rw [hget k,if_neg (by omega),if_neg (by omega)]
     rw [w u (by omega),w v (by omega)]
     exact hasc u v hu huv (by omega),fun v hv hv'=>by omega⟩
    rw [show m - 1+1=m by omega] at f3
    exact ⟨y2,f2,f3,by rw [if_pos h2m];exact ⟨j',f1⟩⟩
   ·exact ⟨y1,hs1,fun u v hu huv hv=>by omega,by rw [if_neg h2m]⟩
  obtain ⟨y2,f1,f2,f3⟩:=hd
  have hy2:=f1.len
  have hu:∃ (y3:List T),Seg l y3 a b∧Asc key y3 a m∧(if (2:Int)≤(b:Int) - m then ∃ j':Int,iter (zar p (a:Int) (b:Int) (m:Int) (n:Int)) (((m+1:Nat):Int),y2)=some (.jmp 6 (j',y3)) else y3=y2):=by
   by_cases h2m:(2:Int)≤(b:Int) - m
   ·obtain ⟨j',y3,k1,k2⟩:=yjn (a:=m) (b:=b) (a:Int) (m:Int) (n:Int) (b - (m+1)) (m+1) y2 (hk.seg f1) (by omega) (by omega) (by omega) (by omega)
    refine ⟨y3,f1.trans (k2.mono (by omega) (Nat.le_refl _)),fun u v hu huv hv=>?_,by rw [if_pos h2m];exact ⟨j',k1⟩⟩
    have w:∀ k,k<m→ka key y3 k=ka key y2 k:=by
     intro k hk'
     unfold ka
     rw [k2.out k (by omega)]
    rw [w u (by omega),w v hv]
    exact f2 u v hu huv hv
   ·exact ⟨y2,f1,f2,by rw [if_neg h2m]⟩
  obtain ⟨y3,k1,k2,k3⟩:=hu
  have hstep:zam p (a:Int) (b:Int) ((i:Int),(n:Int),y)=some (.next ((m:Int),((n+1:Nat):Int),y3)):=by
   simp only [zam]
   rw [if_pos (by omega),e1]
   simp only [Option.bind_some]
   rw [if_neg (by omega),hba,if_neg hsh,zg9 (by omega) (by omega)]
   simp only [zb2,hx,hz,hq,Option.bind_some,Int.toNat_natCast]
   rw [hy1,zdn (x:=(m:Int) - (a:Int)) (by omega) (by omega),zdn (x:=(b:Int) - (m:Int)) (by omega) (by omega),zbb (n:=n) (by omega),zbb (n:=m) (by omega)]
   by_cases h2m:(2:Int)≤(m:Int) - a<;>by_cases h2b:(2:Int)≤(b:Int) - m
   all_goals simp only [h2m,h2b,if_true,if_false] at f3 k3 ⊢
   ·obtain ⟨j1,f3⟩:=f3;obtain ⟨j2,k3⟩:=k3
    simp only [f3,k3,Option.bind_some]
   ·obtain ⟨j1,f3⟩:=f3
    simp only [f3,k3,Option.bind_some]
   ·obtain ⟨j2,k3⟩:=k3
    subst f3
    simp only [k3,Option.bind_some]
   ·subst f3;subst k3;rfl
  rw [zat hstep]
  exact ih (n+1) (by omega) m y3 (by omega) (by omega) k1 k2
theorem yhh {l:List T}{a b:Nat} (hk:Keyed p key l) (hab:a<b) (hb:b≤l.length) (hl:l.length<2 ^ 40) (hlow:0<a→∀ k,a≤k→k<b→ka key l (a - 1)≤ka key l k) :
  ∃ (r:Bool) (l':List T),za7 p l (a:Int) (b:Int)=some (r,l')∧Seg l l' a b∧(r=true→Asc key l' a b):=by
 unfold za7
 rw [zbb (n:=a) (by omega)]
 rcases z7e hk hb hl hlow 5 0 rfl (a+1) l (by omega) (by omega) (Seg.refl _ _ _) (fun u v hu huv hv=>by omega) with ⟨i',n',y',e,hs⟩ | ⟨r,y',e,hs,hr⟩
 ·have e':iter (zam p (a:Int) (b:Int)) (((a+1:Nat):Int),(0:Int),l)=_:=e
  rw [e'];exact ⟨false,y',rfl,hs,fun h=>nomatch h⟩
 ·have e':iter (zam p (a:Int) (b:Int)) (((a+1:Nat):Int),(0:Int),l)=_:=e
  rw [e'];exact ⟨r,y',rfl,hs,hr⟩
end
end Xr

namespace Xr
open Go Go.Ev
set_option linter.unusedVariables false
theorem zkk {x:Int} (h1:0≤x) (h2:x<18446744073709551616):IntKind.wrap .u64 x=x:=by
 change (if (false && decide (x % 18446744073709551616 ≥ 9223372036854775808))=true then x % 18446744073709551616 - 18446744073709551616 else x % 18446744073709551616)=x
 rw [Bool.false_and,if_neg (by decide),Int.emod_eq_of_lt h1 h2]
theorem znq {x:Int} (h1:0≤x) (h2:x<256):IntKind.wrap .u8 x=x:=by
 change (if (false && decide (x % 256 ≥ 128))=true then x % 256 - 256 else x % 256)=x
 rw [Bool.false_and,if_neg (by decide),Int.emod_eq_of_lt h1 h2]
theorem ycg (x y:Int) (h1:0≤y) (h2:y<18446744073709551616):0≤andK .u64 x y∧andK .u64 x y≤y:=by
 have e:andK .u64 x y=IntKind.wrap .u64 ((BitVec.ofInt 64 x &&& BitVec.ofInt 64 y).toNat:Int):=rfl
 have h3:(BitVec.ofInt 64 x &&& BitVec.ofInt 64 y).toNat≤y.toNat:=by
  rw [BitVec.toNat_and]
  refine Nat.le_trans Nat.and_le_right ?_
  rw [BitVec.toNat_ofInt]
  omega
 rw [e,zkk (by omega) (by omega)]
 omega
def tabOk (s:ByteArray):Bool:=(List.range 256).all fun k=>match s[k]? with | some b=>decide (k<2 ^ b.toNat) && (decide (k=0) || decide (2 ^ b.toNat≤2*k)) && decide (b.toNat≤8) | none=>false
theorem z5s {s:ByteArray} (h:tabOk s=true) {k:Nat} (hk:k<256):∃ b:Nat,bt s (k:Int)=some (b:Int)∧k<2 ^ b∧(k≠0→2 ^ b≤2*k)∧b≤8:=by
 have:=List.all_eq_true.1 h k (List.mem_range.2 hk)
 cases hs:s[k]? with
 | none=>rw [hs] at this;cases this
 | some b =>
  rw [hs] at this
  simp only [Bool.and_eq_true,Bool.or_eq_true,decide_eq_true_eq] at this
  refine ⟨b.toNat, ?_,this.1.1,fun h0=>?_,this.2⟩
  ·unfold bt
   rw [if_pos (by omega),Int.toNat_natCast,hs];rfl
  ·rcases this.1.2 with h2 | h2
   ·exact absurd h2 h0
   ·exact h2
theorem zxt {n:Nat} (h1:8≤n) (h2:n<65536):∃ k:Nat,zdr (n:Int)=some (k:Int)∧n<2 ^ k∧2 ^ k≤2*n∧k≤16:=by
 unfold zdr
 rw [if_neg (by omega),if_neg (by omega)]
 generalize hT:ByteArray.mk _=tb
 have ht:tabOk tb=true:=by rw [← hT];decide +kernel
 clear hT
 by_cases h3:(256:Int)≤(n:Int)
 ·rw [if_pos h3]
  have e1:shrK .u64 (n:Int) 8=some ((n / 256:Nat):Int):=by
   unfold shrK
   rw [if_neg (by omega)]
   have:(2:Int) ^ (min (8:Int).toNat (IntKind.bits .u64))=256:=by decide
   rw [this,Int.fdiv_eq_ediv_of_nonneg _ (by omega)]
   rfl
  obtain ⟨b,g1,g2,g3,g4⟩:=z5s ht (k:=n / 256) (by omega)
  rw [e1,Option.bind_some,znq (by omega) (by omega),g1,Option.bind_some]
  have e2:IntKind.wrap .i64 (b:Int)=(b:Int):=zdn (by omega) (by omega)
  refine ⟨8+b, ?_, ?_, ?_,by omega⟩
  ·rw [e2]
   have e3:w64 ((0:Int)+8)=8:=zdn (by omega) (by omega)
   rw [e3]
   exact congrArg some (w64_n (by omega) (by omega))
  ·rw [Nat.pow_add];omega
  ·have:=g3 (by omega)
   rw [Nat.pow_add];omega
 ·rw [if_neg h3]
  obtain ⟨b,g1,g2,g3,g4⟩:=z5s ht (k:=n) (by omega)
  rw [znq (by omega) (by omega),g1,Option.bind_some]
  have e2:IntKind.wrap .i64 (b:Int)=(b:Int):=zdn (by omega) (by omega)
  refine ⟨b, ?_,g2,g3 (by omega),by omega⟩
  rw [e2]
  exact congrArg some (w64_n (by omega) (by omega))
theorem z8d (n:Nat) (h2:n<65536):∃ k:Int,zdj (n:Int)=some k:=by
 unfold zdj
 by_cases h8:8≤n
 ·obtain ⟨k,h,_⟩:=zxt h8 h2
  exact ⟨(k:Int),by rw [h];rfl⟩
 ·unfold zdr
  rw [if_neg (by omega),if_neg (by omega),if_neg (by omega)]
  generalize hT:ByteArray.mk _=tb
  have ht:tabOk tb=true:=by rw [← hT];decide +kernel
  clear hT
  obtain ⟨b,g1,_⟩:=z5s ht (k:=n) (by omega)
  rw [znq (by omega) (by omega),g1]
  exact ⟨_,rfl⟩
theorem ybh {n:Nat} (h1:8≤n) (h2:n<65536):∃ m:Nat,zes (n:Int)=some (m:Int)∧n<m∧m≤2*n:=by
 obtain ⟨k,e,g1,g2,g3⟩:=zxt h1 h2
 refine ⟨2 ^ k, ?_,g1,g2⟩
 unfold zes zdj
 rw [zkk (by omega) (by omega),e]
 simp only [Option.bind_some]
 have e2:shlK .u64 1 (k:Int)=some (((2 ^ k:Nat):Int)):=by
  unfold shlK
  rw [if_neg (by omega)]
  have h4:min (k:Int).toNat (IntKind.bits .u64)=k:=by
   rw [Int.toNat_natCast];exact Nat.min_eq_left (by have:IntKind.bits .u64=64:=rfl;omega)
  have h5:(1:Int)*2 ^ k=((2 ^ k:Nat):Int):=by rw [Int.one_mul];exact (Int.natCast_pow 2 k).symm
  rw [h4,h5,zkk (by omega) (by omega)]
 rw [e2];rfl
section
variable {T : Type} {p : T → T → Option Int} {key : T → Int}
theorem zwh (x:Int):∃ r:Int×Int,zfw x=some r:=by
 unfold zfw
 simp only [shlK,shrK]
 rw [if_neg (by omega),Option.bind_some,if_neg (by omega),Option.bind_some,if_neg (by omega),Option.bind_some]
 exact ⟨_,rfl⟩
theorem exch {y:List T}{a b i j:Nat} (hb:b≤y.length) (hi:a≤i∧i<b) (hj:a≤j∧j<b):∃ (x z q:T),y[j]?=some z∧y[i]?=some x∧(y.set i z)[j]?=some q∧Seg y ((y.set i z).set j x) a b:=by
 obtain ⟨x,hx⟩:=zce (l:=y) (i:=i) (by omega)
 obtain ⟨z,hz⟩:=zce (l:=y) (i:=j) (by omega)
 obtain ⟨q,hq⟩:=zce (l:=y.set i z) (i:=j) (by rw [List.length_set];omega)
 exact ⟨x,z,q,hz,hx,hq,Seg.swap hx hz hi hj⟩
theorem z8l {y:List T}{a n m i:Nat}{q:Nat} (w:Int) (hb:a+n≤y.length) (hl:y.length<65536) (hq:q=n / 4) (hm1:n<m) (hm2:m≤2*n) (h8:8≤n) (hi1:a≤i) (hi2:i≤a+q*2+1) :
  ∃ (y':List T) (w':Int),zbg p (a:Int) (n:Int) (m:Int) ((i:Int),y,w)=some (.next (((i+1:Nat):Int),y',w'))∧Seg y y' a (a+n):=by
 have e2:quoK .i64 (n:Int) 4=some (q:Int):=by
  unfold quoK
  rw [if_neg (by omega),Int.tdiv_eq_ediv_of_nonneg (by omega)]
  have:(n:Int) / 4=(q:Int):=by omega
  rw [this]
  exact congrArg some (zsl (by omega))
 obtain ⟨r,hr⟩:=zwh w
 have f1:w64 ((q:Int)*2)=((q*2:Nat):Int):=w64_n (by omega) (by omega)
 have f2:w64 ((a:Int)+((q*2:Nat):Int))=((a+q*2:Nat):Int):=w64_n (by omega) (by omega)
 have f3:w64 (((a+q*2:Nat):Int)+1)=((a+q*2+1:Nat):Int):=w64_n (by omega) (by omega)
 simp only [zbg,e2,Option.bind_some,f1,f2,f3,hr]
 rw [if_pos (by omega)]
 have g1:IntKind.wrap .u64 ((m:Int) - 1)=(m:Int) - 1:=zkk (by omega) (by omega)
 rw [g1]
 obtain ⟨k1,k2⟩:=ycg r.1 ((m:Int) - 1) (by omega) (by omega)
 generalize andK .u64 r.1 ((m:Int) - 1)=v at *
 have g2:IntKind.wrap .i64 v=v:=zdn (by omega) (by omega)
 rw [g2]
 have fin:∀ j:Nat,a≤j→j<a+n→∃ (y':List T) (w':Int),((rd y (j:Int)).bind fun v48=>(rd y (i:Int)).bind fun v51=>(rd (y.set (i:Int).toNat v48) (j:Int)).bind fun v56 =>
   some (Out.next (w64 ((i:Int)+(1:Int)),((y.set (i:Int).toNat v48).set (j:Int).toNat v51),r.2):Out (Int×List T×Int) (List T)))=some (.next (((i+1:Nat):Int),y',w'))∧Seg y y' a (a+n):=by
  intro j hj1 hj2
  obtain ⟨x,z,q',h1,h2,h3,h4⟩:=exch hb (i:=i) (j:=j) ⟨hi1,by omega⟩ ⟨hj1,hj2⟩
  refine ⟨_,r.2, ?_,h4⟩
  simp only [zb2,h1,h2,Option.bind_some,Int.toNat_natCast,h3]
  rw [zbb (by omega)]
 by_cases hv:(n:Int)≤v
 ·rw [if_pos hv]
  have g3:w64 (v - (n:Int))=((v.toNat - n:Nat):Int):=w64_n (by omega) (by omega)
  have g4:w64 ((a:Int)+((v.toNat - n:Nat):Int))=((a+(v.toNat - n):Nat):Int):=w64_n (by omega) (by omega)
  rw [g3,g4]
  exact fin _ (by omega) (by omega)
 ·rw [if_neg hv]
  have g4:w64 ((a:Int)+v)=((a+v.toNat:Nat):Int):=w64_n (by omega) (by omega)
  rw [g4]
  exact fin _ (by omega) (by omega)
theorem yhq {l:List T}{a b:Nat} (hab:a+8≤b) (hb:b≤l.length) (hl:l.length<65536):∃ l',zb9 p l (a:Int) (b:Int)=some l'∧Seg l l' a b:=by
 obtain ⟨n,rfl⟩:∃ n,b=a+n:=⟨b - a,by omega⟩
 have h8:8≤n:=by omega
 have e1:w64 (((a+n:Nat):Int) - (a:Int))=(n:Int):=w64_n (by omega) (by omega)
 obtain ⟨m,hm,hm1,hm2⟩:=ybh (n:=n) h8 (by omega)
 obtain ⟨q,hq⟩:∃ q,q=n / 4:=⟨_,rfl⟩
 have e2:quoK .i64 (n:Int) 4=some (q:Int):=by
  unfold quoK
  rw [if_neg (by omega),Int.tdiv_eq_ediv_of_nonneg (by omega)]
  have:(n:Int) / 4=(q:Int):=by omega
  rw [this]
  exact congrArg some (zsl (by omega))
 have f1:w64 ((q:Int)*2)=((q*2:Nat):Int):=w64_n (by omega) (by omega)
 have f2:w64 ((a:Int)+((q*2:Nat):Int))=((a+q*2:Nat):Int):=w64_n (by omega) (by omega)
 have f3:w64 (((a+q*2:Nat):Int) - 1)=((a+q*2 - 1:Nat):Int):=w64_n (by omega) (by omega)
 have key1:∀ (d i:Nat) (y:List T) (w:Int),i+d=a+q*2+2→a≤i→Seg l y a (a+n) →
   ∃ (i' w':Int) (y':List T),iter (zbg p (a:Int) (n:Int) (m:Int)) ((i:Int),y,w)=some (.jmp 0 (i',y',w'))∧Seg l y' a (a+n):=by
  intro d
  induction d with
  | zero =>
   intro i y w h1 h2 h3
   refine ⟨(i:Int),w,y,zau ?_,h3⟩
   have f3:w64 (((a+q*2:Nat):Int)+1)=((a+q*2+1:Nat):Int):=w64_n (by omega) (by omega)
   simp only [zbg,e2,Option.bind_some,f1,f2,f3]
   rw [if_neg (by omega)]
  | succ d ih =>
   intro i y w h1 h2 h3
   have hlen:=h3.len
   obtain ⟨y',w',g1,g2⟩:=z8l (p:=p) (y:=y) (a:=a) (n:=n) (m:=m) (i:=i) (q:=q) w (by omega) (by omega) hq hm1 hm2 h8 h2 (by omega)
   rw [zat g1]
   exact ih (i+1) y' w' (by omega) (by omega) (h3.trans g2)
 obtain ⟨i',w',y',h1,h2⟩:=key1 3 (a+q*2 - 1) l (IntKind.wrap .u64 (n:Int)) (by omega) (by omega) (.refl ..)
 refine ⟨y', ?_,h2⟩
 unfold zb9
 simp only [e1]
 rw [if_pos (by omega),hm,Option.bind_some,e2,Option.bind_some,f1,f2,f3,h1]
 rfl
end
end Xr

namespace Xr
open Go Go.Ev
set_option linter.unusedVariables false
section
variable {T : Type} {p : T → T → Option Int} {key : T → Int}
structure Dom (p:T→T→Option Int) (key:T→Int) (l:List T) (a b:Nat):Prop where
 keyed:Keyed p key l
 nodup:(l.map key).Nodup
 ab:a≤b
 bl:b≤l.length
 ll:l.length<65536
 low:0<a→∀ k,a≤k→k<b→ka key l (a - 1)<ka key l k
def Fin1 (key:T→Int) (l:List T) (a b:Nat) (t:List T):Prop:=Seg l t a b∧Asc key t a b
theorem zoy {l:List T} (h:(l.map key).Nodup) {i j:Nat} (hi:i<l.length) (hj:j<l.length) (hij:i≠j):ka key l i≠ka key l j:=by
 obtain ⟨x,hx⟩:=zce hi
 obtain ⟨y,hy⟩:=zce hj
 rw [zbq hx,zbq hy]
 intro e
 obtain ⟨h1,e1⟩:=List.getElem?_eq_some_iff.1 hx
 obtain ⟨h2,e2⟩:=List.getElem?_eq_some_iff.1 hy
 have h':=List.pairwise_iff_getElem.1 h
 rcases Nat.lt_or_gt_of_ne hij with hlt | hlt
 ·exact h' i j (by simpa using hi) (by simpa using hj) hlt (by rw [List.getElem_map,List.getElem_map,e1,e2,e])
 ·exact h' j i (by simpa using hj) (by simpa using hi) hlt (by rw [List.getElem_map,List.getElem_map,e1,e2,e])
theorem Dom.seg {l m:List T}{a b:Nat} (h:Dom p key l a b) (hs:Seg l m a b):Dom p key m a b:=by
 have hl:=hs.len
 have:=h.ab;have:=h.bl;have:=h.ll
 refine ⟨h.keyed.seg hs,((hs.perm.map key).nodup_iff).2 h.nodup,h.ab,by omega,by omega,fun h0=>?_⟩
 have e:ka key m (a - 1)=ka key l (a - 1):=by unfold ka;rw [hs.out (a - 1) (by omega)]
 rw [e]
 exact hs.all h.ab h.bl (Q:=fun q=>ka key l (a - 1)<q) (h.low h0)
theorem Fin1.trans {l m t:List T}{a b:Nat} (hs:Seg l m a b) (h:Fin1 key m a b t):Fin1 key l a b t:=⟨hs.trans h.1,h.2⟩
theorem Dom.fin {l:List T}{a b:Nat} (h:Dom p key l a b):∃ t,Fin1 key l a b t:=by
 have:=h.ll
 obtain ⟨l',_,h1,h2⟩:=yaw h.keyed h.ab h.bl (by omega)
 exact ⟨l',h1,h2⟩
open Classical in
noncomputable def pdqS (p4:T→T→Option Int) (x0:List T) (x1 x2 x3:Int):Option (List T) :=
 if h:∃ (t:List T) (key:T→Int),0≤x1∧0≤x2∧Dom p4 key x0 x1.toNat x2.toNat∧Fin1 key x0 x1.toNat x2.toNat t then some h.choose else none
def zmf (x0:List T) (x1 x2 x3:Int):Nat:=(x2 - x1).toNat
theorem ybm {key':T→Int}{l t:List T}{a b:Nat} (hk:Keyed p key l) (hk':Keyed p key' l) (hb:b≤l.length) (h:Fin1 key' l a b t):Fin1 key l a b t:=by
 refine ⟨h.1,fun i j h1 h2 h3=>?_⟩
 have hl:=h.1.len
 obtain ⟨x,hx⟩:=zce (l:=t) (i:=i) (by omega)
 obtain ⟨y,hy⟩:=zce (l:=t) (i:=j) (by omega)
 have mx:=(h.1.perm.mem_iff).1 (List.mem_of_getElem? hx)
 have my:=(h.1.perm.mem_iff).1 (List.mem_of_getElem? hy)
 have h4:=h.2 i j h1 h2 h3
 rw [zbq hx,zbq hy] at h4 ⊢
 obtain ⟨c,hc,hcc⟩:=hk y my x mx
 obtain ⟨c',hc',hcc'⟩:=hk' y my x mx
 rw [hc] at hc'
 obtain rfl:=Option.some.inj hc'
 rcases Int.lt_or_le (key y) (key x) with h5 | h5
 ·have:=hcc'.1 (hcc.2 h5);omega
 ·exact h5
theorem zs1 {l:List T}{a b:Nat} (h:Dom p key l a b) (lim:Int):∃ t,pdqS p l (a:Int) (b:Int) lim=some t∧Fin1 key l a b t:=by
 obtain ⟨t,ht⟩:=h.fin
 have hex:∃ (t:List T) (key:T→Int),0≤(a:Int)∧0≤(b:Int)∧Dom p key l (a:Int).toNat (b:Int).toNat∧Fin1 key l (a:Int).toNat (b:Int).toNat t:=⟨t,key,by omega,by omega,h,ht⟩
 refine ⟨hex.choose, ?_, ?_⟩
 ·unfold pdqS;rw [dif_pos hex]
 ·obtain ⟨key',_,_,h1,h2⟩:=hex.choose_spec
  exact ybm h.keyed h1.keyed h.bl h2
theorem zxo {t:List T}{a m b:Nat} (ham:a≤m) (hmb:m<b) (h1:Asc key t a m) (h2:Asc key t (m+1) b) (h3:∀ k,a≤k→k<m→ka key t k<ka key t m) (h4:∀ k,m≤k→k<b→ka key t m≤ka key t k):Asc key t a b:=by
 intro i j hi hij hj
 by_cases hjm:j<m
 ·exact h1 i j hi hij hjm
 ·by_cases him:m<i
  ·exact h2 i j him hij hj
  ·have g2:=h4 j (by omega) hj
   by_cases him':i=m
   ·subst him';exact g2
   ·have g1:=h3 i hi (by omega)
    omega
theorem zjs {l m:List T}{a b i:Nat} (h:Seg l m a b) (hi:i<a∨b≤i):ka key m i=ka key l i:=by unfold ka;rw [h.out i hi]
theorem zuj {y:List T}{a b m:Nat} (h:Dom p key y a b) (ham:a≤m) (hmb:m<b):Dom p key y a m:=by
 have:=h.bl
 exact ⟨h.keyed,h.nodup,ham,by omega,h.ll,fun h0 k h1 h2=>h.low h0 k h1 (by omega)⟩
theorem zrf {y:List T}{a b m:Nat} (h:Dom p key y a b) (ham:a≤m) (hmb:m<b) (h4:∀ k,m≤k→k<b→ka key y m≤ka key y k):Dom p key y (m+1) b:=by
 have:=h.bl
 refine ⟨h.keyed,h.nodup,by omega,h.bl,h.ll,fun h0 k h1 h2=>?_⟩
 have g1:=h4 k (by omega) h2
 have g2:=zoy h.nodup (i:=m) (j:=k) (by omega) (by omega) (by omega)
 rw [Nat.add_sub_cancel];omega
theorem yc0 {y y2 t:List T}{a b m:Nat} (ham:a≤m) (hmb:m<b) (hb:b≤y.length) (h3:∀ k,a≤k→k<m→ka key y k<ka key y m) (h4:∀ k,m≤k→k<b→ka key y m≤ka key y k)
  (f1:Fin1 key y a m y2) (f2:Fin1 key y2 (m+1) b t):Fin1 key y a b t:=by
 have hl:=f1.1.len
 refine ⟨(f1.1.mono (Nat.le_refl _) (by omega)).trans (f2.1.mono (by omega) (Nat.le_refl _)), ?_⟩
 have em:ka key t m=ka key y m:=by rw [zjs f2.1 (by omega),zjs f1.1 (by omega)]
 refine zxo ham hmb (fun i j h1 h2 h5=>?_) f2.2 (fun k h1 h2=>?_) (fun k h1 h2=>?_)
 ·rw [zjs f2.1 (by omega),zjs f2.1 (by omega)];exact f1.2 i j h1 h2 h5
 ·rw [em,zjs f2.1 (by omega)]
  exact f1.1.all ham (by omega) (Q:=fun q=>q<ka key y m) (fun i i1 i2=>h3 i i1 i2) k h1 h2
 ·rw [em]
  by_cases hk:k=m
  ·subst hk;rw [em];exact Int.le_refl _
  ·exact f2.1.all (by omega) (by omega) (Q:=fun q=>ka key y m≤q) (fun i i1 i2=>by rw [zjs f1.1 (by omega)];exact h4 i (by omega) i2) k (by omega) h2
theorem ybs {y y2 t:List T}{a b m:Nat} (ham:a≤m) (hmb:m<b) (hb:b≤y.length) (h3:∀ k,a≤k→k<m→ka key y k<ka key y m) (h4:∀ k,m≤k→k<b→ka key y m≤ka key y k)
  (f1:Fin1 key y (m+1) b y2) (f2:Fin1 key y2 a m t):Fin1 key y a b t:=by
 have hl:=f1.1.len
 refine ⟨(f1.1.mono (by omega) (Nat.le_refl _)).trans (f2.1.mono (Nat.le_refl _) (by omega)), ?_⟩
 have em:ka key t m=ka key y m:=by rw [zjs f2.1 (by omega),zjs f1.1 (by omega)]
 refine zxo ham hmb f2.2 (fun i j h1 h2 h5=>?_) (fun k h1 h2=>?_) (fun k h1 h2=>?_)
 ·rw [zjs f2.1 (by omega),zjs f2.1 (by omega)];exact f1.2 i j h1 h2 h5
 ·rw [em]
  exact f2.1.all ham (by omega) (Q:=fun q=>q<ka key y m) (fun i i1 i2=>by rw [zjs f1.1 (by omega)];exact h3 i i1 i2) k h1 h2
 ·rw [em]
  by_cases hk:k=m
  ·subst hk;rw [em];exact Int.le_refl _
  ·rw [zjs f2.1 (by omega)]
   exact f1.1.all (by omega) hb (Q:=fun q=>ka key y m≤q) (fun i i1 i2=>h4 i (by omega) i2) k (by omega) h2
abbrev PS (T:Type):=Int×Int×Int×Bool×Bool×List T
noncomputable def zxu (rec:List T→Int→Int→Int→Option (List T)) (p4:T→T→Option Int) (s1 s2 s3:Int) (y:List T) (c:Int):Option (Out (PS T) (List T)) :=
 (zao p4 y s1 s2 c).bind fun r735 =>
 if r735.2.2.length=y.length then
  (quoK .i64 (w64 (s2 - s1)) (8:Int)).bind fun q739 =>
  if (w64 (r735.1 - s1))<(w64 (s2 - r735.1)) then
   (rec r735.2.2 s1 r735.1 s3).bind fun r743 =>
   if r743.length=r735.2.2.length then
    some (.next (w64 (r735.1+(1:Int)),s2,s3,decide (q739≤(w64 (r735.1 - s1))),r735.2.1,r743))
   else none
  else
   (rec r735.2.2 (w64 (r735.1+(1:Int))) s2 s3).bind fun r747 =>
   if r747.length=r735.2.2.length then
    some (.next (s1,r735.1,s3,decide (q739≤(w64 (s2 - r735.1))),r735.2.1,r747))
   else none
 else none
noncomputable def pdqK (rec:List T→Int→Int→Int→Option (List T)) (p4:T→T→Option Int) (s1 s2 s3:Int) (s10 s11:Bool) (y:List T) (c:Int):Option (Out (PS T) (List T)) :=
 if (0:Int)<s1 then
  (rd y (w64 (s1 - (1:Int)))).bind fun v705 =>
  (rd y c).bind fun v708 =>
  (p4 v705 v708).bind fun r711 =>
  if r711<(0:Int) then zxu rec p4 s1 s2 s3 y c
  else
   (za1 p4 y s1 s2 c).bind fun r731 =>
   if r731.2.length=y.length then
    some (.next (r731.1,s2,s3,s10,s11,r731.2))
   else none
 else zxu rec p4 s1 s2 s3 y c
noncomputable def zxx (rec:List T→Int→Int→Int→Option (List T)) (p4:T→T→Option Int) (s1 s2 s3:Int) (s10 s11:Bool) (y:List T) (c:Int):Option (Out (PS T) (List T)) :=
 (za7 p4 y s1 s2).bind fun r498 =>
 if r498.2.length=y.length then
  if r498.1=true then
   some (.ret r498.2)
  else pdqK rec p4 s1 s2 s3 s10 s11 r498.2 c
 else none
noncomputable def zsf (rec:List T→Int→Int→Int→Option (List T)) (p4:T→T→Option Int):PS T→Option (Out (PS T) (List T)):=fun (s1,s2,s3,s10,s11,y0) =>
 if (w64 (s2 - s1))≤(12:Int) then
  (zcb p4 y0 s1 s2).bind fun r377 =>
  if r377.length=y0.length then some (.ret r377) else none
 else
  if s3=(0:Int) then
   (zdc p4 y0 s1 s2).bind fun r382 =>
   if r382.length=y0.length then some (.ret r382) else none
  else
   if s10=true then
    (zbo p4 y0 s1 s2).bind fun r387 =>
    if r387.2.2.length=y0.length then
     if r387.2.1=(2:Int) then
      (zbk p4 r387.2.2 s1 s2).bind fun r392 =>
      if r392.length=r387.2.2.length then
       if s11=true then zxx rec p4 s1 s2 s3 s10 s11 r392 (w64 ((w64 (s2 - (1:Int))) - (w64 (r387.1 - s1))))
       else pdqK rec p4 s1 s2 s3 s10 s11 r392 (w64 ((w64 (s2 - (1:Int))) - (w64 (r387.1 - s1))))
      else none
     else
      if s11=true then
       if r387.2.1=(1:Int) then zxx rec p4 s1 s2 s3 s10 s11 r387.2.2 r387.1
       else pdqK rec p4 s1 s2 s3 s10 s11 r387.2.2 r387.1
      else pdqK rec p4 s1 s2 s3 s10 s11 r387.2.2 r387.1
    else none
   else
    (zb9 p4 y0 s1 s2).bind fun r644 =>
    if r644.length=y0.length then
     (zbo p4 r644 s1 s2).bind fun r648 =>
     if r648.2.2.length=r644.length then
      if r648.2.1=(2:Int) then
       (zbk p4 r648.2.2 s1 s2).bind fun r653 =>
       if r653.length=r648.2.2.length then pdqK rec p4 s1 s2 (w64 (s3 - (1:Int))) s10 s11 r653 (w64 ((w64 (s2 - (1:Int))) - (w64 (r648.1 - s1))))
       else none
      else pdqK rec p4 s1 s2 (w64 (s3 - (1:Int))) s10 s11 r648.2.2 r648.1
     else none
    else none
theorem z98 (rec:List T→Int→Int→Int→Option (List T)) (p4:T→T→Option Int):zev rec p4=zsf rec p4:=rfl
def Good (p:T→T→Option Int) (key:T→Int) (l:List T) (a0 b0 n:Nat):Out (PS T) (List T)→Prop
 | .next s=>∃ (a b:Nat) (y:List T),s.1=(a:Int)∧s.2.1=(b:Int)∧s.2.2.2.2.2=y∧Dom p key y a b∧(∀ t,Fin1 key y a b t→Fin1 key l a0 b0 t)∧b - a<n
 | .ret r=>Fin1 key l a0 b0 r
 | .jmp _ _=>False
theorem Good.up {l y:List T}{a0 b0 a b n n':Nat}{o:Out (PS T) (List T)} (h:Good p key y a b n o) (hn:n≤n') (ht:∀ t,Fin1 key y a b t→Fin1 key l a0 b0 t):Good p key l a0 b0 n' o:=by
 match o,h with
 | .next s,⟨a',b',y',e1,e2,e3,h1,h2,h3⟩=>exact ⟨a',b',y',e1,e2,e3,h1,fun t h=>ht t (h2 t h),by omega⟩
 | .ret r,h=>exact ht r h
def RecOk (p:T→T→Option Int) (key:T→Int) (n:Nat) (rec:List T→Int→Int→Int→Option (List T)):Prop:=∀ (l:List T) (a b:Nat) (lim:Int),Dom p key l a b→b - a<n→∃ t,rec l (a:Int) (b:Int) lim=some t∧Fin1 key l a b t
theorem zt7 {rec:List T→Int→Int→Int→Option (List T)}{y:List T}{a b c:Nat} (hrec:RecOk p key (b - a) rec) (h:Dom p key y a b) (h1:a≤c) (h2:c<b) (lim:Int) :
  ∃ o,zxu rec p (a:Int) (b:Int) lim y (c:Int)=some o∧Good p key y a b (b - a) o:=by
 have:=h.ll
 have hbl:=h.bl
 obtain ⟨m,r,y1,e1,g1,g2,g3,g4,g5⟩:=zu3 h.keyed h1 h2 h.bl (by omega)
 have hd:=h.seg g3
 have hl:=g3.len
 unfold zxu
 rw [e1,Option.bind_some]
 simp only
 rw [if_pos hl]
 have f1:w64 ((b:Int) - (a:Int))=((b - a:Nat):Int):=w64_n (by omega) (by omega)
 have f2:w64 ((m:Int) - (a:Int))=((m - a:Nat):Int):=w64_n (by omega) (by omega)
 have f3:w64 ((b:Int) - (m:Int))=((b - m:Nat):Int):=w64_n (by omega) (by omega)
 have f4:w64 ((m:Int)+1)=((m+1:Nat):Int):=w64_n (by omega) (by omega)
 obtain ⟨q,hq⟩:∃ q,quoK .i64 ((b - a:Nat):Int) 8=some q:=by unfold quoK;rw [if_neg (by omega)];exact ⟨_,rfl⟩
 rw [f1,f2,f3,f4,hq,Option.bind_some]
 by_cases hlt:((m - a:Nat):Int)<((b - m:Nat):Int)
 ·rw [if_pos hlt]
  obtain ⟨t,k1,k2⟩:=hrec y1 a m lim (zuj hd g1 g2) (by omega)
  rw [k1,Option.bind_some,if_pos k2.1.len]
  refine ⟨_,rfl,m+1,b,t,rfl,rfl,rfl, ?_,fun t' ht'=>Fin1.trans g3 (yc0 g1 g2 (by omega) g4 g5 k2 ht'),by omega⟩
  have hd2:=hd.seg (k2.1.mono (Nat.le_refl _) (by omega))
  refine zrf hd2 g1 g2 (fun k i1 i2=>?_)
  rw [zjs k2.1 (i:=m) (by omega),zjs k2.1 (i:=k) (by omega)]
  exact g5 k i1 i2
 ·rw [if_neg hlt]
  obtain ⟨t,k1,k2⟩:=hrec y1 (m+1) b lim (zrf hd g1 g2 g5) (by omega)
  rw [k1,Option.bind_some,if_pos k2.1.len]
  refine ⟨_,rfl,a,m,t,rfl,rfl,rfl, ?_,fun t' ht'=>Fin1.trans g3 (ybs g1 g2 (by omega) g4 g5 k2 ht'),by omega⟩
  exact zuj (hd.seg (k2.1.mono (by omega) (Nat.le_refl _))) g1 g2
theorem znx {rec:List T→Int→Int→Int→Option (List T)}{y:List T}{a b c:Nat} (hrec:RecOk p key (b - a) rec) (h:Dom p key y a b) (h1:a≤c) (h2:c<b) (lim:Int) (s10 s11:Bool) :
  ∃ o,pdqK rec p (a:Int) (b:Int) lim s10 s11 y (c:Int)=some o∧Good p key y a b (b - a) o:=by
 have:=h.ll
 have hbl:=h.bl
 unfold pdqK
 by_cases h0:(0:Int)<(a:Int)
 ·rw [if_pos h0,zg9 (by omega) (by omega)]
  obtain ⟨x,hx⟩:=zce (l:=y) (i:=a - 1) (by omega)
  obtain ⟨z,hz⟩:=zce (l:=y) (i:=c) (by omega)
  obtain ⟨r,hr,hrr⟩:=h.keyed x (List.mem_of_getElem? hx) z (List.mem_of_getElem? hz)
  have hlow:=h.low (by omega) c h1 h2
  rw [zbq hx,zbq hz] at hlow
  simp only [zb2,hx,hz,Option.bind_some,hr]
  rw [if_pos (hrr.2 hlow)]
  exact zt7 hrec h h1 h2 lim
 ·rw [if_neg h0]
  exact zt7 hrec h h1 h2 lim
theorem zti {rec:List T→Int→Int→Int→Option (List T)}{y:List T}{a b c:Nat} (hrec:RecOk p key (b - a) rec) (h:Dom p key y a b) (h1:a≤c) (h2:c<b) (lim:Int) (s10 s11:Bool) :
  ∃ o,zxx rec p (a:Int) (b:Int) lim s10 s11 y (c:Int)=some o∧Good p key y a b (b - a) o:=by
 have:=h.ll
 have hbl:=h.bl
 obtain ⟨r,y1,e1,g1,g2⟩:=yhh (a:=a) (b:=b) h.keyed (by omega) h.bl (by omega) (fun h0 k k1 k2=>by have:=h.low h0 k k1 k2;omega)
 unfold zxx
 rw [e1,Option.bind_some]
 simp only
 rw [if_pos g1.len]
 by_cases hr:r=true
 ·rw [if_pos hr]
  exact ⟨_,rfl,g1,g2 hr⟩
 ·rw [if_neg hr]
  obtain ⟨o,k1,k2⟩:=znx hrec (h.seg g1) h1 h2 lim s10 s11
  exact ⟨o,k1,k2.up (Nat.le_refl _) fun t ht=>Fin1.trans g1 ht⟩
theorem z0l {rec:List T→Int→Int→Int→Option (List T)}{y:List T}{a b:Nat} (hrec:RecOk p key (b - a) rec) (h:Dom p key y a b) (lim:Int) (s10 s11:Bool) :
  ∃ o,zsf rec p ((a:Int),(b:Int),lim,s10,s11,y)=some o∧Good p key y a b (b - a) o:=by
 have:=h.ll
 have hbl:=h.bl
 have hab:=h.ab
 have f1:w64 ((b:Int) - (a:Int))=((b - a:Nat):Int):=w64_n (by omega) (by omega)
 unfold zsf
 simp only [f1]
 by_cases h12:((b - a:Nat):Int)≤12
 ·rw [if_pos h12]
  obtain ⟨t,e,g1,g2⟩:=yaw h.keyed h.ab h.bl (by omega)
  rw [e,Option.bind_some,if_pos g1.len]
  exact ⟨_,rfl,g1,g2⟩
 rw [if_neg h12]
 by_cases hl0:lim=0
 ·rw [if_pos hl0]
  obtain ⟨t,e,g1,g2⟩:=ybq h.keyed h.ab h.bl (by omega)
  rw [e,Option.bind_some,if_pos g1.len]
  exact ⟨_,rfl,g1,g2⟩
 rw [if_neg hl0]
 have turn:∀ (m:Nat),a≤m→m<b→∃ c:Nat,w64 ((w64 ((b:Int) - 1)) - (w64 ((m:Int) - (a:Int))))=(c:Int)∧a≤c∧c<b:=by
  intro m h1 h2
  have e1:w64 ((b:Int) - 1)=((b - 1:Nat):Int):=w64_n (by omega) (by omega)
  have e2:w64 ((m:Int) - (a:Int))=((m - a:Nat):Int):=w64_n (by omega) (by omega)
  rw [e1,e2]
  exact ⟨b - 1 - (m - a),w64_n (by omega) (by omega),by omega,by omega⟩
 by_cases hs10:s10=true
 ·rw [if_pos hs10]
  obtain ⟨m,hint,e,g1,g2⟩:=zyw (a:=a) (b:=b) h.keyed (by omega) h.bl (by omega)
  rw [e,Option.bind_some]
  simp only
  rw [if_pos trivial]
  obtain ⟨c,ec,c1,c2⟩:=turn m g1 g2
  rw [ec]
  by_cases h2:hint=2
  ·rw [if_pos h2]
   obtain ⟨y1,e1,k1⟩:=ya8 (p:=p) h.ab h.bl (by omega)
   rw [e1,Option.bind_some,if_pos k1.len]
   by_cases hs11:s11=true
   ·rw [if_pos hs11]
    obtain ⟨o,o1,o2⟩:=zti hrec (h.seg k1) c1 c2 lim s10 s11
    exact ⟨o,o1,o2.up (Nat.le_refl _) fun t ht=>Fin1.trans k1 ht⟩
   ·rw [if_neg hs11]
    obtain ⟨o,o1,o2⟩:=znx hrec (h.seg k1) c1 c2 lim s10 s11
    exact ⟨o,o1,o2.up (Nat.le_refl _) fun t ht=>Fin1.trans k1 ht⟩
  ·rw [if_neg h2]
   by_cases hs11:s11=true
   ·rw [if_pos hs11]
    by_cases h3:hint=1
    ·rw [if_pos h3];exact zti hrec h g1 g2 lim s10 s11
    ·rw [if_neg h3];exact znx hrec h g1 g2 lim s10 s11
   ·rw [if_neg hs11];exact znx hrec h g1 g2 lim s10 s11
 ·rw [if_neg hs10]
  obtain ⟨y1,e1,k1⟩:=yhq (p:=p) (l:=y) (a:=a) (b:=b) (by omega) h.bl (by omega)
  rw [e1,Option.bind_some,if_pos k1.len]
  have hd:=h.seg k1
  obtain ⟨m,hint,e,g1,g2⟩:=zyw (a:=a) (b:=b) hd.keyed (by omega) hd.bl (by have:=hd.ll;omega)
  rw [e,Option.bind_some]
  simp only
  rw [if_pos trivial]
  obtain ⟨c,ec,c1,c2⟩:=turn m g1 g2
  rw [ec]
  by_cases h2:hint=2
  ·rw [if_pos h2]
   obtain ⟨y2,e2,k2⟩:=ya8 (p:=p) hd.ab hd.bl (by have:=hd.ll;omega)
   rw [e2,Option.bind_some,if_pos k2.len]
   obtain ⟨o,o1,o2⟩:=znx hrec (hd.seg k2) c1 c2 (w64 (lim - 1)) s10 s11
   exact ⟨o,o1,o2.up (Nat.le_refl _) fun t ht=>Fin1.trans (k1.trans k2) ht⟩
  ·rw [if_neg h2]
   obtain ⟨o,o1,o2⟩:=znx hrec hd g1 g2 (w64 (lim - 1)) s10 s11
   exact ⟨o,o1,o2.up (Nat.le_refl _) fun t ht=>Fin1.trans k1 ht⟩
theorem z9z {rec:List T→Int→Int→Int→Option (List T)}{l:List T}{a b:Nat} (hrec:RecOk p key (b - a) rec) (h:Dom p key l a b) (lim:Int) :
  ∃ t,slices_pdqsortCmpFunc.body rec p l (a:Int) (b:Int) lim=some t∧Fin1 key l a b t:=by
 unfold slices_pdqsortCmpFunc.body
 rw [z98]
 obtain ⟨o,h1,h2⟩:=z27 (step:=zsf rec p) (fun s=>∃ (a' b':Nat) (y:List T),s.1=(a':Int)∧s.2.1=(b':Int)∧s.2.2.2.2.2=y∧Dom p key y a' b'∧(∀ t,Fin1 key y a' b' t→Fin1 key l a b t)∧b' - a'≤b - a)
  (fun s=>(s.2.1 - s.1).toNat) (fun o=>match o with | .ret r=>Fin1 key l a b r | _=>False)
  (by
   rintro ⟨s1,s2,s3,s10,s11,y0⟩ ⟨a',b',y,e1,e2,e3,hd,ht,hn⟩
   simp only at e1 e2 e3
   subst e1 e2 e3
   have hab:=hd.ab
   obtain ⟨o,o1,o2⟩:=z0l (rec:=rec) (fun l x z lim hx hz=>hrec l x z lim hx (by omega)) hd s3 s10 s11
   refine ⟨o,o1, ?_⟩
   match o,o2 with
   | .next s,⟨a2,b2,y2,f1,f2,f3,g1,g2,g3⟩ =>
    refine ⟨⟨a2,b2,y2,f1,f2,f3,g1,fun t h=>ht t (g2 t h),by omega⟩, ?_⟩
    rw [f1,f2]
    simp only
    omega
   | .ret r,g=>exact ht r g)
  ((a:Int),(b:Int),lim,true,true,l) ⟨a,b,l,rfl,rfl,rfl,h,fun t h=>h,Nat.le_refl _⟩
 rw [h1]
 match o,h2 with
 | .ret r,g=>exact ⟨r,rfl,g⟩
theorem zzu {l t u:List T}{a b:Nat} (h:(l.map key).Nodup) (hb:b≤l.length) (h1:Fin1 key l a b t) (h2:Fin1 key l a b u):t=u:=by
 have hs:Seg t u a b:=⟨h2.1.perm.trans h1.1.perm.symm,fun i hi=>(h2.1.out i hi).trans (h1.1.out i hi).symm⟩
 have hlt:=h1.1.len
 have hlu:=h2.1.len
 have nt:(t.map key).Nodup:=((h1.1.perm.map key).nodup_iff).2 h
 have nu:(u.map key).Nodup:=((h2.1.perm.map key).nodup_iff).2 h
 have hinj:∀ (v:List T),(v.map key).Nodup→∀ x∈v,∀ y∈v,key x=key y→x=y:=by
  intro v hv x hx y hy e
  obtain ⟨i,hi⟩:=List.getElem?_of_mem hx
  obtain ⟨j,hj⟩:=List.getElem?_of_mem hy
  by_cases hij:i=j
  ·subst hij;rw [hi] at hj;exact Option.some.inj hj
  ·have:=zoy hv (List.getElem?_eq_some_iff.1 hi).1 (List.getElem?_eq_some_iff.1 hj).1 hij
   rw [zbq hi,zbq hj] at this
   exact absurd e this
 have place:∀ (n i:Nat),i<n→i<t.length→t[i]?=u[i]?:=by
  intro n
  induction n with
  | zero=>intro i h;omega
  | succ n ih =>
   intro i hi hil
   by_cases hin:i<n
   ·exact ih i hin hil
   by_cases hr:i<a∨b≤i
   ·exact ((hs.out i hr)).symm
   obtain ⟨x,hx⟩:=zce (l:=t) (i:=i) hil
   obtain ⟨y,hy⟩:=zce (l:=u) (i:=i) (by omega)
   have find:∀ (v w:List T),Seg v w a b→(w.map key).Nodup→v.length=t.length→w.length=t.length→(∀ k,k<i→v[k]?=w[k]?)→Asc key v a b→∀ x y,v[i]?=some x→w[i]?=some y→key x≤key y:=by
    intro v w hvw hnw hv hw hbelow hasc x y hx hy
    have hy':y∈(w.take b).drop a:=List.mem_of_getElem? (i:=i - a) (by rw [zr0 (by omega) (by omega)];exact hy)
    have hm:=(hvw.mid (by omega) (by omega)).mem_iff.1 hy'
    obtain ⟨k,hk⟩:=List.getElem?_of_mem hm
    have hk2:k<b - a:=by
     have:=(List.getElem?_eq_some_iff.1 hk).1
     simp only [List.length_drop,List.length_take] at this
     omega
    have hk3:v[a+k]?=some y:=by
     have:=zr0 (l:=v) (a:=a) (b:=b) (i:=a+k) (by omega) (by omega)
     rw [← this,show a+k - a=k by omega];exact hk
    by_cases hki:a+k<i
    ·have:=hbelow (a+k) hki
     rw [hk3] at this
     have h5:=zoy hnw (i:=a+k) (j:=i) (by omega) (by omega) (by omega)
     rw [zbq this.symm,zbq hy] at h5
     exact absurd rfl h5
    ·by_cases hki2:a+k=i
     ·rw [hki2,hx] at hk3
      rw [Option.some.inj hk3];exact Int.le_refl _
     ·have:=hasc i (a+k) (by omega) (by omega) (by omega)
      rw [zbq hx,zbq hk3] at this
      exact this
   have hs':Seg u t a b:=⟨hs.perm.symm,fun i hi=>(hs.out i hi).symm⟩
   have q1:=find t u hs nu rfl (by omega) (fun k hk=>ih k (by omega) (by omega)) h1.2 x y hx hy
   have q2:=find u t hs' nt (by omega) rfl (fun k hk=>(ih k (by omega) (by omega)).symm) h2.2 y x hy hx
   have hxy:=hinj t nt x (List.mem_of_getElem? hx) y ((hs.perm.mem_iff).1 (List.mem_of_getElem? hy)) (by omega)
   rw [hx,hy,hxy]
 apply List.ext_getElem?
 intro i
 by_cases hi:i<t.length
 ·exact place (i+1) i (by omega) hi
 ·rw [List.getElem?_eq_none (by omega),List.getElem?_eq_none (by omega)]
theorem z2f (p4:T→T→Option Int) (x0:List T) (x1 x2 x3:Int) (r:List T) (h:pdqS p4 x0 x1 x2 x3=some r) :
  slices_pdqsortCmpFunc.body (fun x0' x1' x2' x3'=>if zmf x0' x1' x2' x3'<zmf x0 x1 x2 x3 then pdqS p4 x0' x1' x2' x3' else none) p4 x0 x1 x2 x3=some r:=by
 unfold pdqS at h
 split at h
 ·rename_i hex
  obtain ⟨t,key,g1,g2,hd,ht⟩:=hex
  obtain ⟨a,rfl⟩:∃ a:Nat,x1=a:=⟨x1.toNat,by omega⟩
  obtain ⟨b,rfl⟩:∃ b:Nat,x2=b:=⟨x2.toNat,by omega⟩
  simp only [Int.toNat_natCast] at hd ht
  obtain ⟨t1,e1,k1⟩:=zs1 hd x3
  have hr:t1=r:=by
   unfold pdqS at e1
   rw [dif_pos ⟨t,key,g1,g2,by simpa using hd,by simpa using ht⟩] at e1
   exact (Option.some.inj e1).symm.trans (Option.some.inj h)
  subst hr
  obtain ⟨t2,e2,k2⟩:=z9z (rec:=fun x0' x1' x2' x3'=>if zmf x0' x1' x2' x3'<zmf x0 (a:Int) (b:Int) x3 then pdqS p4 x0' x1' x2' x3' else none) (key:=key) (p:=p4)
   (fun l a' b' lim hdom hlt=>by
    obtain ⟨t,q1,q2⟩:=zs1 hdom lim
    refine ⟨t, ?_,q2⟩
    have hab:=hdom.ab
    show (if zmf l (a':Int) (b':Int) lim<zmf x0 (a:Int) (b:Int) x3 then pdqS p4 l (a':Int) (b':Int) lim else none)=some t
    rw [if_pos (by unfold zmf;omega)]
    exact q1) hd x3
  rw [e2,zzu hd.nodup hd.bl k2 k1]
 ·cases h
theorem z8a {l:List T} (hk:Keyed p key l) (hn:(l.map key).Nodup) (hl:l.length<65536) (lim:Int) :
  ∃ t,pdqS p l (0:Int) (l.length:Int) lim=some t∧t.Perm l∧t.Pairwise (fun x y=>key x<key y):=by
 have hd:Dom p key l 0 l.length:=⟨hk,hn,by omega,Nat.le_refl _,hl,fun h=>by omega⟩
 obtain ⟨t,e,h1,h2⟩:=zs1 hd lim
 refine ⟨t,e,h1.perm, ?_⟩
 have nt:(t.map key).Nodup:=((h1.perm.map key).nodup_iff).2 hn
 rw [List.pairwise_iff_getElem]
 intro i j hi hj hij
 have g1:=h2 i j (by omega) hij (by have:=h1.len;omega)
 have g2:=zoy nt hi hj (by omega)
 rw [zbq (List.getElem?_eq_getElem hi),zbq (List.getElem?_eq_getElem hj)] at g1 g2
 omega
end
end Xr

namespace Xr
open Go Go.Ev
set_option linter.unusedVariables false
section
variable {T : Type}
def SwR (l y:List T) (a b n:Nat):Prop:=∀ k,y[k]?=if a≤k∧k<a+n then l[b+(k - a)]? else if b≤k∧k<b+n then l[a+(k - b)]? else l[k]?
def Rot (l y:List T) (lo m hi:Nat):Prop:=∀ k,y[k]?=if k<lo∨hi≤k then l[k]? else if k<lo+(hi - m) then l[m+(k - lo)]? else l[lo+(k - (lo+(hi - m)))]?
theorem SwR.zero (l:List T) (a b:Nat):SwR l l a b 0:=by
 intro k
 rw [if_neg (by omega),if_neg (by omega)]
theorem SwR.step {l y:List T}{a b n:Nat} (h:SwR l y a b n) (hab:a+n<b) {u v:T} (hu:y[a+n]?=some u) (hv:y[b+n]?=some v):SwR l ((y.set (a+n) v).set (b+n) u) a b (n+1):=by
 intro k
 have hu':l[a+n]?=some u:=by rw [← hu,h (a+n),if_neg (by omega),if_neg (by omega)]
 have hv':l[b+n]?=some v:=by rw [← hv,h (b+n),if_neg (by omega),if_neg (by omega)]
 rw [zgx hu hv]
 by_cases h1:k=b+n
 ·subst h1
  rw [if_pos rfl,if_neg (by omega),if_pos (by omega),show a+(b+n - b)=a+n from by omega,hu']
 ·rw [if_neg h1]
  by_cases h2:k=a+n
  ·subst h2
   rw [if_pos rfl,if_pos (by omega),show b+(a+n - a)=b+n from by omega,hv']
  ·rw [if_neg h2,h k]
   by_cases h3:a≤k∧k<a+n
   ·rw [if_pos h3,if_pos (by omega)]
   ·rw [if_neg h3]
    by_cases h4:b≤k∧k<b+n
    ·rw [if_pos h4,if_neg (by omega),if_pos (by omega)]
    ·rw [if_neg h4,if_neg (by omega),if_neg (by omega)]
theorem Rot.more {l y z:List T}{m i j:Nat} (hi:i≤m) (hij:j<i) (h:SwR l y (m - i) m j) (k:Rot y z (m - (i - j)) m (m+j)):Rot l z (m - i) m (m+j):=by
 intro q
 rw [k q]
 by_cases h1:q<m - i∨m+j≤q
 ·rw [if_pos h1,if_pos (by omega),h q,if_neg (by omega),if_neg (by omega)]
 ·rw [if_neg h1]
  by_cases h2:q<m - (i - j)
  ·rw [if_pos (by omega),if_pos (by omega),h q,if_pos (by omega)]
  ·rw [if_neg (by omega)]
   by_cases h3:q<m - (i - j)+(m+j - m)
   ·rw [if_pos h3,if_neg (by omega),h,if_neg (by omega),if_pos (by omega)]
    congr 1;omega
   ·rw [if_neg h3,if_neg (by omega),h,if_neg (by omega),if_neg (by omega)]
    congr 1;omega
theorem Rot.less {l y z:List T}{m i j:Nat} (hi:i≤m) (hij:i<j) (h:SwR l y (m - i) (m+j - i) i) (k:Rot y z (m - i) m (m+(j - i))):Rot l z (m - i) m (m+j):=by
 intro q
 rw [k q]
 by_cases h1:q<m - i∨m+j≤q
 ·rw [if_pos h1,if_pos (by omega),h q,if_neg (by omega),if_neg (by omega)]
 ·rw [if_neg h1]
  by_cases h2:m+(j - i)≤q
  ·rw [if_pos (by omega),if_neg (by omega),h q,if_neg (by omega),if_pos (by omega)]
   congr 1;omega
  ·rw [if_neg (by omega)]
   by_cases h3:q<m - i+(m+(j - i) - m)
   ·rw [if_pos h3,if_pos (by omega),h,if_neg (by omega),if_neg (by omega)]
   ·rw [if_neg h3,if_pos (by omega),h,if_pos (by omega)]
    congr 1;omega
theorem Rot.same {l y:List T}{m i:Nat} (hi:i≤m) (h:SwR l y (m - i) m i):Rot l y (m - i) m (m+i):=by
 intro q
 rw [h q]
 by_cases h1:q<m - i∨m+i≤q
 ·rw [if_pos h1,if_neg (by omega),if_neg (by omega)]
 ·rw [if_neg h1]
  by_cases h2:q<m
  ·rw [if_pos (by omega),if_pos (by omega)]
  ·rw [if_neg (by omega),if_pos (by omega),if_neg (by omega)]
   congr 1;omega
end
section
variable {T : Type} {key rk : T → Int}
def Cross (rk:T→Int) (l:List T) (a m b:Nat):Prop:=∀ i j,a≤i→i<m→m≤j→j<b→ka rk l i<ka rk l j
theorem zit {l y:List T}{i j:Nat} (h:y[i]?=l[j]?):ka key y i=ka key l j:=by unfold ka;rw [h]
theorem Asc.of {l y:List T}{a b:Nat} (h:Asc key l a b) (e:∀ k,a≤k→k<b→y[k]?=l[k]?):Asc key y a b:=by
 intro i j hi hij hj
 rw [zit (e i hi (by omega)),zit (e j (by omega) hj)]
 exact h i j hi hij hj
structure Half (key rk:T→Int) (y:List T) (a s mid e b:Nat):Prop where
 a1:Asc key y a s
 a2:Asc key y s mid
 a3:Asc key y mid e
 a4:Asc key y e b
 c1:Cross rk y a s mid
 c2:Cross rk y mid e b
 lo:∀ i j,a≤i→i<mid→mid≤j→j<b→ka key y i≤ka key y j
theorem zo9 {l y:List T}{a m b s e mid:Nat} (hl:Asc key l a m) (hr:Asc key l m b) (hc:Cross rk l a m b) (has:a≤s) (hsm:s≤m) (hme:m≤e) (heb:e≤b) (hmid:mid=s+(e - m)) (hmid2:a≤mid) (hmid3:mid≤b)
  (h1:a<s→e<b→ka key l (s - 1)≤ka key l e) (h2:s<m→m<e→ka key l (e - 1)≤ka key l s) (h:Rot l y s m e):Half key rk y a s mid e b:=by
 have g0:∀ {f:T→Int} k,k<s→ka f y k=ka f l k:=fun k hk=>zit (by rw [h k,if_pos (Or.inl hk)])
 have g1:∀ {f:T→Int} k,s≤k→k<mid→ka f y k=ka f l (m+(k - s)):=fun k h1 h2=>zit (by rw [h k,if_neg (by omega),if_pos (by omega)])
 have g2:∀ {f:T→Int} k,mid≤k→k<e→ka f y k=ka f l (s+(k - mid)):=fun k h1 h2=>zit (by rw [h k,if_neg (by omega),if_neg (by omega),show s+(e - m)=mid from hmid.symm])
 have g3:∀ {f:T→Int} k,e≤k→ka f y k=ka f l k:=fun k hk=>zit (by rw [h k,if_pos (Or.inr hk)])
 have le:∀ {u v:Nat},(u=v∨(a≤u∧u<v∧v<m)∨(m≤u∧u<v∧v<b))→ka key l u≤ka key l v:=by
  intro u v hu
  rcases hu with hu | hu | hu
  ·rw [hu];omega
  ·exact hl u v hu.1 hu.2.1 hu.2.2
  ·exact hr u v hu.1 hu.2.1 hu.2.2
 refine ⟨fun i j hi hij hj=>?_,fun i j hi hij hj=>?_,fun i j hi hij hj=>?_,fun i j hi hij hj=>?_,fun i j hi hi' hj hj'=>?_,fun i j hi hi' hj hj'=>?_,fun i j hi hi' hj hj'=>?_⟩
 ·rw [g0 i (by omega),g0 j (by omega)];exact le (by omega)
 ·rw [g1 i (by omega) (by omega),g1 j (by omega) (by omega)];exact le (by omega)
 ·rw [g2 i (by omega) (by omega),g2 j (by omega) (by omega)];exact le (by omega)
 ·rw [g3 i (by omega),g3 j (by omega)];exact le (by omega)
 ·rw [g0 i (by omega),g1 j (by omega) (by omega)];exact hc _ _ (by omega) (by omega) (by omega) (by omega)
 ·rw [g2 i (by omega) (by omega),g3 j (by omega)];exact hc _ _ (by omega) (by omega) (by omega) (by omega)
 ·by_cases hi1:i<s
  ·rw [g0 i hi1]
   by_cases hj1:j<e
   ·rw [g2 j hj hj1];exact le (by omega)
   ·rw [g3 j (by omega)]
    have a1:ka key l i≤ka key l (s - 1):=le (by omega)
    have a2:ka key l e≤ka key l j:=le (by omega)
    have a3:=h1 (by omega) (by omega)
    omega
  ·rw [g1 i (by omega) hi']
   by_cases hj1:j<e
   ·rw [g2 j hj hj1]
    have a1:ka key l (m+(i - s))≤ka key l (e - 1):=le (by omega)
    have a2:ka key l s≤ka key l (s+(j - mid)):=le (by omega)
    have a3:=h2 (by omega) (by omega)
    omega
   ·rw [g3 j (by omega)];exact le (by omega)
theorem Cross.of {l y:List T}{a m b:Nat} (h:Cross rk l a m b) (e:∀ k,a≤k→k<b→y[k]?=l[k]?):Cross rk y a m b:=by
 intro i j h1 h2 h3 h4
 rw [zit (e i h1 (by omega)),zit (e j (by omega) h4)]
 exact h i j h1 h2 h3 h4
theorem zsa {y z w:List T}{a mid b:Nat} (hy:b≤y.length) (ham:a≤mid) (hmb:mid≤b) (hlo:∀ i j,a≤i→i<mid→mid≤j→j<b→ka key y i≤ka key y j)
  (h1:Seg y z a mid) (h1':Asc key z a mid) (h2:Seg z w mid b) (h2':Asc key w mid b):Asc key w a b:=by
 have z1:∀ j,mid≤j→ka key z j=ka key y j:=fun j hj=>zit (h1.out j (Or.inr hj))
 have w1:∀ i,i<mid→ka key w i=ka key z i:=fun i hi=>zit (h2.out i (Or.inl hi))
 have zl:=h1.len
 have k1:∀ i j,a≤i→i<mid→mid≤j→j<b→ka key z i≤ka key z j:=by
  intro i j hi hi' hj hj'
  rw [z1 j hj]
  exact h1.all ham (by omega) (Q:=fun q=>q≤ka key y j) (fun i hi hi'=>hlo i j hi hi' hj hj') i hi hi'
 intro i j hi hij hj
 by_cases h3:j<mid
 ·rw [w1 i (by omega),w1 j h3];exact h1' i j hi hij h3
 ·by_cases h4:mid≤i
  ·exact h2' i j h4 hij hj
  ·rw [w1 i (by omega)]
   exact h2.all hmb (by omega) (Q:=fun q=>ka key z i≤q) (fun j hj hj'=>k1 i j hi (by omega) hj hj') j (by omega) hj
end
end Xr

namespace Xr
open Go Go.Ev
set_option linter.unusedVariables false
set_option linter.unusedSimpArgs false
section
variable {T : Type} (lt : T → T → Option Bool)
def gLess (i j:Int) (y:List T):Option Bool:=(rd y i).bind fun u=>(rd y j).bind fun v=>lt u v
noncomputable def gIns1 (s1:Int):(Int×List T)→Option (Out (Int×List T) (List T)):=fun (s7,y2) =>
 if s1<s7 then
  (gLess lt s7 (w64 (s7 - (1:Int))) y2).bind fun r3 =>
  if r3=true then
   (swapL s7 (w64 (s7 - (1:Int))) y2).bind fun r9 =>
   if r9.length=y2.length then
    some (.next (w64 (s7 - (1:Int)),r9))
   else none
  else
   some (.jmp 2 (s7,y2))
 else
  some (.jmp 2 (s7,y2))
noncomputable def gIns0 (s1:Int) (s2:Int):(Int×List T)→Option (Out (Int×List T) (List T)):=fun (s6,y2) =>
 if s6<s2 then
  (iter (gIns1 lt s1) (s6,y2)).bind fun
   | .jmp _ (s7_12,y2_12) =>
    some (.next (w64 (s6+(1:Int)),y2_12))
   | _=>none
 else
  some (.jmp 0 (s6,y2))
noncomputable def gIns (x1 x2:Int) (o:List T):Option (List T) :=
 (iter (gIns0 lt x1 x2) (w64 (x1+(1:Int)),o)).bind fun
  | .jmp _ (s6_14,y2_14)=>some y2_14
  | _=>none
noncomputable def gSwr0 (s1 s2 s3:Int):(Int×List T)→Option (Out (Int×List T) (List T)):=fun (s8,y2) =>
 if s8<s3 then
  (swapL (w64 (s1+s8)) (w64 (s2+s8)) y2).bind fun r9 =>
  if r9.length=y2.length then
   some (.next (w64 (s8+(1:Int)),r9))
  else none
 else
  some (.jmp 0 (s8,y2))
noncomputable def gSwr (x1 x2 x3:Int) (o:List T):Option (List T) :=
 (iter (gSwr0 x1 x2 x3) ((0:Int),o)).bind fun
  | .jmp _ (s8_12,y2_12)=>some y2_12
  | _=>none
noncomputable def gRot0 (s2:Int):(Int×Int×List T)→Option (Out (Int×Int×List T) (List T)):=fun (s8,s9,y2) =>
 if s8=s9 then
  some (.jmp 0 (s8,s9,y2))
 else
  if s9<s8 then
   (gSwr (w64 (s2 - s8)) s2 s9 y2).bind fun r3 =>
   if r3.length=y2.length then
    some (.next (w64 (s8 - s9),s9,r3))
   else none
  else
   (gSwr (w64 (s2 - s8)) (w64 ((w64 (s2+s9)) - s8)) s8 y2).bind fun r7 =>
   if r7.length=y2.length then
    some (.next (s8,w64 (s9 - s8),r7))
   else none
noncomputable def gRot (x1 x2 x3:Int) (o:List T):Option (List T) :=
 (iter (gRot0 x2) (w64 (x2 - x1),w64 (x3 - x2),o)).bind fun
  | .jmp _ (s8_12,s9_12,y2_12) =>
   (gSwr (w64 (x2 - s8_12)) x2 s8_12 y2_12).bind fun r13 =>
   if r13.length=y2_12.length then some r13 else none
  | _=>none
noncomputable def gS0 (s1:Int) (y2:List T):(Int×Int)→Option (Out (Int×Int) (List T)):=fun (s8,s9) =>
 if s8<s9 then
  (shrK .u64 (IntKind.wrap .u64 (w64 (s8+s9))) (1:Int)).bind fun q3 =>
  (gLess lt (IntKind.wrap .i64 q3) s1 y2).bind fun r6 =>
  if r6=true then
   some (.next (w64 ((IntKind.wrap .i64 q3)+(1:Int)),s9))
  else
   some (.next (s8,IntKind.wrap .i64 q3))
 else
  some (.jmp 0 (s8,s9))
noncomputable def gS1 (s8:Int):(Int×List T)→Option (Out (Int×List T) (List T)):=fun (s11,y2) =>
 if s11<(w64 (s8 - (1:Int))) then
  (swapL s11 (w64 (s11+(1:Int))) y2).bind fun r15 =>
  if r15.length=y2.length then
   some (.next (w64 (s11+(1:Int)),r15))
  else none
 else
  some (.jmp 2 (s11,y2))
noncomputable def gS2 (s2:Int) (y2:List T):(Int×Int)→Option (Out (Int×Int) (List T)):=fun (s12,s13) =>
 if s12<s13 then
  (shrK .u64 (IntKind.wrap .u64 (w64 (s12+s13))) (1:Int)).bind fun q21 =>
  (gLess lt s2 (IntKind.wrap .i64 q21) y2).bind fun r24 =>
  if r24=true then
   some (.next (s12,IntKind.wrap .i64 q21))
  else
   some (.next (w64 ((IntKind.wrap .i64 q21)+(1:Int)),s13))
 else
  some (.jmp 4 (s12,s13))
noncomputable def gS3 (s12:Int):(Int×List T)→Option (Out (Int×List T) (List T)):=fun (s15,y2) =>
 if s12<s15 then
  (swapL s15 (w64 (s15 - (1:Int))) y2).bind fun r33 =>
  if r33.length=y2.length then
   some (.next (w64 (s15 - (1:Int)),r33))
  else none
 else
  some (.jmp 6 (s15,y2))
noncomputable def gS4 (s20:Int) (y2:List T):(Int×Int)→Option (Out (Int×Int) (List T)):=fun (s18,s19) =>
 if s18<s19 then
  (shrK .u64 (IntKind.wrap .u64 (w64 (s18+s19))) (1:Int)).bind fun q130 =>
  (gLess lt (w64 (s20 - (IntKind.wrap .i64 q130))) (IntKind.wrap .i64 q130) y2).bind fun r133 =>
  if r133=true then
   some (.next (s18,IntKind.wrap .i64 q130))
  else
   some (.next (w64 ((IntKind.wrap .i64 q130)+(1:Int)),s19))
 else
  some (.jmp 8 (s18,s19))
noncomputable def zrz (rec:Int→Int→Int→List T→Option (List T)) (x3 mid e:Int) (y:List T):Option (List T) :=
 if mid<e then if e<x3 then (rec mid e x3 y).bind fun r=>if r.length=y.length then some r else none else some y else some y
noncomputable def zra (rec:Int→Int→Int→List T→Option (List T)) (x1 x3 mid s e:Int) (y:List T):Option (List T) :=
 if x1<s then if s<mid then (rec x1 s mid y).bind fun r=>if r.length=y.length then zrz rec x3 mid e r else none else zrz rec x3 mid e y else zrz rec x3 mid e y
noncomputable def zri (rec:Int→Int→Int→List T→Option (List T)) (x1 x2 x3 mid s e:Int) (y:List T):Option (List T) :=
 if s<x2 then if x2<e then (gRot s x2 e y).bind fun r=>if r.length=y.length then zra rec x1 x3 mid s e r else none else zra rec x1 x3 mid s e y else zra rec x1 x3 mid s e y
noncomputable def gSym (rec:Int→Int→Int→List T→Option (List T)) (x1 x2 x3:Int) (o:List T):Option (List T) :=
 if (w64 (x2 - x1))=(1:Int) then
  (iter (gS0 lt x1 o) (x2,x3)).bind fun
   | .jmp _ (s8_11,s9_11) =>
    (iter (gS1 s8_11) (x1,o)).bind fun
     | .jmp _ (s11_18,y2_18)=>some y2_18
     | _=>none
   | _=>none
 else
  if (w64 (x3 - x2))=(1:Int) then
   (iter (gS2 lt x2 o) (x1,x2)).bind fun
    | .jmp _ (s12_29,s13_29) =>
     (iter (gS3 s12_29) (x2,o)).bind fun
      | .jmp _ (s15_36,y2_36)=>some y2_36
      | _=>none
    | _=>none
  else
   (shrK .u64 (IntKind.wrap .u64 (w64 (x1+x3))) (1:Int)).bind fun q37 =>
   if (IntKind.wrap .i64 q37)<x2 then
    (iter (gS4 lt (w64 ((w64 ((IntKind.wrap .i64 q37)+x2)) - (1:Int))) o) (w64 ((w64 ((IntKind.wrap .i64 q37)+x2)) - x3),IntKind.wrap .i64 q37)).bind fun
     | .jmp _ (s18_50,s19_50)=>zri rec x1 x2 x3 (IntKind.wrap .i64 q37) s18_50 (w64 ((w64 ((IntKind.wrap .i64 q37)+x2)) - s18_50)) o
     | _=>none
   else
    (iter (gS4 lt (w64 ((w64 ((IntKind.wrap .i64 q37)+x2)) - (1:Int))) o) (x1,x2)).bind fun
     | .jmp _ (s18_50,s19_50)=>zri rec x1 x2 x3 (IntKind.wrap .i64 q37) s18_50 (w64 ((w64 ((IntKind.wrap .i64 q37)+x2)) - s18_50)) o
     | _=>none
end
section
variable {T : Type} (lt : T → T → Option Bool) (sym : Int → Int → Int → List T → Option (List T))
noncomputable def gSt2 (s1:Int) (s4:Int):(Int×Int×List T)→Option (Out (Int×Int×List T) (List T)):=fun (s5,s6,y2) =>
 if s6≤s1 then
  (sym s5 (w64 (s5+s4)) s6 y2).bind fun r14 =>
  if r14.length=y2.length then
   some (.next (s6,w64 (s6+(w64 ((2:Int)*s4))),r14))
  else none
 else
  some (.jmp 4 (s5,s6,y2))
noncomputable def gSt1 (s1:Int):(Int×List T)→Option (Out (Int×List T) (List T)):=fun (s4,y2) =>
 if s4<s1 then
  (iter (gSt2 sym s1 s4) ((0:Int),w64 ((2:Int)*s4),y2)).bind fun
   | .jmp _ (s5_19,s6_19,y2_19) =>
    if (w64 (s5_19+s4))<s1 then
     (sym s5_19 (w64 (s5_19+s4)) s1 y2_19).bind fun r21 =>
     if r21.length=y2_19.length then
      some (.next (w64 (s4*(2:Int)),r21))
     else none
    else
     some (.next (w64 (s4*(2:Int)),y2_19))
   | _=>none
 else
  some (.jmp 2 (s4,y2))
noncomputable def gSt0 (s1:Int) (s4:Int):(Int×Int×List T)→Option (Out (Int×Int×List T) (List T)):=fun (s5,s6,y2) =>
 if s6≤s1 then
  (gIns lt s5 s6 y2).bind fun r2 =>
  if r2.length=y2.length then
   some (.next (s6,w64 (s6+s4),r2))
  else none
 else
  some (.jmp 0 (s5,s6,y2))
noncomputable def gStab (x1:Int) (o:List T):Option (List T) :=
 (iter (gSt0 lt x1 (20:Int)) ((0:Int),(20:Int),o)).bind fun
  | .jmp _ (s5_7,s6_7,y2_7) =>
   (gIns lt s5_7 x1 y2_7).bind fun r8 =>
   if r8.length=y2_7.length then
    (iter (gSt1 sym x1) ((20:Int),r8)).bind fun
     | .jmp _ (s4_26,y2_26)=>some y2_26
     | _=>none
   else none
  | _=>none
end
end Xr

