/- A part of the proof: O. No conditions of its own. -/
import Derived.Test.YtcpenhffpgajoaaE4
import Derived.Test.YtcpenhffpgajoaaP1
namespace Xr
open Go Go.Ev Go.Proofs
section
variable {w : World} {H : Type} {enc : TypeId × Value → H}
theorem yjt:∀ fuel,Opens enc Try.prog w fuel 3 (wfInt .i64) (fun x=>[.v (.int .i64 x)]):=fun _=>Opens.int Try.underlying3
theorem ya7:∀ fuel,Opens enc Try.prog w fuel 9 (wfStr) (fun x=>[.v (.string x)]):=fun _=>Opens.string Try.underlying9
theorem ycj:∀ fuel,Opens enc Try.prog w fuel 22 (WfL 16 wfStr) (fun x=>[.lst false x.length (x.flatMap (fun x=>[.v (.string x)]))]):=fun fuel=>Opens.sliceLt Try.underlying22 (sz:=1) (b:=16) (by kernel_rfl) (by kernel_rfl) (by decide) fun f _=>ya7 f
theorem open_25:∀ fuel,Opens enc Try.prog w fuel 25 (Wf_Node) en_Node:=by
 intro fuel
 induction fuel using Nat.strongRecOn with
 | ind fuel ih =>
  cases fuel with
  | zero=>exact Opens.zero
  | succ fuel =>
   refine Opens.struct Try.underlying25 (n:=1+(1+(1+(1+0)))) (wf:=fun (x:Int×ByteArray×(List ByteArray)×(List Node)×Unit)=>(wfInt .i64) x.1∧((wfStr) x.2.1∧((WfL 16 wfStr) x.2.2.1∧((WfL 72 Wf_Node) x.2.2.2.1∧True)))) (e:=fun (x:Int×ByteArray×(List ByteArray)×(List Node)×Unit)=>((fun x=>[.v (.int .i64 x)])) x.1++(((fun x=>[.v (.string x)])) x.2.1++(((fun x=>[.lst false x.length (x.flatMap (fun x=>[.v (.string x)]))])) x.2.2.1++(((fun x=>[.lst false x.length (x.flatMap en_Node)])) x.2.2.2.1++[])))) (by kernel_rfl) ?_ (fun x=>(⟨x.1,x.2.1,x.2.2.1,x.2.2.2.1⟩:Node)) (fun x h=>.mk _ _ _ _ h.1 h.2.1 h.2.2.1 h.2.2.2.1.1 h.2.2.2.1.2) (fun x=>(zeg _).trans rfl)
   refine OpensF.cons (wa:=wfInt .i64) (ea:=(fun x=>[.v (.int .i64 x)])) (wb:=fun (x:ByteArray×(List ByteArray)×(List Node)×Unit)=>(wfStr) x.1∧((WfL 16 wfStr) x.2.1∧((WfL 72 Wf_Node) x.2.2.1∧True))) (eb:=fun (x:ByteArray×(List ByteArray)×(List Node)×Unit)=>((fun x=>[.v (.string x)])) x.1++(((fun x=>[.lst false x.length (x.flatMap (fun x=>[.v (.string x)]))])) x.2.1++(((fun x=>[.lst false x.length (x.flatMap en_Node)])) x.2.2.1++[]))) ?_ ?_ ?_ ?_
   ·rfl
   ·kernel_rfl
   ·exact (yjt fuel)
   refine OpensF.cons (wa:=wfStr) (ea:=(fun x=>[.v (.string x)])) (wb:=fun (x:(List ByteArray)×(List Node)×Unit)=>(WfL 16 wfStr) x.1∧((WfL 72 Wf_Node) x.2.1∧True)) (eb:=fun (x:(List ByteArray)×(List Node)×Unit)=>((fun x=>[.lst false x.length (x.flatMap (fun x=>[.v (.string x)]))])) x.1++(((fun x=>[.lst false x.length (x.flatMap en_Node)])) x.2.1++[])) ?_ ?_ ?_ ?_
   ·rfl
   ·kernel_rfl
   ·exact (ya7 fuel)
   refine OpensF.cons (wa:=WfL 16 wfStr) (ea:=(fun x=>[.lst false x.length (x.flatMap (fun x=>[.v (.string x)]))])) (wb:=fun (x:(List Node)×Unit)=>(WfL 72 Wf_Node) x.1∧True) (eb:=fun (x:(List Node)×Unit)=>((fun x=>[.lst false x.length (x.flatMap en_Node)])) x.1++[]) ?_ ?_ ?_ ?_
   ·rfl
   ·kernel_rfl
   ·exact (ycj fuel)
   refine OpensF.cons (wa:=WfL 72 Wf_Node) (ea:=(fun x=>[.lst false x.length (x.flatMap en_Node)])) (wb:=fun (x:Unit)=>True) (eb:=fun (x:Unit)=>[]) ?_ ?_ ?_ ?_
   ·rfl
   ·kernel_rfl
   ·exact (Opens.sliceLt Try.underlying23 (sz:=4) (b:=72) (by kernel_rfl) (by kernel_rfl) (by decide) fun f hf=>ih f (by omega))
   exact OpensF.nil
theorem law5 (plain:∀ (x0:Node) (_:Wf_Node x0) (x1:Node) (_:Wf_Node x1),zgm x0 x1=some true) (x0:Node) (w0:Wf_Node x0) (x1:Node) (w1:Wf_Node x1):callW Try.prog A0 5 ([.agg (en_Node x0),.agg (en_Node x1)].map .p) []=some (bv true,[]):=by
 simp only [List.map_cons,List.map_nil]
 rw [zeg x0,zeg x1];exact f5_ok x0 x1 true (plain x0 w0 x1 w1)
end
end Xr

