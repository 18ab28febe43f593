/- A part of the proof: E2. No conditions of its own. -/
import Derived.Test.YtcpenhffpgajoaaE1
set_option linter.unusedVariables false
set_option linter.unusedSimpArgs false
namespace Go.Ev
section
variable {P : Program} {X M : Nat → Prop} {w : World} {H : List Ob} {ρ : Pl}
theorem zow:∀ {vs:List Value}{ds:List Dv}{us:List Value},vs.length=ds.length→(∀ j (h1:j<vs.length) (h2:j<ds.length),RepD w M H ρ vs[j] ds[j])→concL ds=some us→vs=us
 | [],[],us,_,_,h=>by simp only [concL,Option.some.injEq] at h;exact h
 | v :: vs,d :: ds,us,hl,hr,h=>by
  simp only [concL] at h
  split at h
  ·rename_i x xs h1 h2
   simp only [Option.some.injEq] at h
   subst h
   have e1:=zha (hr 0 (by simp) (by simp)) h1
   have e2:=zow (by simpa using hl) (fun j h3 h4=>hr (j+1) (by simpa using h3) (by simpa using h4)) h2
   simp only [List.getElem_cons_zero] at e1
   rw [e1,e2]
  ·cases h
 | [],_ :: _,_,hl,_,_=>by simp at hl
 | _ :: _,[],_,hl,_,_=>by simp at hl
theorem zwl [Gl] {a:Act}{tm:List Dv} (hg:GlobOk w M) (ht:TOk w M H ρ a.tmps tm) (l:Array Operand):TOk w M H ρ (l.map a.eval) (l.toList.map (evalO tm)):=by
 refine ⟨by simp,fun j hj=>?_⟩
 simp only [List.length_map,Array.length_toList] at hj
 have e1:(l.map a.eval).getD j undef=a.eval l[j]:=by simp [hj]
 have e2:(l.toList.map (evalO tm))[j]'(by simpa using hj)=evalO tm l[j]:=by simp
 rw [e1,e2]
 exact zox hg ht _
theorem TOk.append {vs1 vs2:Array Value}{ds1 ds2:List Dv} (h1:TOk w M H ρ vs1 ds1) (h2:TOk w M H ρ vs2 ds2):TOk w M H ρ (vs1++vs2) (ds1++ds2):=by
 refine ⟨by simp [h1.1,h2.1],fun j hj=>?_⟩
 simp only [List.length_append] at hj
 by_cases hj1:j<ds1.length
 ·have e:(vs1++vs2).getD j undef=vs1.getD j undef:=by
   rw [Array.getD_eq_getD_getElem?,Array.getD_eq_getD_getElem?,Array.getElem?_append_left (by rw [h1.1];exact hj1)]
  rw [e,List.getElem_append_left hj1]
  exact h1.2 j hj1
 ·have e:(vs1++vs2).getD j undef=vs2.getD (j - ds1.length) undef:=by
   rw [Array.getD_eq_getD_getElem?,Array.getD_eq_getD_getElem?,Array.getElem?_append_right (by rw [h1.1];omega),h1.1]
  rw [e,List.getElem_append_right (by omega)]
  exact h2.2 (j - ds1.length) (by omega)
theorem zxi [Gl] {a:Act}{tm:List Dv} (hg:GlobOk w M) (ht:TOk w M H ρ a.tmps tm) (parts:Array (Nat×Operand)) {pv:Array (Nat×Value)}{pd:List (Nat×Dv)}
  (e1:pv=parts.map fun (i,x)=>(i,a.eval x)) (e2:pd=parts.toList.map fun (i,x)=>(i,evalO tm x)) :
  pv.size=pd.length∧∀ j (h1:j<pv.size) (h2:j<pd.length),(pv[j]).1=(pd[j]).1∧RepD w M H ρ (pv[j]).2 (pd[j]).2:=by
 subst e1;subst e2
 refine ⟨by simp,fun j h1 h2=>?_⟩
 simp only [Array.getElem_map,List.getElem_map,Array.getElem_toList,true_and]
 exact zox hg ht _
theorem ydj {v:Value}{cs:List Pv} (h:RepP w M v (.tup cs)):∃ vs,v=.tuple vs∧vs.size=cs.length∧∀ j (h:j<cs.length),RepP w M (vs.getD j undef) cs[j]:=by
 cases h with
 | tup vs _ hl hr=>exact ⟨vs,rfl,hl,hr⟩
theorem z6h {v:Value}{cs:List Dv} (h:RepD w M H ρ v (.tup cs)):∃ vs,v=.tuple vs∧vs.size=cs.length∧∀ j (h:j<cs.length),RepD w M H ρ (vs.getD j undef) cs[j]:=by
 cases h with
 | tup vs _ hl hr=>exact ⟨vs,rfl,hl,hr⟩
theorem yan {v:Value}{f:Fn}{cs:List Pv} (h:RepP w M v (.fn f cs)):∃ vs,v=.func f #[] vs∧TOk w M H ρ vs (cs.map .p):=by
 cases h with
 | fn _ vs _ hl hr =>
  refine ⟨vs,rfl,by simpa using hl,fun j hj=>?_⟩
  simp only [List.length_map] at hj
  simp only [List.getElem_map]
  exact .p _ _ (hr j hj)
theorem z15 {v:Value}{f:Fn}{cs:List Dv} (h:RepD w M H ρ v (.fn f cs)):∃ vs,v=.func f #[] vs∧TOk w M H ρ vs cs:=by
 cases h with
 | fn _ vs _ hl hr=>exact ⟨vs,rfl,hl,hr⟩
def Names (P:Program):Prop:=∀ (g:FuncId) (fn:Func),P.funcs[g]?=some fn→(fn.name == "runtime.NumGoroutine")=false
theorem zx8 {g:FuncId}{args captured:Array Value} (hN:Names P) (hex:∃ fn c,P.funcs[g]?=some fn∧fn.body=some c) (w:World) :
  (invoke (.fn (.func g) captured) args).run P w=.ok (.enter g (args++captured)) w:=by
 obtain ⟨fn,c,h1,h2⟩:=hex
 have h3:fn.name≠"runtime.NumGoroutine":=by simpa using hN g fn h1
 simp [invoke,callFunc,h1,h2,h3]
theorem pb_ {α β:Type} (x:Sem α) (g:α→Sem β):zaq P (x >>= g)=(zaq P x).bind fun a=>zaq P (g a):=by
 induction x with
 | pure a=>rfl
 | program k ih=>exact ih P
 | mark m k ih=>exact ih
 | _=>rfl
theorem zuu {t e:TypeId} (hu:P.underlying t=some (.slice e)) (A:Option Addr) (n cap:Nat) (d:Nat):zaq P (Op.equalIn (d+1) t (.slice A n cap) (.slice none 0 0))=some A.isNone:=by
 have e0:zaq P (underlying t)=some (.slice e):=by
  show zaq P (match P.underlying t with | some d=>pure d | none=>stuck _)=some _
  rw [hu];rfl
 simp only [Op.equalIn,pb_,e0,Option.bind_some]
 cases A<;>rfl
theorem ybo {op:BinOp}{t:TypeId}{xo yo:Operand}{v:Value}{x d:Dv} (hx:RepD w M H ρ v x) (h:nilD P op t x=some d) :
  ∃ r,zaq P (do eqGuard op t xo yo v (.slice none 0 0);binOp op t v (.slice none 0 0))=some r∧d=.p (.v r):=by
 unfold nilD at h
 split at h
 ·rename_i e hu
  have geq:∀ (A:Option Addr) (n cap:Nat),zaq P (do eqGuard .eql t xo yo (.slice A n cap) (.slice none 0 0);binOp .eql t (.slice A n cap) (.slice none 0 0))=some (Value.bool A.isNone):=by
   intro A n cap
   rw [pb_,show zaq P (eqGuard .eql t xo yo (.slice A n cap) (.slice none 0 0))=some () from rfl]
   simp only [Option.bind_some,binOp,pb_,Op.equal,Op.maxDepth,zuu hu]
   rfl
  have gne:∀ (A:Option Addr) (n cap:Nat),zaq P (do eqGuard .neq t xo yo (.slice A n cap) (.slice none 0 0);binOp .neq t (.slice A n cap) (.slice none 0 0))=some (Value.bool (!A.isNone)):=by
   intro A n cap
   rw [pb_,show zaq P (eqGuard .neq t xo yo (.slice A n cap) (.slice none 0 0))=some () from rfl]
   simp only [Option.bind_some,binOp,pb_,Op.equal,Op.maxDepth,zuu hu]
   rfl
  split at h
  ·simp only [Option.some.injEq] at h
   subst h
   obtain ⟨A,cap,us,rfl,_,_,ha,_⟩:=zku hx.toP
   obtain ⟨b,o,rfl,_⟩:=ha (by simp)
   exact ⟨_,geq _ _ _,rfl⟩
  ·simp only [Option.some.injEq] at h
   subst h
   obtain ⟨A,cap,us,rfl,_,_,ha,_⟩:=zku hx.toP
   obtain ⟨b,o,rfl,_⟩:=ha (by simp)
   exact ⟨_,gne _ _ _,rfl⟩
  ·simp only [Option.some.injEq] at h
   subst h
   have:=hx.toP.v_eq
   subst this
   exact ⟨_,geq _ _ _,rfl⟩
  ·simp only [Option.some.injEq] at h
   subst h
   have:=hx.toP.v_eq
   subst this
   exact ⟨_,gne _ _ _,rfl⟩
  ·cases h
 ·cases h
theorem op_ok [Gl] {call:CallF} (hc:zir P call) (hN:Names P) {A:Ann} (hs:Sim X w H ρ) {a:Act}{tm:List Dv} (ht:TOk w (Mut X H ρ) H ρ a.tmps tm) {o:Oper}{d:Dv}{hh:Option (List Ob)}
  (h:opD P A call tm H o=some (d,hh)):OpOk P X w H ρ ((execOp a.eval o).run P w) d (hh.getD H):=by
 obtain ⟨dst,op,type,pos,after,guard⟩:=o
 have ev:=fun x=>zr1 hs ht x
 have n1:∀ {r:Option Dv},(r.map fun d=>(d,(none:Option (List Ob))))=some (d,hh)→r=some d∧hh=none:=by
  intro r hr
  simp only [Option.map_eq_some_iff,Prod.mk.injEq] at hr
  obtain ⟨x,h1,rfl,rfl⟩:=hr
  exact ⟨h1,rfl⟩
 cases op with
 | move x =>
  simp only [opD,Option.some.injEq,Prod.mk.injEq] at h
  obtain ⟨rfl,rfl⟩:=h
  exact .same hs rfl (ev x)
 | assign x =>
  simp only [opD,Option.some.injEq,Prod.mk.injEq] at h
  obtain ⟨rfl,rfl⟩:=h
  exact .same hs rfl (ev x)
 | pick c x y =>
  simp only [opD,Option.map_eq_some_iff,Prod.mk.injEq] at h
  obtain ⟨t,h1,rfl,rfl⟩:=h
  have h2:=zya (ev c) h1
  refine .same (v:=if t then a.eval x else a.eval y) hs (by simp [execOp,h2,asBool]) ?_
  cases t
  ·exact ev y
  ·exact ev x
 | alloc e =>
  simp only [opD,Option.map_eq_some_iff,Prod.mk.injEq] at h
  obtain ⟨cs,h1,rfl,rfl⟩:=h
  obtain ⟨v,w',ρ',h2,h3⟩:=z7r hs h1
  exact .val (by simp [execOp,h2]) h3
 | box e x =>
  simp only [opD,Option.map_eq_some_iff,Prod.mk.injEq] at h
  obtain ⟨ds,h1,rfl,rfl⟩:=h
  obtain ⟨v,w',ρ',h2,h3⟩:=yiz (P:=P) hs (e:=e) (ev x) h1
  exact .val (by simp [execOp,h2]) h3
 | build t parts =>
  obtain ⟨h1,rfl⟩:=n1 h
  simp only [Option.bind_eq_some_iff,Option.map_eq_some_iff] at h1
  obtain ⟨pl,h2,z,h3,rs,h4,rfl⟩:=h1
  obtain ⟨h5,h6⟩:=zxi hs.globs ht parts rfl rfl
  obtain ⟨v,h7,h8⟩:=z95 (P:=P) (w:=w) h2 h3 h5 h6 h4
  exact .same hs (by simp [execOp,h7]) h8
 | buildSlice t len parts =>
  simp only [opD] at h
  split at h
  ·rename_i e hu
   simp only [Option.bind_eq_some_iff] at h
   obtain ⟨sz,h1,z,h2,h⟩:=h
   split at h
   ·cases h
   ·rename_i h3
    simp only [not_or,Decidable.not_not] at h3
    simp only [Option.bind_eq_some_iff,Option.map_eq_some_iff,Prod.mk.injEq] at h
    obtain ⟨ds,h4,⟨cs,l⟩,h5,h6,h7⟩:=h
    simp only [] at h6 h7
    subst h6
    obtain ⟨h8,h9⟩:=zxi hs.globs ht parts rfl rfl
    obtain ⟨v,w',h10,h11'⟩:=zs9 hs hu h1 h2 h3.1 h3.2.1 h3.2.2 h8 h9 h4 h5
    have h11:=h11'.wkE (P:=P) (e:=e)
    have e:hh.getD H=zan H l:=by
     subst h7
     split
     ·rename_i h0
      rw [List.isEmpty_iff.1 h0];rfl
     ·rfl
    rw [e]
    exact .val (by simp [execOp,h10]) h11
  ·cases h
 | load t x =>
  obtain ⟨h1,rfl⟩:=n1 h
  obtain ⟨v,h2,h3⟩:=zo3 hs (ev x) h1
  exact .same hs (by simp [execOp,h2]) h3
 | store t x y =>
  simp only [opD,Option.map_eq_some_iff,Prod.mk.injEq] at h
  obtain ⟨H',h1,rfl,rfl⟩:=h
  obtain ⟨w',h2,h3,h4⟩:=zsw hs (ev x) (ev y) h1
  refine .inl ⟨undef,w',ρ,.inr ⟨by simp [execOp,h2],rfl⟩,h3,h4,.p _ _ (.v _)⟩
 | nilCheck x =>
  simp only [opD] at h
  have hx:=ev x
  generalize hxd:evalO tm x=xd at *
  split at h
  ·simp only [Option.some.injEq,Prod.mk.injEq] at h
   obtain ⟨rfl,rfl⟩:=h
   obtain ⟨b,hb⟩:=zqh hx
   exact .same hs (by simp [execOp,hb]) (hb ▸ hx)
  ·simp only [Option.some.injEq,Prod.mk.injEq] at h
   obtain ⟨rfl,rfl⟩:=h
   obtain ⟨b,hb⟩:=zor hx.toP
   exact .same hs (by simp [execOp,hb]) (hb ▸ hx)
  ·simp only [Option.some.injEq,Prod.mk.injEq] at h
   obtain ⟨rfl,rfl⟩:=h
   obtain ⟨vs,hb,_⟩:=yan (H:=H) (ρ:=ρ) hx.toP
   exact .same hs (by simp [execOp,hb]) (hb ▸ hx)
  ·simp only [Option.some.injEq,Prod.mk.injEq] at h
   obtain ⟨rfl,rfl⟩:=h
   obtain ⟨vs,hb,_⟩:=z15 hx
   exact .same hs (by simp [execOp,hb]) (hb ▸ hx)
  ·cases h
 | binOp op t x y yt =>
  obtain ⟨h1,rfl⟩:=n1 h
  unfold binN at h1
  split at h1
  ·obtain ⟨r,h2,rfl⟩:=ybo (xo:=x) (yo:=.const (.slice none 0 0)) (ev x) h1
   have h3:=zbp w h2
   have e2:a.eval (.const (.slice none 0 0))=.slice none 0 0:=rfl
   exact .same hs (by simp only [execOp,e2,Sem.run_bind,h3,Result.andThen_ok,Sem.run_pure]) (.p _ _ (.v r))
  ·unfold binD at h1
   split at h1
   ·rename_i u v hu hv
    simp only [Option.map_eq_some_iff] at h1
    obtain ⟨r,h2,rfl⟩:=h1
    have e1:=zha (ev x) hu
    have e2:=zha (ev y) hv
    have h3:=zbp w h2
    exact .same hs (by simp only [execOp,e1,e2,Sem.run_bind,h3,Result.andThen_ok,Sem.run_pure]) (.p _ _ (.v r))
   ·cases h1
 | unOp op t x =>
  obtain ⟨h1,rfl⟩:=n1 h
  simp only [Option.bind_eq_some_iff,Option.map_eq_some_iff] at h1
  obtain ⟨u,hu,r,h2,rfl⟩:=h1
  have e1:=zha (ev x) hu
  have h3:=zbp w h2
  exact .same hs (by simp only [execOp,e1,Sem.run_bind,h3,Result.andThen_ok,Sem.run_pure]) (.p _ _ (.v r))
 | convert src dst x =>
  obtain ⟨h1,rfl⟩:=n1 h
  simp only [Option.bind_eq_some_iff,Option.map_eq_some_iff] at h1
  obtain ⟨u,hu,r,h2,rfl⟩:=h1
  have e1:=zha (ev x) hu
  have h3:=zbp w h2
  exact .same hs (by simp only [execOp,e1,Sem.run_bind,h3,Result.andThen_ok,Sem.run_pure]) (.p _ _ (.v r))
 | makeFunc fn first caps =>
  simp only [opD] at h
  split at h
  ·rename_i h0
   obtain ⟨h1,rfl⟩:=n1 h
   simp only [Option.some.injEq] at h1
   subst h1
   have hf:first=#[]:=Array.eq_empty_of_size_eq_zero h0
   exact .same hs (by simp [execOp,Instr.makeFunc,hf]) (RepD.mkFn (zwl hs.globs ht caps))
  ·cases h
 | makeSlice t l c =>
  simp only [opD,Option.map_eq_some_iff,Prod.mk.injEq] at h
  obtain ⟨⟨r,H'⟩,h1,rfl,rfl⟩:=h
  obtain ⟨v,w',ρ',h2,h3⟩:=ybk hs (ev l) (ev c) h1
  exact .val (by simp [execOp,h2]) h3
 | slice t x lo hi mx =>
  simp only [opD] at h
  split at h
  ·cases h
  ·rename_i h0
   obtain ⟨h1,rfl⟩:=n1 h
   obtain ⟨v,h2,h3⟩:=z7g hs ht (by
    intro hm
    cases hi with
    | none=>simp [hm] at h0
    | some _=>rfl) h1
   exact .same hs (by simp only [execOp,Sem.run_bind,h2,Result.andThen_ok,Sem.run_pure]) h3
 | fieldAddr t x i =>
  obtain ⟨h1,rfl⟩:=n1 h
  simp only [Option.bind_eq_some_iff] at h1
  obtain ⟨f,hf,n,hn,h1⟩:=h1
  split at h1
  ·cases h1
  ·rename_i hn0
   have hx:=ev x
   generalize hxd:evalO tm x=xd at *
   split at h1
   ·simp only [Option.some.injEq] at h1
    subst h1
    obtain ⟨b,hb⟩:=zqh hx
    exact .same hs (by simp [execOp,hb,zpn hf hn hn0]) (z17 (hb ▸ hx))
   ·simp only [Option.some.injEq] at h1
    subst h1
    obtain ⟨b,hb⟩:=zor hx.toP
    exact .same hs (by simp [execOp,hb,zpn hf hn hn0]) (.p _ _ (zyn (hb ▸ hx.toP)))
   ·cases h1
 | field t x i =>
  obtain ⟨h1,rfl⟩:=n1 h
  simp only [Option.bind_eq_some_iff] at h1
  obtain ⟨f,hf,h1⟩:=h1
  obtain ⟨vs,hv⟩:=ztr (ev x) h1
  obtain ⟨v,h2,h3⟩:=z3w (w:=w) (hv ▸ ev x) h1
  exact .same hs (by simp [execOp,hv,z48 hf,h2]) h3
 | indexAddr t x ix =>
  obtain ⟨h1,rfl⟩:=n1 h
  obtain ⟨v,h2,h3⟩:=zt8 (ev x) (ev ix) h1
  exact .same hs (by simp [execOp,h2]) h3
 | index t x ix =>
  obtain ⟨h1,rfl⟩:=n1 h
  split at h1
  ·simp only [Option.bind_eq_some_iff,Option.map_eq_some_iff] at h1
   obtain ⟨u,hu,b,hb,r,h2,rfl⟩:=h1
   have e1:=zha (ev x) hu
   have e2:=zha (ev ix) hb
   have h3:=zbp w h2
   exact .same hs (by simp only [execOp,e1,e2,Sem.run_bind,h3,Result.andThen_ok,Sem.run_pure]) (.p _ _ (.v r))
  ·rename_i n e hu
   simp only [Option.bind_eq_some_iff] at h1
   obtain ⟨i,hi,sz,hsz,h1⟩:=h1
   split at h1
   ·rename_i hc
    obtain ⟨k,hk⟩:=zpx (ev ix) hi
    obtain ⟨vs,hv⟩:=ztr (ev x) h1
    obtain ⟨v,h2,h3⟩:=z3w (w:=w) (hv ▸ ev x) h1
    exact .same hs (by simp [execOp,hv,hk,Instr.index,asIntOf,zb6 hu,hc.1,hc.2,zeu hsz,h2]) h3
   ·cases h1
  ·cases h1
 | extract x i =>
  obtain ⟨h1,rfl⟩:=n1 h
  have hx:=ev x
  generalize hxd:evalO tm x=xd at *
  split at h1
  ·simp only [Option.map_eq_some_iff] at h1
   obtain ⟨y,h1,rfl⟩:=h1
   obtain ⟨h2,h3⟩:=List.getElem?_eq_some_iff.1 h1
   obtain ⟨vs,hb,hl,hr⟩:=ydj hx.toP
   have h4:=hr i h2
   rw [h3] at h4
   exact .same hs (by simp only [execOp,hb,Instr.extract,getD_some (C:=vs) (j:=i) (by omega)];rfl) (.p _ _ h4)
  ·obtain ⟨h2,h3⟩:=List.getElem?_eq_some_iff.1 h1
   obtain ⟨vs,hb,hl,hr⟩:=z6h hx
   have h4:=hr i h2
   rw [h3] at h4
   exact .same hs (by simp only [execOp,hb,Instr.extract,getD_some (C:=vs) (j:=i) (by omega)];rfl) h4
  ·cases h1
 | makeMap t r =>
  cases r with
  | none =>
   simp only [opD,Option.some.injEq,Prod.mk.injEq] at h
   obtain ⟨rfl,rfl⟩:=h
   obtain ⟨v,w',ρ',h2,h3⟩:=zy5 (P:=P) hs t
   exact .val (by simp [execOp,h2]) h3
  | some r=>simp [opD] at h
 | lookup t x ix ok =>
  obtain ⟨h1,rfl⟩:=n1 h
  obtain ⟨v,h2,h3⟩:=z3p hs (ev x) (ev ix) h1
  exact .same hs (by simp [execOp,h2]) h3
 | mapUpdate t m k x =>
  simp only [opD,Option.map_eq_some_iff,Prod.mk.injEq] at h
  obtain ⟨H',h1,rfl,rfl⟩:=h
  obtain ⟨w',h2,h3,h4⟩:=zty hs (ev m) (ev k) (ev x) h1
  refine .inl ⟨undef,w',ρ,.inr ⟨by simp [execOp,h2],rfl⟩,h3,h4,.p _ _ (.v _)⟩
 | makeInterface t x =>
  simp only [opD] at h
  split at h
  ·rename_i e hu
   simp only [Option.some.injEq,Prod.mk.injEq] at h
   obtain ⟨rfl,rfl⟩:=h
   exact .same hs (by simp [execOp,Instr.makeInterface,zb6 hu]) (.ifc t _ _ (ev x))
  ·cases h
 | call c =>
  obtain ⟨callee,args,argTypes⟩:=c
  cases callee with
  | builtin b =>
   simp only [opD] at h
   have hargs:=zwl hs.globs ht args
   have two:∀ {x y:Dv},List.map (evalO tm) args.toList=[x,y]→∃ p q,args=#[p,q]∧evalO tm p=x∧evalO tm q=y:=by
    intro x y hx
    have hs2:args.size=2:=by have:=congrArg List.length hx;simpa using this
    obtain ⟨p,q,rfl⟩:∃ p q,args=#[p,q]:=by
     refine ⟨args[0],args[1], ?_⟩
     apply Array.ext<;>simp [hs2]
     intro i hi
     rcases (show i=0∨i=1 by omega) with rfl | rfl<;>(intros;rfl)
    simp only [List.map_cons,List.map_nil,List.cons.injEq,and_true] at hx
    exact ⟨p,q,rfl,hx.1,hx.2⟩
   unfold zgj at h
   split at h
   ·split at h
    ·rename_i x y hx
     obtain ⟨p,q,rfl,hxp,hyq⟩:=two hx
     simp only [Option.map_eq_some_iff,Prod.mk.injEq] at h
     obtain ⟨⟨r,H'⟩,h1,rfl,rfl⟩:=h
     obtain ⟨v,w',ρ',h2,h3⟩:=z1s (ty:=type) hs (hxp ▸ ev p) (hyq ▸ ev q) h1
     exact .val (by simp [execOp,resolve,invoke,builtin,h2]) h3
    ·cases h
   ·split at h
    ·rename_i x y hx
     obtain ⟨p,q,rfl,hxp,hyq⟩:=two hx
     simp only [Option.map_eq_some_iff,Prod.mk.injEq] at h
     obtain ⟨⟨r,H'⟩,h1,rfl,rfl⟩:=h
     obtain ⟨v,w',ρ',h2,h3⟩:=yb8 (ty:=type) hs (hxp ▸ ev p) (hyq ▸ ev q) h1
     exact .val (by simp [execOp,resolve,invoke,builtin,h2]) h3
    ·cases h
   ·split at h
    ·rename_i x y hx
     obtain ⟨p,q,rfl,hxp,hyq⟩:=two hx
     simp only [Option.map_eq_some_iff,Prod.mk.injEq] at h
     obtain ⟨⟨r,H'⟩,h1,rfl,rfl⟩:=h
     obtain ⟨v,w',ρ',h2,h3⟩:=z4t (ty:=type) hs (hxp ▸ ev p) (hyq ▸ ev q) h1
     exact .val (by simp [execOp,resolve,invoke,builtin,h2]) h3
    ·cases h
   ·obtain ⟨h1,rfl⟩:=n1 h
    have one:∀ {x:Dv},List.map (evalO tm) args.toList=[x]→∃ y,args=#[y]∧evalO tm y=x:=by
     intro x hx
     have hs1:args.size=1:=by have:=congrArg List.length hx;simpa using this
     obtain ⟨y,rfl⟩:∃ y,args=#[y]:=by
      refine ⟨args[0], ?_⟩
      apply Array.ext<;>simp [hs1]
      intro i hi;obtain rfl:i=0:=by omega
      rfl
     exact ⟨y,rfl,by simpa using hx⟩
    split at h1
    ·split at h1
     ·rename_i x hx
      obtain ⟨y,rfl,hxy⟩:=one hx
      obtain ⟨v,h2,h3⟩:=z4p (P:=P) (ty:=type) hs (hxy ▸ ev y) h1
      exact .same hs (by simp [execOp,resolve,invoke,builtin,h2]) h3
     ·cases h1
    ·unfold zjq at h1
     simp only [] at h1
     split at h1
     ·rename_i x hx
      split at h1
      ·cases h1
      ·rename_i h0
       obtain ⟨y,rfl,hxy⟩:=one hx
       obtain ⟨v,h2,h3⟩:=yaf (P:=P) (ty:=type) (hxy ▸ ev y) h1 (by omega)
       exact .same hs (by simp [execOp,resolve,invoke,builtin,h2]) h3
     ·cases h1
   ·obtain ⟨h1,rfl⟩:=n1 h
    unfold zjq at h1
    split at h1
    ·split at h1
     ·rename_i x hx
      split at h1
      ·cases h1
      ·rename_i h0
       have hs1:args.size=1:=by have:=congrArg List.length hx;simpa using this
       obtain ⟨y,rfl⟩:∃ y,args=#[y]:=by
        refine ⟨args[0], ?_⟩
        apply Array.ext<;>simp [hs1]
        intro i hi;obtain rfl:i=0:=by omega
        rfl
       have hxy:evalO tm y=x:=by simpa using hx
       obtain ⟨v,h2,h3⟩:=yaf (P:=P) (ty:=type) (hxy ▸ ev y) h1 (by omega)
       exact .same hs (by simp [execOp,resolve,invoke,builtin,h2]) h3
     ·cases h1
    ·simp only [Option.bind_eq_some_iff,Option.map_eq_some_iff] at h1
     obtain ⟨us,h1,r,h2,rfl⟩:=h1
     have e:(args.map a.eval).toList=us:=zow (M:=Mut X H ρ) (H:=H) (ρ:=ρ) (w:=w) (by simp) (fun j h3 h4=>by simp only [Array.toList_map,List.getElem_map,Array.getElem_toList];exact ev _) h1
     have e':args.map a.eval=us.toArray:=by rw [← e]
     have h3:=zbp w h2
     refine .same hs ?_ (.p _ _ (.v r))
     simp only [execOp,resolve,Sem.run_bind,Sem.run_pure,Result.andThen_ok,invoke,builtin,e',h3]
    ·simp only [Option.bind_eq_some_iff,Option.map_eq_some_iff] at h1
     obtain ⟨us,h1,r,h2,rfl⟩:=h1
     have e:(args.map a.eval).toList=us:=zow (M:=Mut X H ρ) (H:=H) (ρ:=ρ) (w:=w) (by simp) (fun j h3 h4=>by simp only [Array.toList_map,List.getElem_map,Array.getElem_toList];exact ev _) h1
     have e':args.map a.eval=us.toArray:=by rw [← e]
     have h3:=zbp w h2
     refine .same hs ?_ (.p _ _ (.v r))
     simp only [execOp,resolve,Sem.run_bind,Sem.run_pure,Result.andThen_ok,invoke,builtin,e',h3]
    ·cases h1
  | value f =>
   simp only [opD] at h
   have hf:=ev f
   have hargs:=zwl hs.globs ht args
   generalize hfd:evalO tm f=fd at *
   split at h
   ·rename_i g cs
    obtain ⟨vs,hb,hvs⟩:=yan (H:=H) (ρ:=ρ) hf.toP
    rcases zyt hc hs (hargs.append hvs) h with ⟨hex,hcl⟩ | ⟨v,w',hrun,v',ρ',hv',hfin⟩
    ·refine .inr ⟨g,args.map a.eval++vs, ?_,hcl⟩
     simp only [execOp,resolve,hb,Deferred.ofValue,Sem.run_bind,Sem.run_pure,Result.andThen_ok]
     rw [zx8 hN hex]
     simp
    ·cases hv'
     refine .val (w':=w') (ρ':=ρ') ?_ hfin
     simp only [execOp,resolve,hb,Deferred.ofValue,Sem.run_bind,Sem.run_pure,Result.andThen_ok,invoke,Array.empty_append]
     simpa using hrun
   ·rename_i g ds
    obtain ⟨vs,hb,hvs⟩:=z15 hf
    rcases zyt hc hs (hargs.append hvs) h with ⟨hex,hcl⟩ | ⟨v,w',hrun,v',ρ',hv',hfin⟩
    ·refine .inr ⟨g,args.map a.eval++vs, ?_,hcl⟩
     simp only [execOp,resolve,hb,Deferred.ofValue,Sem.run_bind,Sem.run_pure,Result.andThen_ok]
     rw [zx8 hN hex]
     simp
    ·cases hv'
     refine .val (w':=w') (ρ':=ρ') ?_ hfin
     simp only [execOp,resolve,hb,Deferred.ofValue,Sem.run_bind,Sem.run_pure,Result.andThen_ok,invoke,Array.empty_append]
     simpa using hrun
   ·cases h
  | invoke r m=>simp [opD] at h
 | _=>simp [opD] at h
end
end Go.Ev

set_option linter.unusedVariables false
set_option linter.unusedSimpArgs false
namespace Go.Ev
section
variable {P : Program} {X M : Nat → Prop} {w : World} {H : List Ob} {ρ : Pl}
structure StOk [Gl] (X:Nat→Prop) (w:World) (s:St) (ρ:Pl) (a:Act):Prop where
 sim:Sim X w s.heap ρ
 tok:TOk w (Mut X s.heap ρ) s.heap ρ a.tmps s.tmps
 defers:a.defers=[]
theorem z0w {ops:Array Oper}{a:Act}{tm:List Dv} (ht:TOk w M H ρ a.tmps tm) {o:Oper}{b:Bool} (h:wantD ops tm o=some b):Region.wanted o (yielded ops a.tmps)=b:=by
 unfold wantD at h
 unfold Region.wanted
 cases hg:o.guard with
 | none=>simp only [hg,Option.some.injEq] at h;exact h
 | some jw =>
  obtain ⟨j,want⟩:=jw
  simp only [hg] at h ⊢
  unfold yielded
  cases hd:(ops[j]?).bind (·.dst) with
  | none=>simp only [hd,Option.some.injEq] at h;subst h;simp
  | some t =>
   simp only [hd,Option.map_eq_some_iff] at h
   obtain ⟨q,hq,rfl⟩:=h
   simp only [Option.bind_some]
   by_cases htl:t<tm.length
   ·have hts:t<a.tmps.size:=by rw [ht.1];exact htl
    have e1:tm.getD t ze1=tm[t]:=zk8 htl
    rw [e1] at hq
    have hr:=ht.2 t htl
    rw [Array.getElem?_eq_getElem hts]
    have e2:a.tmps.getD t undef=a.tmps[t]:=by simp [hts]
    rw [e2] at hr
    generalize a.tmps[t]=v at *
    generalize tm[t]=d at *
    unfold zms at hq
    split at hq
    ·cases hq
    ·rename_i b
     simp only [Option.some.injEq] at hq
     subst hq
     have:=hr.toP.v_eq
     subst this
     rfl
    ·rename_i hd1 hd2
     simp only [Option.some.injEq] at hq
     subst hq
     have:∀ b,v≠.bool b:=by
      intro b hb
      subst hb
      cases hr with
      | junk=>exact hd1 rfl
      | p x y hp=>cases hp;exact hd2 b rfl
     cases v<;>simp_all
   ·have e1:tm.getD t ze1=ze1:=by simp [List.getD,Nat.le_of_not_lt htl]
    rw [e1] at hq
    simp only [zms,ze1,undef,Option.some.injEq] at hq
    subst hq
    have:a.tmps[t]?=none:=Array.getElem?_eq_none (by rw [ht.1];exact Nat.le_of_not_lt htl)
    rw [this]
theorem zvn [Gl] {call:CallF} (hc:zir P call) (hN:Names P) {A:Ann}{quiet:Bool}{ops:Array Oper}{o:Oper}{s s':St}{a:Act} (hs:StOk X w s ρ a) (h:stepD P A call quiet ops o s=some s')
  {K:Act→World→Prop}{Q:Exit→Act→World→Prop} (hK:∀ w' ρ' a',Evo s.heap.length w s.heap ρ w' s'.heap ρ'→StOk X w' s' ρ' a'→K a' w') :
  if Region.wanted o (yielded ops a.tmps) then o.wp P a w K Q∨(o.asks P a w∧LetsOut Q) else K (a.put o.dst undef) w:=by
 unfold stepD at h
 simp only [Option.bind_eq_some_iff] at h
 obtain ⟨b,hb,h⟩:=h
 rw [z0w hs.tok hb]
 cases b with
 | true =>
  simp only [if_true,Option.bind_eq_some_iff] at h ⊢
  obtain ⟨⟨d,hh⟩,hop,h⟩:=h
  have hk:=op_ok hc hN hs.sim hs.tok hop
  refine .inl (hk.wp fun v w' ρ' hf=>?_)
  cases hh with
  | none =>
   simp only [Option.some.injEq] at h
   subst h
   exact hK w' ρ' _ hf.evo ⟨hf.sim,(hs.tok.evo hf.evo).put hf.rep o.dst,by rw [zlr];exact hs.defers⟩
  | some H' =>
   simp only [] at h
   split at h
   ·cases h
   ·simp only [Option.some.injEq] at h
    subst h
    exact hK w' ρ' _ hf.evo ⟨hf.sim,(hs.tok.evo hf.evo).put hf.rep o.dst,by rw [zlr];exact hs.defers⟩
 | false =>
  simp only [Bool.false_eq_true,if_false,Option.some.injEq] at h ⊢
  subst h
  exact hK w ρ _ (Evo.refl ..) ⟨hs.sim,hs.tok.put (.p _ _ (.v _)) o.dst,by rw [zlr];exact hs.defers⟩
theorem z8y [Gl] {call:CallF} (hc:zir P call) {A:Ann}{quiet:Bool}{ops:Array Oper}{o:Oper}{s s':St} (h:stepD P A call quiet ops o s=some s'):s'.nin=s.nin:=by
 unfold stepD at h
 simp only [Option.bind_eq_some_iff] at h
 obtain ⟨b,hb,h⟩:=h
 cases b with
 | true =>
  simp only [if_true,Option.bind_eq_some_iff] at h
  obtain ⟨⟨d,hh⟩,hop,h⟩:=h
  cases hh with
  | none=>simp only [Option.some.injEq] at h;subst h;rfl
  | some H' =>
   simp only [] at h
   split at h
   ·cases h
   ·simp only [Option.some.injEq] at h;subst h;rfl
 | false=>simp only [Bool.false_eq_true,if_false,Option.some.injEq] at h;subst h;rfl
theorem zs5 [Gl] {call:CallF} (hc:zir P call) (hN:Names P) {A:Ann}{quiet:Bool}{ops:Array Oper}{Q:Exit→Act→World→Prop}{n:Nat} :
  ∀ (l:List Oper) (s s':St) (w:World) (ρ:Pl) (a:Act),StOk X w s ρ a→opsD P A call quiet ops l s=some s'→n≤s.heap.length →
  (∀ w' ρ' a',Evo n w s.heap ρ w' s'.heap ρ'→StOk X w' s' ρ' a'→Q .normal a' w')→wpList P ops Q l a w
 | [],s,s',w,ρ,a,hs,h,hn,hQ=>by
  simp only [opsD,Option.some.injEq] at h
  subst h
  exact hQ w ρ a ((Evo.refl ..).mono hn) hs
 | o :: l,s,s',w,ρ,a,hs,h,hn,hQ=>by
  simp only [opsD,Option.bind_eq_some_iff] at h
  obtain ⟨s1,h1,h2⟩:=h
  unfold wpList
  refine zvn hc hN hs h1 (fun w1 ρ1 a1 he hs1=>?_)
  exact zs5 hc hN l s1 s' w1 ρ1 a1 hs1 h2 (Nat.le_trans hn he.len') (fun w' ρ' a' he' hs'=>hQ w' ρ' a' ((he.mono hn).trans he') hs')
def aOp [Gl] (P:Program) (A:Ann) (call:CallF) (quiet:Bool) (ops:Array Oper) (i:Nat) (s:St):Option St :=
 match ops[i]? with
 | none=>some s
 | some o=>stepD P A call quiet ops o s
def aAny [Gl] (P:Program) (A:Ann) (call:CallF) (quiet:Bool) (ops:Array Oper) (sf:St):Nat→Array Bool→St→Prop
 | 0,listed,s=>Region.ready .any ops listed=[]∧s=sf
 | fuel+1,listed,s=>(Region.ready .any ops listed=[]→s=sf)∧∀ i∈Region.ready .any ops listed,∃ s',aOp P A call quiet ops i s=some s'∧aAny P A call quiet ops sf fuel (listed.setIfInBounds i true) s'
theorem zyh [Gl] {call:CallF} (hc:zir P call) (hN:Names P) {A:Ann}{quiet:Bool}{ops:Array Oper}{Q:Exit→Act→World→Prop}{n:Nat}{sf:St} :
  ∀ (fuel:Nat) (listed:Array Bool) (s:St) (w:World) (ρ:Pl) (a:Act),StOk X w s ρ a→aAny P A call quiet ops sf fuel listed s→n≤s.heap.length →
  (∀ w' ρ' a',Evo n w s.heap ρ w' sf.heap ρ'→StOk X w' sf ρ' a'→Q .normal a' w')→wpAny P .any ops Q fuel listed a w
 | 0,listed,s,w,ρ,a,hs,h,hn,hQ=>by
  obtain ⟨h1,rfl⟩:=h
  exact ⟨h1,hQ w ρ a ((Evo.refl ..).mono hn) hs⟩
 | fuel+1,listed,s,w,ρ,a,hs,h,hn,hQ=>by
  refine ⟨fun h1=>?_,fun i hi=>?_⟩
  ·obtain rfl:=h.1 h1
   exact hQ w ρ a ((Evo.refl ..).mono hn) hs
  ·obtain ⟨s1,h1,h2⟩:=h.2 i hi
   unfold wpOp
   unfold aOp at h1
   cases ho:ops[i]? with
   | none =>
    simp only [ho,Option.some.injEq] at h1 ⊢
    subst h1
    exact zyh hc hN fuel _ s w ρ a hs h2 hn hQ
   | some o =>
    simp only [ho] at h1 ⊢
    refine zvn hc hN hs h1 (fun w1 ρ1 a1 he hs1=>?_)
    exact zyh hc hN fuel _ s1 w1 ρ1 a1 hs1 h2 (Nat.le_trans hn he.len') (fun w' ρ' a' he' hs'=>hQ w' ρ' a' ((he.mono hn).trans he') hs')
theorem zf3 [Gl] {tm:List Dv}{dst:Option Tmp}{d:Dv}{x:Operand} (h:∀ t,dst=some t→x≠.tmp t):evalO (putD tm dst d) x=evalO tm x:=by
 cases dst with
 | none=>rfl
 | some t =>
  cases x with
  | tmp u =>
   have hne:t≠u:=fun e=>h t rfl (e ▸ rfl)
   simp [evalO,putD,List.getD,List.getElem?_set_ne hne]
  | _=>rfl
theorem zif {ops:Array Oper}{o:Oper}{t:Tmp} (h:t ∉ o.looksAt ops):∀ x∈o.op.operands,x≠.tmp t:=by
 intro x hx e
 subst e
 apply h
 unfold Oper.looksAt
 rw [List.mem_append]
 left
 rw [List.mem_filterMap]
 exact ⟨.tmp t,by simpa using hx,rfl⟩
theorem zv6 {ops:Array Oper}{o:Oper}{t:Tmp} (h:t ∉ o.looksAt ops) {j:Nat}{want:Bool} (hg:o.guard=some (j,want)):(ops[j]?).bind (·.dst)≠some t:=by
 intro e
 apply h
 unfold Oper.looksAt
 rw [List.mem_append]
 right
 simp [hg,e]
theorem zkd {ops:Array Oper}{o:Oper}{tm:List Dv}{dst:Option Tmp}{d:Dv} (h:∀ t,dst=some t→t ∉ o.looksAt ops):wantD ops (putD tm dst d) o=wantD ops tm o:=by
 unfold wantD
 cases hg:o.guard with
 | none=>rfl
 | some jw =>
  obtain ⟨j,want⟩:=jw
  simp only []
  cases hd:(ops[j]?).bind (·.dst) with
  | none=>rfl
  | some u =>
   cases dst with
   | none=>rfl
   | some t =>
    have hne:t≠u:=fun e=>zv6 (h t rfl) hg (by rw [hd,e])
    simp [putD,List.getD,List.getElem?_set_ne hne]
theorem zr4 [Gl] {tm tm':List Dv}{l:Array Operand} (h:∀ x∈l,evalO tm x=evalO tm' x):l.toList.map (evalO tm)=l.toList.map (evalO tm') :=
 List.map_congr_left fun x hx=>h x (by simpa using hx)
theorem zq0 [Gl] {tm tm':List Dv}{l:Array (Nat×Operand)} (h:∀ x∈l.toList.map (·.2),evalO tm x=evalO tm' x) :
  (l.toList.map fun (i,x)=>(i,evalO tm x))=l.toList.map fun (i,x)=>(i,evalO tm' x) :=
 List.map_congr_left fun ⟨i,x⟩ hx=>by
  simp only [Prod.mk.injEq,true_and]
  exact h x (List.mem_map.2 ⟨(i,x),hx,rfl⟩)
theorem zsk [Gl] {tm tm':List Dv}{l:Option Operand} (h:∀ x∈l.toArray,evalO tm x=evalO tm' x):l.map (evalO tm)=l.map (evalO tm'):=by
 cases l with
 | none=>rfl
 | some x=>simp [h x (by simp)]
theorem ztf [Gl] {A:Ann}{call:CallF}{tm tm':List Dv}{H:List Ob}{o:Oper} (h:∀ x∈o.op.operands,evalO tm x=evalO tm' x):opD P A call tm H o=opD P A call tm' H o:=by
 obtain ⟨dst,op,type,pos,after,guard⟩:=o
 simp only [] at h
 cases op with
 | build t parts =>
  have e:=zq0 (tm:=tm) (tm':=tm') (l:=parts) (fun x hx=>h x (by simpa [Op.operands] using hx))
  simp only [opD,e]
 | buildSlice t len parts =>
  have e:=zq0 (tm:=tm) (tm':=tm') (l:=parts) (fun x hx=>h x (by simpa [Op.operands] using hx))
  simp only [opD,e]
 | makeFunc fn first caps =>
  have e:=zr4 (tm:=tm) (tm':=tm') (l:=caps) (fun x hx=>h x (by simp [Op.operands,hx]))
  simp only [opD,e]
 | slice t x lo hi mx =>
  have e0:=h x (by simp [Op.operands])
  have e1:=zsk (tm:=tm) (tm':=tm') (l:=lo) (fun x hx=>h x (by simp only [Op.operands,Array.mem_append];exact .inl (.inl (.inr hx))))
  have e2:=zsk (tm:=tm) (tm':=tm') (l:=hi) (fun x hx=>h x (by simp only [Op.operands,Array.mem_append];exact .inl (.inr hx)))
  have e3:=zsk (tm:=tm) (tm':=tm') (l:=mx) (fun x hx=>h x (by simp only [Op.operands,Array.mem_append];exact .inr hx))
  simp only [opD,e0,e1,e2,e3]
 | call c =>
  obtain ⟨callee,args,ts⟩:=c
  have e:=zr4 (tm:=tm) (tm':=tm') (l:=args) (fun x hx=>h x (by cases callee<;>simp [Op.operands,Call.operands,hx]))
  cases callee with
  | builtin b=>simp only [opD,e]
  | value f =>
   have e1:=h f (by simp [Op.operands,Call.operands])
   simp only [opD,e,e1]
  | invoke r m=>rfl
 | move x=>simp only [opD,h x (by simp [Op.operands])]
 | assign x=>simp only [opD,h x (by simp [Op.operands])]
 | pick c x y=>simp only [opD,h c (by simp [Op.operands]),h x (by simp [Op.operands]),h y (by simp [Op.operands])]
 | alloc e=>rfl
 | box e x=>simp only [opD,h x (by simp [Op.operands])]
 | load t x=>simp only [opD,h x (by simp [Op.operands])]
 | store t x y=>simp only [opD,h x (by simp [Op.operands]),h y (by simp [Op.operands])]
 | nilCheck x=>simp only [opD,h x (by simp [Op.operands])]
 | binOp op t x y yt=>simp only [opD,h x (by simp [Op.operands]),h y (by simp [Op.operands])]
 | unOp op t x=>simp only [opD,h x (by simp [Op.operands])]
 | convert s d x=>simp only [opD,h x (by simp [Op.operands])]
 | makeSlice t x y=>simp only [opD,h x (by simp [Op.operands]),h y (by simp [Op.operands])]
 | fieldAddr t x i=>simp only [opD,h x (by simp [Op.operands])]
 | field t x i=>simp only [opD,h x (by simp [Op.operands])]
 | indexAddr t x y=>simp only [opD,h x (by simp [Op.operands]),h y (by simp [Op.operands])]
 | index t x y=>simp only [opD,h x (by simp [Op.operands]),h y (by simp [Op.operands])]
 | extract x i=>simp only [opD,h x (by simp [Op.operands])]
 | makeMap t r=>cases r<;>rfl
 | lookup t x i b=>simp only [opD,h x (by simp [Op.operands]),h i (by simp [Op.operands])]
 | mapUpdate t m k x=>simp only [opD,h m (by simp [Op.operands]),h k (by simp [Op.operands]),h x (by simp [Op.operands])]
 | makeInterface t x=>simp only [opD,h x (by simp [Op.operands])]
 | _=>rfl
theorem znp [Gl] {A:Ann}{call:CallF}{ops:Array Oper}{tm:List Dv}{H:List Ob}{o:Oper}{dst:Option Tmp}{d:Dv} (h:∀ t,dst=some t→t ∉ o.looksAt ops):opD P A call (putD tm dst d) H o=opD P A call tm H o :=
 ztf fun x hx=>zf3 fun t ht=>zif (h t ht) x hx
theorem zmy {tm:List Dv}{x y:Option Tmp}{d e:Dv} (h:∀ t,x=some t→y≠some t):putD (putD tm x d) y e=putD (putD tm y e) x d:=by
 cases x with
 | none=>rfl
 | some t =>
  cases y with
  | none=>rfl
  | some u =>
   have hne:t≠u:=fun he=>h t rfl (he ▸ rfl)
   simp only [putD]
   rw [List.set_comm _ _ hne]
theorem cls_n [Gl] {A:Ann}{call:CallF}{quiet:Bool}{tm:List Dv}{H H':List Ob}{o:Oper} (hc:clsOf quiet o.op=.n):opD P A call tm H o=opD P A call tm H' o∧∀ d h,opD P A call tm H o=some (d,some h)→False:=by
 obtain ⟨dst,op,type,pos,after,guard⟩:=o
 have no:∀ {r:Option Dv}{d:Dv}{h:List Ob},(r.map fun d=>(d,(none:Option (List Ob))))=some (d,some h)→False:=by
  intro r d h hr
  simp at hr
 cases op with
 | call c =>
  obtain ⟨callee,args,ts⟩:=c
  cases callee with
  | builtin b =>
   cases b with
   | append=>simp [clsOf] at hc
   | copy=>simp [clsOf] at hc
   | delete=>simp [clsOf] at hc
   | len =>
    have hm:Gl.isMap (ts.getD 0 0)=false:=by
     cases hq:Gl.isMap (ts.getD 0 0) with
     | false=>rfl
     | true=>simp only [clsOf,hq,if_true] at hc;cases hc
    exact ⟨by simp only [opD,zgj,hm];rfl,fun d h hh=>by simp [opD,zgj] at hh⟩
   | _=>exact ⟨rfl,fun d h hh=>by simp [opD,zgj] at hh⟩
  | value f=>cases quiet<;>simp [clsOf] at hc
  | invoke r m=>cases quiet<;>simp [clsOf] at hc
 | load=>simp [clsOf] at hc
 | slice=>simp [clsOf] at hc
 | buildSlice=>cases quiet<;>simp [clsOf] at hc
 | store=>simp [clsOf] at hc
 | alloc=>simp [clsOf] at hc
 | box=>simp [clsOf] at hc
 | makeSlice=>simp [clsOf] at hc
 | nilCheck x =>
  refine ⟨rfl,fun d h hh=>?_⟩
  simp only [opD] at hh
  split at hh<;>simp at hh
 | makeFunc fn first caps =>
  refine ⟨rfl,fun d h hh=>?_⟩
  simp only [opD] at hh
  split at hh<;>simp at hh
 | pick c x y=>exact ⟨rfl,fun d h hh=>by simp [opD] at hh⟩
 | move x=>exact ⟨rfl,fun d h hh=>by simp [opD] at hh⟩
 | assign x=>exact ⟨rfl,fun d h hh=>by simp [opD] at hh⟩
 | build=>exact ⟨rfl,fun d h hh=>no hh⟩
 | binOp=>exact ⟨rfl,fun d h hh=>no hh⟩
 | unOp=>exact ⟨rfl,fun d h hh=>no hh⟩
 | convert=>exact ⟨rfl,fun d h hh=>no hh⟩
 | fieldAddr=>exact ⟨rfl,fun d h hh=>no hh⟩
 | field=>exact ⟨rfl,fun d h hh=>no hh⟩
 | indexAddr=>exact ⟨rfl,fun d h hh=>no hh⟩
 | index=>exact ⟨rfl,fun d h hh=>no hh⟩
 | extract=>exact ⟨rfl,fun d h hh=>no hh⟩
 | makeMap=>simp [clsOf] at hc
 | lookup=>simp [clsOf] at hc
 | mapUpdate=>simp [clsOf] at hc
 | makeInterface t x =>
  refine ⟨rfl,fun d h hh=>?_⟩
  simp only [opD] at hh
  split at hh<;>simp at hh
 | _=>exact ⟨rfl,fun d h hh=>by simp [opD] at hh⟩
theorem cls_r [Gl] {A:Ann}{call:CallF}{quiet:Bool}{ops:Array Oper}{o:Oper}{s s':St} (hc:clsOf quiet o.op≠.w) (h:stepD P A call quiet ops o s=some s'):s'.heap=s.heap:=by
 unfold stepD at h
 simp only [Option.bind_eq_some_iff] at h
 obtain ⟨b,hb,h⟩:=h
 cases b with
 | false=>simp only [Bool.false_eq_true,if_false,Option.some.injEq] at h;subst h;rfl
 | true =>
  simp only [if_true,Option.bind_eq_some_iff] at h
  obtain ⟨⟨d,hh⟩,hop,h⟩:=h
  cases hh with
  | none=>simp only [Option.some.injEq] at h;subst h;rfl
  | some H' =>
   simp only [] at h
   split at h
   ·cases h
   ·rename_i hq
    exfalso
    obtain ⟨dst,op,type,pos,after,guard⟩:=o
    cases hcn:clsOf quiet op with
    | n=>exact (cls_n (H':=s.heap) hcn).2 _ _ hop
    | w=>exact hc hcn
    | r =>
     cases op with
     | load t x=>simp [opD] at hop
     | lookup t x i b=>simp [opD] at hop
     | slice t x lo hi mx =>
      simp only [opD] at hop
      split at hop<;>simp at hop
     | buildSlice t l ps=>cases quiet<;>simp_all [clsOf,wrOp]
     | call c =>
      obtain ⟨callee,args,ts⟩:=c
      cases callee with
      | builtin b=>cases b<;>first | (simp [opD,zgj] at hop;done) | simp_all [clsOf]
      | value f=>cases quiet<;>simp_all [clsOf,wrOp]
      | invoke r m=>simp [opD] at hop
     | _=>simp_all [clsOf]
end
end Go.Ev

