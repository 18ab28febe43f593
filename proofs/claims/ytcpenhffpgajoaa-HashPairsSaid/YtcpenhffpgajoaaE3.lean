/- A part of the proof: E3. No conditions of its own. -/
import Derived.Test.YtcpenhffpgajoaaE2
set_option linter.unusedVariables false
set_option linter.unusedSimpArgs false
namespace Go.Ev
section
variable {P : Program} {X M : Nat → Prop} {w : World} {H : List Ob} {ρ : Pl}
theorem zgt [Gl] {call:CallF}{A:Ann}{quiet:Bool}{ops:Array Oper}{o:Oper}{s s':St} (h:stepD P A call quiet ops o s=some s') :
  ∃ d hh,s'=⟨putD s.tmps o.dst d,Option.getD hh s.heap,s.nin⟩∧(clsOf quiet o.op≠.w→hh=none∨s'.heap=s.heap) ∧
   ∀ tm H nin,wantD ops tm o=wantD ops s.tmps o→opD P A call tm H o=opD P A call s.tmps s.heap o→stepD P A call quiet ops o ⟨tm,H,nin⟩=some ⟨putD tm o.dst d,Option.getD hh H,nin⟩:=by
 have h0:=h
 unfold stepD at h
 simp only [Option.bind_eq_some_iff] at h
 obtain ⟨b,hb,h⟩:=h
 cases b with
 | false =>
  simp only [Bool.false_eq_true,if_false,Option.some.injEq] at h
  subst h
  refine ⟨ze1,none,rfl,fun _=>.inl rfl,fun tm H nin h1 h2=>?_⟩
  unfold stepD
  simp only [h1,hb,Option.bind_some,Bool.false_eq_true,if_false,Option.getD_none]
 | true =>
  simp only [if_true,Option.bind_eq_some_iff] at h
  obtain ⟨⟨d,hh⟩,hop,h⟩:=h
  cases hh with
  | none =>
   simp only [Option.some.injEq] at h
   subst h
   refine ⟨d,none,rfl,fun _=>.inl rfl,fun tm H nin h1 h2=>?_⟩
   unfold stepD
   simp only [h1,hb,Option.bind_some,if_true,h2,hop,Option.getD_none]
  | some H' =>
   simp only [] at h
   split at h
   ·cases h
   ·rename_i hq
    simp only [Option.some.injEq] at h
    subst h
    refine ⟨d,some H',rfl,fun hc=>.inr (cls_r hc h0),fun tm H nin h1 h2=>?_⟩
    unfold stepD
    simp only [h1,hb,Option.bind_some,if_true,h2,hop,Option.getD_some]
    rw [if_neg hq]
theorem zul [Gl] {call:CallF}{A:Ann}{quiet:Bool}{ops:Array Oper}{oi oj:Oper}{s s1 s2:St} (hap:oi.apart ops oj=true) (hcp:zih (clsOf quiet oi.op) (clsOf quiet oj.op)=true)
  (h1:stepD P A call quiet ops oi s=some s1) (h2:stepD P A call quiet ops oj s1=some s2):∃ t,stepD P A call quiet ops oj s=some t∧stepD P A call quiet ops oi t=some s2:=by
 obtain ⟨a1,a2,a3⟩:=Oper.apart_spec hap
 obtain ⟨di,hi,e1,c1,f1⟩:=zgt h1
 obtain ⟨dj,hj,e2,c2,f2⟩:=zgt h2
 have t1:s1.tmps=putD s.tmps oi.dst di:=by rw [e1]
 have t2:s1.heap=Option.getD hi s.heap:=by rw [e1]
 have t3:s1.nin=s.nin:=by rw [e1]
 have w1:wantD ops s.tmps oj=wantD ops s1.tmps oj:=by rw [t1,zkd (fun t ht=>a1 t ht)]
 have heapi:clsOf quiet oi.op≠.w→s1.heap=s.heap:=fun hc=>cls_r hc h1
 have heapj:clsOf quiet oj.op≠.w→s2.heap=s1.heap:=fun hc=>cls_r hc h2
 have o1:opD P A call s.tmps s.heap oj=opD P A call s1.tmps s1.heap oj:=by
  rw [t1,znp (fun t ht=>a1 t ht)]
  cases hc:clsOf quiet oi.op with
  | n=>rw [heapi (by rw [hc];simp)]
  | r=>rw [heapi (by rw [hc];simp)]
  | w =>
   have:clsOf quiet oj.op=.n:=by cases hcj:clsOf quiet oj.op<;>simp_all [zih]
   exact (cls_n this).1
 have g1:=f2 s.tmps s.heap s.nin w1 o1
 refine ⟨_,g1, ?_⟩
 have w2:wantD ops (putD s.tmps oj.dst dj) oi=wantD ops s.tmps oi:=zkd (fun t ht=>a3 t ht)
 have o2:opD P A call (putD s.tmps oj.dst dj) (Option.getD hj s.heap) oi=opD P A call s.tmps s.heap oi:=by
  rw [znp (fun t ht=>a3 t ht)]
  cases hc:clsOf quiet oi.op with
  | n=>exact (cls_n hc).1
  | r =>
   have hcj:clsOf quiet oj.op≠.w:=by intro e;rw [hc,e] at hcp;simp [zih] at hcp
   have:Option.getD hj s.heap=s.heap:=by
    have:=cls_r hcj g1
    simpa using this
   rw [this]
  | w =>
   have hcj:clsOf quiet oj.op≠.w:=by intro e;rw [hc,e] at hcp;simp [zih] at hcp
   have:Option.getD hj s.heap=s.heap:=by
    have:=cls_r hcj g1
    simpa using this
   rw [this]
 have g2:=f1 (putD s.tmps oj.dst dj) (Option.getD hj s.heap) s.nin w2 o2
 rw [g2,e2,t1,t2,t3]
 congr 2
 ·exact (zmy (fun t ht=>a2 t ht)).symm
 ·cases hc:clsOf quiet oi.op with
  | w =>
   have hcj:clsOf quiet oj.op≠.w:=by intro e;rw [hc,e] at hcp;simp [zih] at hcp
   have x1:Option.getD hj s.heap=s.heap:=by
    have:=cls_r hcj g1
    simpa using this
   have x2:Option.getD hj s1.heap=s1.heap:=by
    have:=heapj hcj
    rw [e2] at this
    simpa using this
   rw [t2] at x2
   rw [x1,x2]
  | _ =>
   have hci:clsOf quiet oi.op≠.w:=by rw [hc];simp
   have x1:Option.getD hi s.heap=s.heap:=by rw [← t2];exact heapi hci
   have x2:Option.getD hi (Option.getD hj s.heap)=Option.getD hj s.heap:=by
    have:=cls_r hci g2
    simpa using this
   rw [x1,x2]
inductive Chain (ops:Array Oper):Nat→Nat→Prop
 | one {j:Nat}{o:Oper}{e:Edge} (hj:ops[j]?=some o) (he:e∈o.after) (hb:Region.binds .any e=true):Chain ops j e.on
 | more {j i:Nat}{o:Oper}{e:Edge} (hj:ops[j]?=some o) (he:e∈o.after) (hb:Region.binds .any e=true) (h:Chain ops e.on i):Chain ops j i
def zyc (ops:Array Oper) (listed:Array Bool):Prop:=∀ (j:Nat) (o:Oper),ops[j]?=some o→listed.getD j false=true→∀ e∈o.after,Region.binds .any e=true→listed.getD e.on false=true
theorem zim {ops:Array Oper}{listed:Array Bool} (hcl:zyc ops listed) {j i:Nat} (h:Chain ops j i):(listed.getD j false=true∨j∈Region.ready .any ops listed)→listed.getD i false=true:=by
 induction h with
 | one hj he hb =>
  rintro (h | h)
  ·exact hcl _ _ hj h _ he hb
  ·obtain ⟨_,o',ho',hall⟩:=mem_ready.1 h
   rw [hj] at ho'
   obtain rfl:=Option.some.inj ho'
   exact hall _ he hb
 | more hj he hb hch ih =>
  rintro (h | h)
  ·exact ih (.inl (hcl _ _ hj h _ he hb))
  ·obtain ⟨_,o',ho',hall⟩:=mem_ready.1 h
   rw [hj] at ho'
   obtain rfl:=Option.some.inj ho'
   exact ih (.inl (hall _ he hb))
theorem zpo {acc:List Nat}:∀ (l:List Edge) (s i:Nat),(zpe acc l s).testBit i=true→s.testBit i=true∨∃ e∈l,Region.binds .any e=true∧(e.on=i∨(acc.getD e.on 0).testBit i=true)
 | [],s,i,h=>.inl h
 | e :: l,s,i,h=>by
  simp only [zpe] at h
  rcases zpo l _ i h with h1 | ⟨e',he',h1⟩
  ·split at h1
   ·rename_i hb
    simp only [Nat.testBit_or,Bool.or_eq_true,Nat.testBit_two_pow,decide_eq_true_eq] at h1
    rcases h1 with (h1 | h1) | h1
    ·exact .inl h1
    ·exact .inr ⟨e,by simp,hb,.inl h1⟩
    ·exact .inr ⟨e,by simp,hb,.inr h1⟩
   ·exact .inl h1
  ·exact .inr ⟨e',by simp [he'],h1⟩
theorem zoh {ops:Array Oper}:∀ (l:List Oper) (acc:List Nat),(∀ j,l[j]?=ops[acc.length+j]?)→(∀ j i,(acc.getD j 0).testBit i=true→Chain ops j i) →
  ∀ j i,((zso l acc).getD j 0).testBit i=true→Chain ops j i
 | [],acc,_,h=>h
 | o :: l,acc,hl,h=>by
  simp only [zso]
  have h0:ops[acc.length]?=some o:=by simpa using (hl 0).symm
  refine zoh l _ (fun j=>?_) (fun j i hji=>?_)
  ·have:=hl (j+1)
   simp only [List.getElem?_cons_succ] at this
   rw [this,List.length_append,List.length_singleton,Nat.add_assoc,Nat.add_comm 1 j]
  ·by_cases hj:j<acc.length
   ·apply h
    simpa [List.getD,List.getElem?_append_left hj] using hji
   ·by_cases hj2:j=acc.length
    ·subst hj2
     have e:(acc++[zpe acc o.after.toList 0]).getD acc.length 0=zpe acc o.after.toList 0:=by simp [List.getD]
     rw [e] at hji
     rcases zpo _ _ _ hji with h1 | ⟨e',he',hb,h1⟩
     ·simp at h1
     ·have he2:e'∈o.after:=by simpa using he'
      rcases h1 with rfl | h1
      ·exact .one h0 he2 hb
      ·exact .more h0 he2 hb (h _ _ h1)
    ·have e:(acc++[zpe acc o.after.toList 0]).getD j 0=0:=by
      simp only [List.getD]
      rw [List.getElem?_eq_none (by simp;omega)]
      rfl
     rw [e] at hji
     simp at hji
theorem zll {ops:Array Oper}{j i:Nat} (h:((waits ops.toList).getD j 0).testBit i=true):Chain ops j i :=
 zoh ops.toList [] (fun j=>by simp) (fun j i h=>by simp at h) j i h
theorem zod [Gl] {quiet:Bool}{opsA:Array Oper}{ws:List Nat}:∀ (l:List (Oper×Nat)),zsd quiet opsA ws l=true→∀ (a b:Nat) (x y:Oper×Nat),a<b→l[a]?=some x→l[b]?=some y →
  (ws.getD y.2 0).testBit x.2=true∨(x.1.apart opsA y.1=true∧zih (clsOf quiet x.1.op) (clsOf quiet y.1.op)=true)
 | [],_,a,b,x,y,_,hx,_=>by simp at hx
 | (o,i) :: l,h,a,b,x,y,hab,hx,hy=>by
  simp only [zsd,Bool.and_eq_true] at h
  cases a with
  | zero =>
   obtain ⟨b',rfl⟩:∃ b',b=b'+1:=⟨b - 1,by omega⟩
   simp only [List.getElem?_cons_zero,Option.some.injEq] at hx
   simp only [List.getElem?_cons_succ] at hy
   subst hx
   have:=List.all_eq_true.1 h.1 y (List.mem_of_getElem? hy)
   simp only [Bool.or_eq_true,Bool.and_eq_true] at this
   exact this
  | succ a =>
   obtain ⟨b',rfl⟩:∃ b',b=b'+1:=⟨b - 1,by omega⟩
   exact zod l h.2 a b' x y (by omega) (by simpa using hx) (by simpa using hy)
theorem zzz [Gl] {call:CallF}{A:Ann}{quiet:Bool}{ops:Array Oper}{sf:St}{i:Nat}{oi:Oper} (hi:ops[i]?=some oi):∀ (fuel:Nat) (listed:Array Bool) (s s1:St),listed.size=ops.size→zyc ops listed →
  (∀ j oj,ops[j]?=some oj→j≠i→listed.getD j true=false→¬ Chain ops j i→oi.apart ops oj=true∧zih (clsOf quiet oi.op) (clsOf quiet oj.op)=true) →
  i∈Region.ready .any ops listed→stepD P A call quiet ops oi s=some s1→aAny P A call quiet ops sf fuel (listed.setIfInBounds i true) s1→aAny P A call quiet ops sf (fuel+1) listed s:=by
 intro fuel
 induction fuel with
 | zero =>
  intro listed s s1 hsz hcl hfree hr hst H
  refine ⟨fun h=>(by rw [h] at hr;cases hr),fun j hj=>?_⟩
  by_cases hji:j=i
  ·subst hji
   exact ⟨s1,by simp [aOp,hi,hst],H⟩
  ·have:=ready_mono hj hji
   rw [H.1] at this
   cases this
 | succ fuel ih =>
  intro listed s s1 hsz hcl hfree hr hst H
  refine ⟨fun h=>(by rw [h] at hr;cases hr),fun j hj=>?_⟩
  by_cases hji:j=i
  ·subst hji
   exact ⟨s1,by simp [aOp,hi,hst],H⟩
  ·obtain ⟨s2,h1,h2⟩:=H.2 j (ready_mono hj hji)
   obtain ⟨hjun,oj,hoj,hall⟩:=mem_ready.1 hj
   have hiun:=(mem_ready.1 hr).1
   have hilt:i<ops.size:=(Array.getElem?_eq_some_iff.1 hi).1
   have hnot:¬ Chain ops j i:=fun hc=>by
    have:=zim hcl hc (.inr hj)
    simp [show i<listed.size from by omega] at this hiun
    rw [this] at hiun;cases hiun
   obtain ⟨hap,hcp⟩:=hfree j oj hoj hji hjun hnot
   simp only [aOp,hoj] at h1
   obtain ⟨t,g1,g2⟩:=zul hap hcp hst h1
   refine ⟨t,by simp [aOp,hoj,g1], ?_⟩
   refine ih (listed.setIfInBounds j true) t s2 (by simp [hsz]) (fun k ok hk hl e he hb=>?_) (fun k ok hk hki hun hno=>?_) (ready_mono hr (Ne.symm hji)) g2 ?_
   ·by_cases hjk:j=k
    ·subst hjk
     rw [hoj] at hk
     obtain rfl:=Option.some.inj hk
     exact getD_set_true (hall e he hb)
    ·rw [getD_set_ne false hjk] at hl
     exact getD_set_true (hcl k ok hk hl e he hb)
   ·refine hfree k ok hk hki ?_ hno
    by_cases hjk:j=k
    ·subst hjk;exact hjun
    ·rw [getD_set_ne true hjk] at hun;exact hun
   ·rw [Array.setIfInBounds_comm _ _ hji]
    exact h2
theorem zqi {ops:Array Oper}{listed:Array Bool} (h:∀ j,j<ops.size→listed.getD j true=true):Region.ready .any ops listed=[]:=by
 rw [List.eq_nil_iff_forall_not_mem]
 intro j hj
 obtain ⟨h1,o,ho,_⟩:=mem_ready.1 hj
 rw [h j (Array.getElem?_eq_some_iff.1 ho).1] at h1
 cases h1
theorem zxs [Gl] {call:CallF}{A:Ann}{quiet:Bool}{ops:Array Oper}{sf:St} (hB:regB quiet ops=true):∀ (l:List Oper) (k:Nat) (listed:Array Bool) (s:St),(∀ j,l[j]?=ops[k+j]?)→listed.size=ops.size →
  (∀ j,j<ops.size→listed.getD j true=decide (j<k))→k+l.length=ops.size→opsD P A call quiet ops l s=some sf→aAny P A call quiet ops sf l.length listed s
 | [],k,listed,s,hl,hsz,hlist,hk,h=>by
  simp only [opsD,Option.some.injEq] at h
  subst h
  refine ⟨zqi (fun j hj=>?_),rfl⟩
  rw [hlist j hj]
  simp only [List.length_nil,Nat.add_zero] at hk
  simp;omega
 | o :: l,k,listed,s,hl,hsz,hlist,hk,h=>by
  simp only [opsD,Option.bind_eq_some_iff] at h
  obtain ⟨s1,h1,h2⟩:=h
  have h0:ops[k]?=some o:=by simpa using (hl 0).symm
  have hklt:k<ops.size:=(Array.getElem?_eq_some_iff.1 h0).1
  have hlist':∀ j,j<ops.size→listed.getD j false=decide (j<k):=by
   intro j hj
   have:=hlist j hj
   simp [show j<listed.size from by omega] at this ⊢
   exact this
  simp only [regB,Bool.and_eq_true] at hB
  have hedge:∀ (j:Nat) (oj:Oper),ops[j]?=some oj→∀ e∈oj.after,Region.binds .any e=true→e.on<j:=by
   intro j oj hj e he hb
   have hm:(oj,j)∈ops.toList.zipIdx:=by
    rw [List.mem_zipIdx_iff_getElem?]
    simpa using hj
   have:=List.all_eq_true.1 hB.1 (oj,j) hm
   have:=List.all_eq_true.1 this e (by simpa using he)
   simp only [Bool.or_eq_true,Bool.not_eq_true',decide_eq_true_eq] at this
   rcases this with h3 | h3
   ·rw [hb] at h3;cases h3
   ·exact h3
  refine zzz h0 l.length listed s s1 hsz (fun j oj hj hl' e he hb=>?_) (fun j oj hj hjk hun hno=>?_) ?_ h1 ?_
  ·have hjlt:=(Array.getElem?_eq_some_iff.1 hj).1
   rw [hlist' j hjlt] at hl'
   have:=hedge j oj hj e he hb
   rw [hlist' e.on (by omega)]
   simp only [decide_eq_true_eq] at hl' ⊢
   omega
  ·have hjlt:=(Array.getElem?_eq_some_iff.1 hj).1
   rw [hlist j hjlt] at hun
   simp only [decide_eq_false_iff_not] at hun
   have hkj:k<j:=by omega
   have hz:∀ (q:Nat) (oq:Oper),ops[q]?=some oq→ops.toList.zipIdx[q]?=some (oq,q):=by
    intro q oq hq
    rw [List.getElem?_zipIdx]
    simp [hq]
   rcases zod _ hB.2 k j (o,k) (oj,j) hkj (hz k o h0) (hz j oj hj) with h3 | h3
   ·exact absurd (zll h3) hno
   ·exact h3
  ·rw [mem_ready]
   refine ⟨by rw [hlist k hklt];simp,o,h0,fun e he hb=>?_⟩
   have:=hedge k o h0 e he hb
   rw [hlist' e.on (by omega)]
   simp [this]
  ·refine zxs (by simp only [regB,Bool.and_eq_true];exact hB) l (k+1) _ s1 (fun j=>?_) (by simp [hsz]) (fun j hj=>?_) (by simp only [List.length_cons] at hk;omega) h2
   ·have:=hl (j+1)
    simp only [List.getElem?_cons_succ] at this
    rw [this,Nat.add_assoc,Nat.add_comm 1 j]
   ·by_cases hjk:k=j
    ·subst hjk
     simp [show k<listed.size from by omega]
    ·rw [getD_set_ne true hjk,hlist j hj]
     simp only [decide_eq_decide]
     omega
theorem z3t [Gl] {call:CallF} (hc:zir P call) (hN:Names P) (hm:P.follows .mixedOrders=true) {A:Ann}{fid id:Nat}{ops:Array Oper}{draw:Bool} (hB:(!draw || regB (!A.loud fid id) ops)=true) {Q:Exit→Act→World→Prop}{n:Nat}{s s':St}{a:Act}
  (hs:StOk X w s ρ a) (h:opsD P A call (draw && !A.loud fid id) ops ops.toList s=some s') (hn:n≤s.heap.length)
  (hQ:∀ w' ρ' a',Evo n w s.heap ρ w' s'.heap ρ'→StOk X w' s' ρ' a'→Q .normal a' w'):(Code.region id ops draw).wp P Q a w:=by
 cases draw with
 | false=>exact wp_region_list (zs5 hc hN ops.toList s s' w ρ a hs h hn hQ)
 | true =>
  simp only [Bool.not_true,Bool.false_or,Bool.true_and] at hB h
  refine wp_region_any hm ?_
  have hs1:StOk X { w with drawn:=w.drawn+1 } s ρ a:=⟨hs.sim.drew,hs.tok.evo (Evo.drew w s.heap ρ),hs.defers⟩
  have:=zxs (P:=P) (A:=A) (call:=call) hB ops.toList 0 (Array.replicate ops.size false) s (fun j=>by simp) (by simp) (fun j hj=>by simp [hj]) (by simp) h
  simp only [Array.length_toList] at this
  exact zyh hc hN _ _ s _ ρ a hs1 this hn (fun w' ρ' a' he hs'=>hQ w' ρ' a' (((Evo.drew w s.heap ρ).mono hn).trans he) hs')
end
section
variable {P : Program} {X M : Nat → Prop} {w : World} {H : List Ob} {ρ : Pl}
theorem zkl {id:Nat}:∀ (l:List Nat) (H:List Ob),id ∉ l→(zan H l)[id]?=H[id]?
 | [],H,_=>rfl
 | i :: l,H,hn=>by
  simp only [zan]
  rw [zkl l _ (fun h=>hn (List.mem_cons_of_mem _ h))]
  unfold frzAt
  split
  ·rw [List.getElem?_set_ne (by intro h;exact hn (by simp [h]))]
  ·rfl
theorem zpv {call:CallF}{A:Ann}{f:FuncId}{args:List Dv}{d:Dv}{hh:Option (List Ob)} (h:callD call A H f args=some (d,hh)) {id:Nat} (hid:id<H.length) (hn:id ∉ zry A H f args) :
  (hh.getD H)[id]?=H[id]?:=by
 unfold callD at h
 simp only [] at h
 unfold zry at hn
 simp only [] at hn
 generalize (if A.muts f || A.ros f then (args.map (wkA A f),[]) else giveD H args)=gv at *
 have hf:(zan H gv.2)[id]?=H[id]?:=zkl gv.2 H (fun h=>hn (List.mem_append_right _ h))
 have hl0:=zcs H gv.2
 generalize zan H gv.2=H1 at *
 generalize zen H1 64 (zav gv.1) []=acc at *
 split at h
 ·rename_i hok
  have ha:=zlx hok
  simp only [Option.bind_eq_some_iff] at h
  obtain ⟨⟨r,hp⟩,hcl,h⟩:=h
  simp only [] at h
  have hgd:∀ (b:Bool),(b=false→H1=H)→((zk6 b H1).getD H)[id]?=H[id]?:=by
   intro b hb
   cases b with
   | true=>exact hf
   | false=>rfl
  have hg2:∀ {hh:Option (List Ob)},hh=zk6 (!gv.2.isEmpty) H1→(hh.getD H)[id]?=H[id]?:=by
   intro hh e
   subst e
   unfold zk6
   split
   ·exact hf
   ·rfl
  split at h
  ·simp only [Option.some.injEq,Prod.mk.injEq] at h
   exact hg2 h.2.symm
  ·simp only [Option.some.injEq,Prod.mk.injEq] at h
   exact hg2 h.2.symm
  ·split at h
   ·rename_i hcond
    simp only [Bool.and_eq_true,decide_eq_true_eq,Bool.or_eq_true] at hcond
    obtain ⟨⟨h1,h2⟩,h3⟩:=hcond
    simp only [Option.some.injEq,Prod.mk.injEq] at h
    obtain ⟨_,rfl⟩:=h
    simp only [Option.getD_some]
    rename_i acc' _ _ _ _ _ _ _ _
    rw [(zik _ _ H1 _ ha.nodup ha.lt h2).2.1 id (by rw [hl0];exact hid) (fun hm=>hn (List.mem_append_left _ hm))]
    exact hf
   ·cases h
 ·cases h
theorem zwq {y:Pv}{ds:List Dv} (h:cellsD (.p y)=some ds):∃ l:List Pv,ds=l.map .p:=by
 cases y with
 | agg cs=>simp only [cellsD,Option.some.injEq] at h;exact ⟨cs,h.symm⟩
 | tup cs=>simp [cellsD] at h
 | v x=>cases x<;>simp only [cellsD,Option.some.injEq,reduceCtorEq] at h<;>exact ⟨[_],h.symm⟩
 | lst f n cs=>simp only [cellsD,Option.some.injEq] at h;exact ⟨[_],h.symm⟩
 | iptr cs off=>simp only [cellsD,Option.some.injEq] at h;exact ⟨[_],h.symm⟩
 | fn f cs=>simp only [cellsD,Option.some.injEq] at h;exact ⟨[_],h.symm⟩
theorem zmt {α:Type}{x:α}:∀ (ds cs:List α) (off:Nat),x∈setAt cs off ds→x∈cs∨x∈ds
 | [],cs,off,h=>.inl h
 | d :: ds,cs,off,h=>by
  simp only [setAt] at h
  rcases zmt ds _ _ h with h | h
  ·rcases List.mem_or_eq_of_mem_set h with h | rfl
   ·exact .inl h
   ·exact .inr List.mem_cons_self
  ·exact .inr (List.mem_cons_of_mem _ h)
theorem zwc {place:Nat→Option (Nat×Nat)}:∀ (l:List (Nat×Dv)) (cells:List Dv) {ds:List Dv},(∀ x∈cells,isP x=true)→(∀ x∈l,isP x.2=true)→fillD place cells l=some ds→∀ x∈ds,isP x=true
 | [],cells,ds,hc,_,h=>by simp only [fillD,Option.some.injEq] at h;subst h;exact hc
 | (i,d) :: l,cells,ds,hc,hl,h=>by
  simp only [fillD] at h
  split at h
  ·rename_i off size es h1 h2
   split at h
   ·refine zwc l _ (fun x hx=>?_) (fun x hx=>hl x (List.mem_cons_of_mem _ hx)) h
    rcases zmt es _ _ hx with hx | hx
    ·exact hc x hx
    ·have hd:=hl (i,d) List.mem_cons_self
     simp only [] at hd
     cases d with
     | p y =>
      obtain ⟨l',rfl⟩:=zwq h2
      obtain ⟨z,_,rfl⟩:=List.mem_map.1 hx
      rfl
     | _=>simp [isP] at hd
   ·cases h
  ·cases h
theorem zn8:∀ {ds:List Dv}{cs:List Pv}{l:List Nat},(∀ x∈ds,isP x=true)→zfh H ds=some (cs,l)→l=[]
 | [],cs,l,_,h=>by simp only [zfh,Option.some.injEq,Prod.mk.injEq] at h;exact h.2.symm
 | d :: ds,cs,l,hp,h=>by
  have hd:=hp d List.mem_cons_self
  cases d with
  | p y =>
   simp only [zfh,zk2] at h
   split at h
   ·rename_i x l1 xs l2 e1 e2
    simp only [Option.some.injEq,Prod.mk.injEq] at h e1
    obtain ⟨_,rfl⟩:=h
    obtain ⟨_,rfl⟩:=e1
    rw [zn8 (fun x hx=>hp x (List.mem_cons_of_mem _ hx)) e2];rfl
   ·cases h
  | _=>simp [isP] at hd
theorem zwu {ts:Array TypeId}{x y d:Dv}{H':List Ob} (h:zer P H ts x y=some (d,H')):H'=H∨(refId d=[H.length]∧∃ o,H'=H++[o]∨∃ id,refId x=[id]∧H'=H.set id .dead++[o]):=by
 unfold zer at h
 split at h
 ·simp only [Option.bind_eq_some_iff] at h
  obtain ⟨sz,_,by_,_,z,_,h⟩:=h
  split at h
  ·cases h
  ·simp only [Option.bind_eq_some_iff] at h
   obtain ⟨⟨m,new⟩,_,h⟩:=h
   simp only [] at h
   split at h
   ·split at h
    ·split at h
     ·simp only [Option.some.injEq,Prod.mk.injEq] at h
      obtain ⟨rfl,rfl⟩:=h
      exact .inr ⟨rfl,_,.inl rfl⟩
     ·simp only [Option.some.injEq,Prod.mk.injEq] at h
      exact .inl h.2.symm
    ·cases h
   ·rename_i id off n esz
    split at h
    ·split at h
     ·simp only [Option.some.injEq,Prod.mk.injEq] at h
      obtain ⟨rfl,rfl⟩:=h
      exact .inr ⟨rfl,_,.inr ⟨id,rfl,rfl⟩⟩
     ·cases h
    ·split at h
     ·simp only [Option.some.injEq,Prod.mk.injEq] at h
      obtain ⟨rfl,rfl⟩:=h
      exact .inr ⟨rfl,_,.inr ⟨id,rfl,rfl⟩⟩
     ·cases h
    ·cases h
   ·cases h
 ·cases h
theorem z5i {H':List Ob}{x d:Dv} (h:H'=H∨(refId d=[H.length]∧∃ o,H'=H++[o]∨∃ id,refId x=[id]∧H'=H.set id .dead++[o])) {id:Nat} (h1:id ∉ refId x) (h2:id≠H.length∨id ∉ refId d):H'[id]?=H[id]?:=by
 rcases h with rfl | ⟨e,o,rfl | ⟨k,ek,rfl⟩⟩
 ·rfl
 ·have hne:id≠H.length:=by
   rcases h2 with h2 | h2
   ·exact h2
   ·rw [e] at h2;simpa using h2
  rw [List.getElem?_append]
  split
  ·rfl
  ·rw [List.getElem?_eq_none (by simp;omega),List.getElem?_eq_none (by omega)]
 ·have hne:id≠H.length:=by
   rcases h2 with h2 | h2
   ·exact h2
   ·rw [e] at h2;simpa using h2
  have hk:k≠id:=by
   intro e
   subst e
   exact h1 (by rw [ek];simp)
  rw [List.getElem?_append]
  split
  ·rw [List.getElem?_set_ne hk]
  ·rename_i hl
   rw [List.length_set] at hl
   rw [List.getElem?_eq_none (by simp;omega),List.getElem?_eq_none (by omega)]
theorem zwo [Gl] {call:CallF}{A:Ann}{tm:List Dv}{o:Oper} (hk:isApp o.op=true) {d:Dv}{hh:Option (List Ob)} (h:opD P A call tm H o=some (d,hh)):∃ x H',hh=some H'∧zhp A tm H o=refId x∧(∀ p,appX o=some p→x=evalO tm p.1) ∧
  (H'=H∨(refId d=[H.length]∧∃ o,H'=H++[o]∨∃ id,refId x=[id]∧H'=H.set id .dead++[o])):=by
 obtain ⟨dst,op,type,pos,after,guard⟩:=o
 cases op with
 | call c =>
  obtain ⟨callee,args,ts⟩:=c
  cases callee with
  | builtin b =>
   cases b with
   | append =>
    simp only [opD,zgj] at h
    obtain ⟨l⟩:=args
    match l,h with
    | [x,y],h =>
     simp only [List.map_cons,List.map_nil,Option.map_eq_some_iff] at h
     obtain ⟨⟨r,H'⟩,h1,h2⟩:=h
     simp only [Prod.mk.injEq] at h2
     obtain ⟨rfl,rfl⟩:=h2
     refine ⟨evalO tm x,H',rfl,rfl,fun p hp=>?_,zwu h1⟩
     unfold appX at hp
     split at hp
     ·rename_i e1 e2 e3
      simp only [Op.call.injEq,Call.mk.injEq] at e1
      obtain ⟨_,rfl,_⟩:=e1
      simp only [List.head?_cons,Option.map_some,Option.some.injEq] at hp
      rw [← hp]
     ·cases hp
    | [],h=>simp at h
    | [x],h=>simp at h
    | x :: y :: z :: w,h=>simp at h
   | _=>simp [isApp] at hk
  | _=>simp [isApp] at hk
 | _=>simp [isApp] at hk
theorem zva [Gl] {q:Bool}{call:CallF}{A:Ann}{tm:List Dv}{o:Oper} (hk0:heavy q o.op=true) {d:Dv}{hh:Option (List Ob)} (h:opD P A call tm H o=some (d,hh)) {id:Nat} (hid:id<H.length) (hn:id ∉ zhp A tm H o) :
  (hh.getD H)[id]?=H[id]?:=by
 by_cases hap:isApp o.op=true
 ·obtain ⟨x,H',rfl,e,_,hf⟩:=zwo hap h
  exact z5i hf (e ▸ hn) (.inl (by omega))
 have hk:(zcj o.op || isBS o.op)=true:=by
  unfold heavy at hk0
  rcases Bool.or_eq_true _ _ |>.mp hk0 with h | h
  ·exact absurd h hap
  ·exact (Bool.and_eq_true _ _ |>.mp h).2
 obtain ⟨dst,op,type,pos,after,guard⟩:=o
 cases op with
 | call c =>
  obtain ⟨callee,args,ts⟩:=c
  cases callee with
  | value f =>
   simp only [opD] at h
   simp only [zhp] at hn
   split at h
   ·rename_i g cs hf;rw [hf] at hn;exact zpv h hid hn
   ·rename_i g cs hf;rw [hf] at hn;exact zpv h hid hn
   ·cases h
  | _=>simp [zcj,isBS] at hk
 | buildSlice t len parts =>
  have hp:(parts.toList.all fun p=>isP (evalO tm p.2))=true:=by
   cases hq:(parts.toList.all fun p=>isP (evalO tm p.2)) with
   | true=>rfl
   | false=>simp only [zhp,hq,Bool.false_eq_true,if_false,List.mem_range] at hn;exact absurd hid hn
  simp only [opD] at h
  split at h
  ·simp only [Option.bind_eq_some_iff] at h
   obtain ⟨sz,_,z,_,h⟩:=h
   split at h
   ·cases h
   ·simp only [Option.bind_eq_some_iff,Option.map_eq_some_iff,Prod.mk.injEq] at h
    obtain ⟨ds,h4,⟨cs,l⟩,h5,_,h7⟩:=h
    simp only [] at h7
    have hds:=zwc _ _ (fun x hx=>by obtain ⟨y,_,rfl⟩:=List.mem_map.1 hx;rfl) (fun x hx=>by
     obtain ⟨p,hpm,rfl⟩:=List.mem_map.1 hx
     exact List.all_eq_true.1 hp p hpm) h4
    have:=zn8 hds h5
    subst this
    simp only [List.isEmpty_nil,if_true] at h7
    subst h7
    rfl
  ·cases h
 | _=>simp [zcj,isBS] at hk
theorem zpl {H':List Ob}{t:TypeId}{a:Dv} (h:∀ id off,a=.ptr id off→H'[id]?=H[id]?):loadD P H' t a=loadD P H t a:=by
 unfold loadD
 cases aggT P t with
 | none=>rfl
 | some ag =>
  cases a with
  | ptr id off=>simp only [h id off rfl]
  | p y=>cases y<;>rfl
  | _=>rfl
theorem yac {t:TypeId}{id off:Nat}{d:Dv} (h:loadD P H t (.ptr id off)=some d):id<H.length:=by
 unfold loadD at h
 cases ha:aggT P t with
 | none=>rw [ha] at h;cases h
 | some ag =>
  rw [ha] at h
  simp only [] at h
  cases hi:H[id]? with
  | none=>rw [hi] at h;cases h
  | some o=>exact (List.getElem?_eq_some_iff.1 hi).1
theorem ze3 {o:Oper}{x:Operand} (h:zdi o=some x):(∃ t,o.op=.load t x)∧o.guard=none:=by
 unfold zdi at h
 split at h
 ·rename_i t y e
  split at h
  ·rename_i hg
   simp only [Option.some.injEq] at h
   subst h
   exact ⟨⟨t,e⟩,Option.isNone_iff_eq_none.1 hg⟩
  ·cases h
 ·cases h
theorem zl9 [Gl] {A:Ann}{tm tm':List Dv}{o:Oper} (h:∀ x∈o.op.operands,evalO tm x=evalO tm' x):zhp A tm H o=zhp A tm' H o:=by
 obtain ⟨dst,op,type,pos,after,guard⟩:=o
 simp only [] at h
 cases op with
 | call c =>
  obtain ⟨callee,args,ts⟩:=c
  cases callee with
  | value f =>
   have e1:=h f (by simp [Op.operands,Call.operands])
   have e:=zr4 (tm:=tm) (tm':=tm') (l:=args) (fun x hx=>h x (by simp [Op.operands,Call.operands,hx]))
   simp only [zhp,e1,e]
  | builtin b =>
   cases b with
   | append =>
    obtain ⟨l⟩:=args
    cases l with
    | nil=>rfl
    | cons x l =>
     have e:=h x (by simp [Op.operands,Call.operands])
     simp only [zhp,e]
   | _=>rfl
  | _=>rfl
 | buildSlice t len parts =>
  have e:(parts.toList.all fun p=>isP (evalO tm p.2))=parts.toList.all fun p=>isP (evalO tm' p.2):=by
   rw [Bool.eq_iff_iff,List.all_eq_true,List.all_eq_true]
   have:∀ p∈parts.toList,evalO tm p.2=evalO tm' p.2:=fun p hp=>h p.2 (by simp only [Op.operands];simpa using ⟨p.1,by simpa using hp⟩)
   exact ⟨fun hh p hp=>by rw [← this p hp];exact hh p hp,fun hh p hp=>by rw [this p hp];exact hh p hp⟩
  simp only [zhp,e]
 | _=>rfl
def CondL [Gl] (A:Ann) (ops:Array Oper) (pairs:List (Nat×Nat)) (listed:Array Bool) (s:St) (j:Nat):Prop :=
 ∀ i oi x oj,(i,j)∈pairs→listed.getD i false=true→ops[i]?=some oi→zdi oi=some x→ops[j]?=some oj→∀ id off,evalO s.tmps x=.ptr id off→id ∉ zhp A s.tmps s.heap oj
def okM [Gl] (n0:Nat) (tm:List Dv) (oi:Oper) (id:Nat):Prop:=(∃ p,appX oi=some p∧p.2<tm.length∧id ∉ apT tm p)∨(zcj oi.op=true∧zcw tm oi=true∧id<n0)
def CondM [Gl] (n0:Nat) (ops:Array Oper) (pairs:List (Nat×Nat)) (listed:Array Bool) (s:St) (j:Nat):Prop :=
 ∀ i oi oj x,(i,j)∈pairs→listed.getD i false=true→ops[i]?=some oi→zdi oi=none→ops[j]?=some oj→zdi oj=some x→∀ id off,evalO s.tmps x=.ptr id off→okM n0 s.tmps oi id
theorem z4o [Gl] {A:Ann}{tm:List Dv}{H H':List Ob}{o:Oper} (h:isApp o.op=true):zhp A tm H o=zhp A tm H' o:=by
 obtain ⟨dst,op,type,pos,after,guard⟩:=o
 cases op with
 | call c =>
  obtain ⟨callee,args,ts⟩:=c
  cases callee with
  | builtin b =>
   cases b with
   | append=>rfl
   | _=>simp [isApp] at h
  | _=>simp [isApp] at h
 | _=>simp [isApp] at h
theorem zje {o:Oper}{p:Operand×Nat} (h:appX o=some p):isApp o.op=true∧o.dst=some p.2∧o.guard=none∧p.1∈o.op.operands∧p.1∈zjr o.op:=by
 unfold appX at h
 split at h
 ·rename_i args _ _ e1 e2 e3
  obtain ⟨x,hx,rfl⟩:=Option.map_eq_some_iff.1 h
  have hm:x∈args.toList:=List.mem_of_mem_head? hx
  rw [e1]
  exact ⟨rfl,e2,e3,by simpa [Op.operands,Call.operands] using hm,by simpa [zjr,addrs] using hm⟩
 ·cases h
theorem z5o [Gl] {q:Bool}{o:Oper} (ho:heavy q o.op=true):clsOf q o.op=.w:=by
 obtain ⟨dst,op,type,pos,after,guard⟩:=o
 cases op with
 | call c =>
  obtain ⟨callee,args,ts⟩:=c
  cases callee with
  | value f=>cases q<;>first | rfl | (simp [heavy,isApp] at ho)
  | builtin b=>cases b<;>first | rfl | (simp [heavy,isApp,zcj,isBS] at ho)
  | _=>simp [heavy,isApp,zcj,isBS] at ho
 | buildSlice=>cases q<;>first | rfl | (simp [heavy,isApp] at ho)
 | _=>simp [heavy,isApp,zcj,isBS] at ho
theorem zkz {q:Bool}{o:Oper}{x:Operand} (hx:zdi o=some x):heavy q o.op=false:=by
 obtain ⟨⟨t,e⟩,_⟩:=ze3 hx
 rw [e];cases q<;>rfl
theorem zsn {o:Oper} (h:zcj o.op=true):∀ x∈addrs o.op,x∈o.op.operands:=by
 obtain ⟨dst,op,type,pos,after,guard⟩:=o
 cases op with
 | call c =>
  obtain ⟨callee,args,ts⟩:=c
  cases callee with
  | value f=>intro x hx;simpa [Op.operands,Call.operands,addrs] using hx
  | _=>simp [zcj] at h
 | _=>simp [zcj] at h
theorem zl4 [Gl] {tm tm':List Dv}{o:Oper} (hc:zcj o.op=true) (h:∀ x∈addrs o.op,evalO tm x=evalO tm' x):zcw tm o=zcw tm' o:=by
 obtain ⟨dst,op,type,pos,after,guard⟩:=o
 cases op with
 | call c =>
  obtain ⟨callee,args,ts⟩:=c
  cases callee with
  | value f =>
   have e1:=h f (by simp [addrs])
   have e2:(args.toList.all fun x=>isP (evalO tm x))=args.toList.all fun x=>isP (evalO tm' x):=by
    rw [Bool.eq_iff_iff,List.all_eq_true,List.all_eq_true]
    have:∀ p∈args.toList,evalO tm p=evalO tm' p:=fun p hp=>h p (by simp only [addrs];exact List.mem_cons_of_mem _ hp)
    exact ⟨fun hh p hp=>by rw [← this p hp];exact hh p hp,fun hh p hp=>by rw [this p hp];exact hh p hp⟩
   simp only [zcw,e1,e2]
  | _=>simp [zcj] at hc
 | _=>simp [zcj] at hc
theorem zz6 [Gl] {A:Ann}{tm:List Dv}{H:List Ob}{o:Oper} (hc:zcj o.op=true) (h:zcw tm o=true):zhp A tm H o=[]:=by
 obtain ⟨dst,op,type,pos,after,guard⟩:=o
 cases op with
 | call c =>
  obtain ⟨callee,args,ts⟩:=c
  cases callee with
  | value f =>
   simp only [zcw,Bool.and_eq_true] at h
   obtain ⟨h1,h2⟩:=h
   have key:∀ (g:Nat) (ds:List Dv),(ds.all isP)=true→zry A H g ds=[]:=by
    intro g ds hd
    have hg:∃ ys:List Dv,(if A.muts g || A.ros g then (ds.map (wkA A g),[]) else giveD H ds)=(ys,[])∧zav ys=[]:=by
     cases hb:A.muts g || A.ros g with
     | true =>
      refine ⟨_,if_pos rfl, ?_⟩
      clear h1 h2
      induction ds with
      | nil=>rfl
      | cons d ds ih =>
       simp only [List.all_cons,Bool.and_eq_true] at hd
       simp only [List.map_cons,zav,ih hd.2,List.append_nil]
       cases d with
       | p x=>unfold wkA;split;rfl;unfold wkDv;split<;>first | rfl | (rename_i h3 h4;exact absurd rfl (h4 _))
       | _=>simp [isP] at hd
     | false =>
      rw [if_neg (by simp)]
      clear h1 h2
      induction ds with
      | nil=>exact ⟨[],rfl,rfl⟩
      | cons d ds ih =>
       simp only [List.all_cons,Bool.and_eq_true] at hd
       obtain ⟨ys,e1,e2⟩:=ih hd.2
       cases d with
       | p x=>exact ⟨.p (wk x) :: ys,by simp only [giveD,e1],by simp only [zav,za8,e2,List.append_nil]⟩
       | _=>simp [isP] at hd
    obtain ⟨ys,e1,e2⟩:=hg
    simp only [zry,e1,e2,List.append_nil]
    rfl
   have hall:∀ (cs:List Pv),((args.toList.map (evalO tm)++cs.map Dv.p).all isP)=true:=by
    intro cs
    rw [List.all_append,List.all_map,List.all_map,Bool.and_eq_true]
    exact ⟨h2,List.all_eq_true.2 fun _ _=>rfl⟩
   simp only [zhp]
   split
   ·exact key _ _ (hall _)
   ·rename_i g ds e;rw [e] at h1;simp [isP] at h1
   ·rfl
  | _=>simp [zcj] at hc
 | _=>simp [zcj] at hc
theorem zq5 (g:Nat→Nat):∀ (acc:List Nat) (H h:List Ob),H.length≤(zdh g H acc h).length
 | [],H,h=>by simp [zdh]
 | i :: acc,H,[]=>by simp [zdh]
 | i :: acc,H,o :: h=>by
  simp only [zdh]
  have:=zq5 g acc (H.set i (obMap g o)) h
  simpa using this
theorem zq8 {call:CallF}{A:Ann}{f:FuncId}{args:List Dv}{d:Dv}{hh:Option (List Ob)} (h:callD call A H f args=some (d,hh)):H.length≤(hh.getD H).length:=by
 unfold callD at h
 simp only [] at h
 generalize (if A.muts f || A.ros f then (args.map (wkA A f),[]) else giveD H args)=gv at *
 have hl0:=zcs H gv.2
 generalize zan H gv.2=H1 at *
 generalize zen H1 64 (zav gv.1) []=acc at *
 have hgd:∀ b,H.length≤((zk6 b H1).getD H).length:=by
  intro b
  cases b with
  | true=>exact Nat.le_of_eq hl0.symm
  | false=>exact Nat.le_refl _
 split at h
 ·simp only [Option.bind_eq_some_iff] at h
  obtain ⟨⟨r,hp⟩,hcl,h⟩:=h
  simp only [] at h
  split at h
  ·simp only [Option.some.injEq,Prod.mk.injEq] at h
   rw [← h.2];exact hgd _
  ·simp only [Option.some.injEq,Prod.mk.injEq] at h
   rw [← h.2];exact hgd _
  ·split at h
   ·simp only [Option.some.injEq,Prod.mk.injEq] at h
    rw [← h.2,← hl0]
    exact zq5 _ _ _ _
   ·cases h
 ·cases h
theorem zw1 {t:TypeId}{a d:Dv}{H':List Ob} (h:zdf P H t a d=some H'):H'.length=H.length:=by
 unfold zdf at h
 split at h
 ·split at h
  ·split at h
   ·simp only [Option.some.injEq] at h;rw [← h,List.length_set]
   ·cases h
  ·split at h
   ·split at h
    ·simp only [Option.some.injEq] at h;rw [← h,List.length_set,zcs]
    ·cases h
   ·cases h
  ·cases h
 ·cases h
theorem z9l [Gl] {call:CallF}{A:Ann}{tm:List Dv}{o:Oper}{d:Dv}{hh:Option (List Ob)} (h:opD P A call tm H o=some (d,hh)):H.length≤(hh.getD H).length:=by
 by_cases hap:isApp o.op=true
 ·obtain ⟨x,H',rfl,_,_,hf⟩:=zwo hap h
  rcases hf with rfl | ⟨_,o,rfl | ⟨k,_,rfl⟩⟩<;>simp
 obtain ⟨dst,op,type,pos,after,guard⟩:=o
 cases op with
 | call c =>
  obtain ⟨callee,args,ts⟩:=c
  cases callee with
  | value f =>
   simp only [opD] at h
   split at h
   ·exact zq8 h
   ·exact zq8 h
   ·cases h
  | builtin b =>
   have key:∀ {r:Option Dv},(r.map fun r=>(r,(none:Option (List Ob))))=some (d,hh)→H.length≤(hh.getD H).length:=by
    intro r h
    simp only [Option.map_eq_some_iff,Prod.mk.injEq] at h
    obtain ⟨_,_,_,rfl⟩:=h
    exact Nat.le_refl _
   cases b with
   | append=>simp [isApp] at hap
   | copy =>
    simp only [opD,zgj] at h
    split at h
    ·simp only [Option.map_eq_some_iff,Prod.mk.injEq] at h
     obtain ⟨⟨r,H'⟩,h1,_,rfl⟩:=h
     unfold copyD at h1
     split at h1
     ·simp only [Option.bind_eq_some_iff] at h1
      obtain ⟨sz,_,h1⟩:=h1
      split at h1
      ·cases h1
      ·simp only [Option.bind_eq_some_iff] at h1
       obtain ⟨⟨m,new⟩,_,h1⟩:=h1
       simp only [] at h1
       split at h1
       ·split at h1
        ·split at h1
         ·simp only [Option.some.injEq,Prod.mk.injEq] at h1
          rw [← h1.2];simp
         ·cases h1
        ·cases h1
       ·simp only [Option.some.injEq,Prod.mk.injEq] at h1
        rw [← h1.2];exact Nat.le_refl _
       ·cases h1
     ·cases h1
    ·cases h
   | delete =>
    simp only [opD,zgj] at h
    split at h
    ·simp only [Option.map_eq_some_iff,Prod.mk.injEq] at h
     obtain ⟨⟨r,H'⟩,h1,_,rfl⟩:=h
     unfold zss at h1
     split at h1
     ·split at h1
      ·simp only [Option.bind_eq_some_iff] at h1
       obtain ⟨_,_,_,_,_,_,h1⟩:=h1
       split at h1
       ·simp only [Option.some.injEq,Prod.mk.injEq] at h1
        rw [← h1.2];simp
       ·simp only [Option.some.injEq,Prod.mk.injEq] at h1
        rw [← h1.2];exact Nat.le_refl _
      ·cases h1
     ·cases h1
    ·cases h
   | len=>simp only [opD,zgj] at h;exact key h
   | _=>simp only [opD,zgj] at h;exact key h
  | _=>simp only [opD] at h;cases h
 | alloc e =>
  simp only [opD,Option.map_eq_some_iff,Prod.mk.injEq] at h
  obtain ⟨_,_,_,rfl⟩:=h
  simp
 | box t x =>
  simp only [opD,Option.map_eq_some_iff,Prod.mk.injEq] at h
  obtain ⟨_,_,_,rfl⟩:=h
  simp
 | store t x y =>
  simp only [opD,Option.map_eq_some_iff,Prod.mk.injEq] at h
  obtain ⟨H',h2,_,rfl⟩:=h
  exact Nat.le_of_eq (zw1 h2).symm
 | makeSlice t l c =>
  simp only [opD,Option.map_eq_some_iff,Prod.mk.injEq] at h
  obtain ⟨⟨r,H'⟩,h1,_,rfl⟩:=h
  unfold makeD at h1
  split at h1
  ·simp only [Option.bind_eq_some_iff] at h1
   obtain ⟨_,_,_,_,_,_,h1⟩:=h1
   split at h1
   ·cases h1
   ·split at h1
    ·simp only [Option.some.injEq,Prod.mk.injEq] at h1
     rw [← h1.2];simp
    ·cases h1
  ·cases h1
 | makeMap t r =>
  cases r with
  | none =>
   simp only [opD,Option.some.injEq,Prod.mk.injEq] at h
   rw [← h.2];simp
  | some r=>simp only [opD] at h;cases h
 | mapUpdate t m k x =>
  simp only [opD,Option.map_eq_some_iff,Prod.mk.injEq] at h
  obtain ⟨H',h1,_,rfl⟩:=h
  unfold zfa at h1
  split at h1
  ·split at h1
   ·simp only [Option.bind_eq_some_iff] at h1
    obtain ⟨_,_,_,_,_,_,h1⟩:=h1
    split at h1
    ·simp only [Option.bind_eq_some_iff] at h1
     obtain ⟨_,_,h1⟩:=h1
     split at h1
     ·simp only [Option.some.injEq] at h1;rw [← h1];simp
     ·cases h1
    ·simp only [Option.some.injEq] at h1;rw [← h1];simp
   ·cases h1
  ·cases h1
 | buildSlice t len parts =>
  simp only [opD] at h
  split at h
  ·simp only [Option.bind_eq_some_iff] at h
   obtain ⟨sz,_,z,_,h⟩:=h
   split at h
   ·cases h
   ·simp only [Option.bind_eq_some_iff,Option.map_eq_some_iff,Prod.mk.injEq] at h
    obtain ⟨ds,h4,⟨cs,l⟩,h5,_,h7⟩:=h
    simp only [] at h7
    split at h7
    ·rw [← h7];exact Nat.le_refl _
    ·rw [← h7];exact Nat.le_of_eq (zcs H l).symm
  ·cases h
 | slice t x lo hi mx =>
  simp only [opD] at h
  split at h
  ·cases h
  ·simp only [Option.map_eq_some_iff,Prod.mk.injEq] at h
   obtain ⟨_,_,_,rfl⟩:=h
   exact Nat.le_refl _
 | makeFunc fn first caps =>
  simp only [opD] at h
  split at h
  ·simp only [Option.map_eq_some_iff,Prod.mk.injEq] at h
   obtain ⟨_,_,_,rfl⟩:=h
   exact Nat.le_refl _
  ·cases h
 | nilCheck x =>
  simp only [opD] at h
  split at h<;>first | (simp only [Option.some.injEq,Prod.mk.injEq] at h;rw [← h.2];exact Nat.le_refl _) | cases h
 | makeInterface t x =>
  simp only [opD] at h
  split at h
  ·simp only [Option.some.injEq,Prod.mk.injEq] at h
   rw [← h.2];exact Nat.le_refl _
  ·cases h
 | _ =>
  first
  | (simp only [opD,Option.map_eq_some_iff,Prod.mk.injEq] at h;obtain ⟨_,_,_,rfl⟩:=h;exact Nat.le_refl _)
  | (simp only [opD,Option.some.injEq,Prod.mk.injEq] at h;rw [← h.2];exact Nat.le_refl _)
  | (simp only [opD] at h;cases h)
theorem zu2 [Gl] {q:Bool}{A:Ann}{call:CallF}{ops:Array Oper}{o:Oper}{s s1:St} (h:stepD P A call q ops o s=some s1):s.heap.length≤s1.heap.length:=by
 unfold stepD at h
 simp only [Option.bind_eq_some_iff] at h
 obtain ⟨b,hb,h⟩:=h
 cases b with
 | false =>
  simp only [Bool.false_eq_true,if_false,Option.some.injEq] at h
  rw [← h];exact Nat.le_refl _
 | true =>
  simp only [if_true,Option.bind_eq_some_iff] at h
  obtain ⟨⟨d,hh⟩,h1,h⟩:=h
  have hf:=z9l h1
  cases hh with
  | none=>simp only [Option.some.injEq] at h;rw [← h];exact hf
  | some H' =>
   simp only [] at h
   split at h
   ·cases h
   ·simp only [Option.some.injEq] at h
    rw [← h];exact hf
theorem zz5 [Gl] {q:Bool}{A:Ann}{call:CallF}{ops:Array Oper}{o:Oper}{s s1:St} (hc:zcj o.op=true) (hp:zcw s.tmps o=true) (h:stepD P A call q ops o s=some s1) {id:Nat} (hid:id<s.heap.length):s1.heap[id]?=s.heap[id]?:=by
 unfold stepD at h
 simp only [Option.bind_eq_some_iff] at h
 obtain ⟨b,hb,h⟩:=h
 cases b with
 | false =>
  simp only [Bool.false_eq_true,if_false,Option.some.injEq] at h
  rw [← h]
 | true =>
  simp only [if_true,Option.bind_eq_some_iff] at h
  obtain ⟨⟨d,hh⟩,h1,h⟩:=h
  have hf:=zva (q:=false) (by unfold heavy;simp [hc]) h1 hid (by rw [zz6 hc hp];simp)
  cases hh with
  | none=>simp only [Option.some.injEq] at h;rw [← h]
  | some H' =>
   simp only [] at h
   split at h
   ·cases h
   ·simp only [Option.some.injEq] at h
    rw [← h];exact hf
theorem z0k [Gl] {n0:Nat}{q:Bool}{call:CallF}{A:Ann}{ops:Array Oper}{oi oj:Oper}{s s1 s2:St}{x:Operand} (hap:oi.apart ops oj=true) (hx:zdi oj=some x) (hown:∀ p,appX oi=some p→p.1≠.tmp p.2) (hownc:zcj oi.op=true→∀ y∈addrs oi.op,∀ t,oi.dst=some t→y≠.tmp t)
  (hno:∀ id off,evalO s1.tmps x=.ptr id off→okM n0 s1.tmps oi id) (hn0:n0≤s.heap.length)
  (h1:stepD P A call q ops oi s=some s1) (h2:stepD P A call q ops oj s1=some s2):∃ t,stepD P A call q ops oj s=some t∧stepD P A call q ops oi t=some s2:=by
 obtain ⟨a1,a2,a3⟩:=Oper.apart_spec hap
 obtain ⟨⟨ty,hop⟩,hg⟩:=ze3 hx
 obtain ⟨di,hi,e1,c1,f1⟩:=zgt h1
 obtain ⟨dj,hj,e2,c2,f2⟩:=zgt h2
 have hr:clsOf q oj.op≠.w:=by rw [hop];simp [clsOf]
 have hheap:s2.heap=s1.heap:=cls_r hr h2
 have t1:s1.tmps=putD s.tmps oi.dst di:=by rw [e1]
 have t3:s1.nin=s.nin:=by rw [e1]
 have w1:wantD ops s.tmps oj=wantD ops s1.tmps oj:=by rw [t1,zkd (fun t ht=>a1 t ht)]
 have ev:evalO s1.tmps x=evalO s.tmps x:=by
  rw [t1,zf3 (fun t ht=>zif (a1 t ht) x (by rw [hop];simp [Op.operands]))]
 have hframe:∀ id off,evalO s.tmps x=.ptr id off→s1.heap[id]?=s.heap[id]?:=by
  intro id off he
  rcases hno id off (ev.trans he) with ⟨p,hp,hlt,hn⟩ | ⟨hcv,hpa,hlt⟩
  rotate_left
  ·rw [zl4 hcv (tm':=s.tmps) (fun y hy=>by rw [t1,zf3 (fun t ht=>hownc hcv y hy t ht)])] at hpa
   exact zz5 hcv hpa h1 (by omega)
  obtain ⟨pa,pd,pg,_,_⟩:=zje hp
  have hown:=hown p hp
  have h1':=h1
  unfold stepD wantD at h1'
  simp only [pg,Option.bind_some,if_true,Option.bind_eq_some_iff] at h1'
  obtain ⟨⟨d,hh⟩,h3,h4⟩:=h1'
  obtain ⟨z,H',rfl,_,hz,hf⟩:=zwo pa h3
  have hz:=hz p hp
  subst hz
  simp only [] at h4
  split at h4
  ·cases h4
  ·simp only [Option.some.injEq] at h4
   rw [pd] at h4
   subst h4
   simp only [putD] at hlt hn ⊢
   rw [List.length_set] at hlt
   unfold apT at hn
   rw [List.mem_append,not_or] at hn
   have e5:evalO (s.tmps.set p.2 d) p.1=evalO s.tmps p.1:=zf3 (dst:=some p.2) (fun t ht=>by obtain rfl:=Option.some.inj ht;exact hown)
   have e6:(s.tmps.set p.2 d).getD p.2 .junk=d:=by simp [List.getD_eq_getElem?_getD,hlt]
   rw [e5,e6] at hn
   exact z5i hf hn.1 (.inr hn.2)
 have o1:opD P A call s.tmps s.heap oj=opD P A call s1.tmps s1.heap oj:=by
  rw [t1,znp (fun t ht=>a1 t ht)]
  obtain ⟨dst,op,type,pos,after,guard⟩:=oj
  simp only [] at hop
  subst hop
  simp only [opD,zpl hframe]
 have g1:=f2 s.tmps s.heap s.nin w1 o1
 refine ⟨_,g1, ?_⟩
 have hh:=cls_r hr g1
 simp only [] at hh
 have w2:wantD ops (putD s.tmps oj.dst dj) oi=wantD ops s.tmps oi:=zkd (fun t ht=>a3 t ht)
 have o2:opD P A call (putD s.tmps oj.dst dj) (Option.getD hj s.heap) oi=opD P A call s.tmps s.heap oi:=by
  rw [znp (fun t ht=>a3 t ht),hh]
 have g2:=f1 (putD s.tmps oj.dst dj) (Option.getD hj s.heap) s.nin w2 o2
 rw [g2,e2,t1,t3]
 have x1:Option.getD hj s1.heap=s1.heap:=by
  have:=congrArg St.heap e2
  simp only [] at this
  rw [← this];exact hheap
 have x2:Option.getD hi s.heap=s1.heap:=by
  have:=congrArg St.heap e1
  simpa using this.symm
 rw [hh,x1,x2]
 congr 2
 exact (zmy (fun t ht=>a2 t ht)).symm
theorem z0b [Gl] {q:Bool}{call:CallF}{A:Ann}{ops:Array Oper}{oi oj:Oper}{s s1 s2:St}{x:Operand} (hap:oi.apart ops oj=true) (hx:zdi oi=some x) (hst:∀ t,oi.dst=some t→x≠.tmp t) (hk:heavy q oj.op=true)
  (hno:∀ id off,evalO s1.tmps x=.ptr id off→id ∉ zhp A s1.tmps s1.heap oj)
  (h1:stepD P A call q ops oi s=some s1) (h2:stepD P A call q ops oj s1=some s2):∃ t,stepD P A call q ops oj s=some t∧stepD P A call q ops oi t=some s2:=by
 obtain ⟨a1,a2,a3⟩:=Oper.apart_spec hap
 obtain ⟨⟨ty,hop⟩,hg⟩:=ze3 hx
 obtain ⟨di,hi,e1,c1,f1⟩:=zgt h1
 obtain ⟨dj,hj,e2,c2,f2⟩:=zgt h2
 have hr:clsOf q oi.op≠.w:=by rw [hop];simp [clsOf]
 have hheap:s1.heap=s.heap:=cls_r hr h1
 have t1:s1.tmps=putD s.tmps oi.dst di:=by rw [e1]
 have t3:s1.nin=s.nin:=by rw [e1]
 have w1:wantD ops s.tmps oj=wantD ops s1.tmps oj:=by rw [t1,zkd (fun t ht=>a1 t ht)]
 have o1:opD P A call s.tmps s.heap oj=opD P A call s1.tmps s1.heap oj:=by
  rw [t1,znp (fun t ht=>a1 t ht),hheap]
 have g1:=f2 s.tmps s.heap s.nin w1 o1
 refine ⟨_,g1, ?_⟩
 have w2:wantD ops (putD s.tmps oj.dst dj) oi=wantD ops s.tmps oi:=zkd (fun t ht=>a3 t ht)
 have hload:∃ d,loadD P s.heap ty (evalO s.tmps x)=some d:=by
  unfold stepD wantD at h1
  simp only [hg,Option.bind_some,if_true,Option.bind_eq_some_iff] at h1
  obtain ⟨⟨d,hh⟩,h1,_⟩:=h1
  obtain ⟨dst,op,type,pos,after,guard⟩:=oi
  simp only [] at hop
  subst hop
  simp only [opD,Option.map_eq_some_iff] at h1
  obtain ⟨d',h1,_⟩:=h1
  exact ⟨d',h1⟩
 have hframe:∀ id off,evalO s.tmps x=.ptr id off→(Option.getD hj s.heap)[id]?=s.heap[id]?:=by
  intro id off he
  obtain ⟨d,hd⟩:=hload
  have hlt:=yac (he ▸ hd)
  have hev:evalO s1.tmps x=evalO s.tmps x:=by rw [t1,zf3 (fun t ht=>hst t ht)]
  have hnt:=hno id off (hev.trans he)
  have h2':=h2
  unfold stepD at h2'
  simp only [Option.bind_eq_some_iff] at h2'
  obtain ⟨b,hb,h2'⟩:=h2'
  cases b with
  | false =>
   simp only [Bool.false_eq_true,if_false,Option.some.injEq] at h2'
   have e3:Option.getD hj s1.heap=s1.heap:=by
    have:=congrArg St.heap (e2.symm.trans h2'.symm)
    simpa using this
   rw [hheap] at e3
   rw [e3]
  | true =>
   simp only [if_true,Option.bind_eq_some_iff] at h2'
   obtain ⟨⟨d',hh⟩,hop2,h2'⟩:=h2'
   have hfr:=zva hk hop2 (by rw [hheap];exact hlt) hnt
   have e3:Option.getD hj s1.heap=Option.getD hh s1.heap:=by
    cases hh with
    | none =>
     simp only [Option.some.injEq] at h2'
     have:=congrArg St.heap (e2.symm.trans h2'.symm)
     simpa using this
    | some H' =>
     simp only [] at h2'
     split at h2'
     ·cases h2'
     simp only [Option.some.injEq] at h2'
     have:=congrArg St.heap (e2.symm.trans h2'.symm)
     simpa using this
   rw [hheap] at e3 hfr
   rw [e3];exact hfr
 have o2:opD P A call (putD s.tmps oj.dst dj) (Option.getD hj s.heap) oi=opD P A call s.tmps s.heap oi:=by
  rw [znp (fun t ht=>a3 t ht)]
  obtain ⟨dst,op,type,pos,after,guard⟩:=oi
  simp only [] at hop
  subst hop
  simp only [opD,zpl hframe]
 have g2:=f1 (putD s.tmps oj.dst dj) (Option.getD hj s.heap) s.nin w2 o2
 rw [g2,e2,t1,t3]
 have x1:Option.getD hi s.heap=s.heap:=by
  have:=congrArg St.heap e1
  simp only [] at this
  rw [← this];exact hheap
 have x2:Option.getD hi (Option.getD hj s.heap)=Option.getD hj s.heap:=by
  have:=cls_r hr g2
  simpa using this
 rw [x2,hheap]
 congr 2
 exact (zmy (fun t ht=>a2 t ht)).symm
def watch (o:Oper):List Operand:=(match zdi o with | some x=>[x] | none=>[])++(match appX o with | some p=>[p.1,.tmp p.2] | none=>[])++(if zcj o.op then addrs o.op else [])
theorem z5h {o:Oper}{x:Operand} (h:zdi o=some x):x∈watch o:=by simp [watch,h]
theorem ydc {o:Oper}{p:Operand×Nat} (h:appX o=some p):p.1∈watch o:=by simp [watch,h]
theorem ydb {o:Oper}{p:Operand×Nat} (h:appX o=some p):.tmp p.2∈watch o:=by simp [watch,h]
theorem yca {o:Oper}{x:Operand} (h:zcj o.op=true) (hx:x∈addrs o.op):x∈watch o:=by simp [watch,h,hx]
theorem zto [Gl] {n0:Nat}{tm tm':List Dv}{o:Oper}{id:Nat} (h:∀ x∈watch o,evalO tm' x=evalO tm x) (hl:tm'.length=tm.length):okM n0 tm' o id↔okM n0 tm o id:=by
 unfold okM
 have h1:∀ p,appX o=some p→apT tm' p=apT tm p:=by
  intro p hp
  unfold apT
  rw [h p.1 (ydc hp)]
  exact congrArg (fun z=>refId (evalO tm p.1)++refId z) (h (.tmp p.2) (ydb hp))
 have h2:zcj o.op=true→zcw tm' o=zcw tm o:=fun hc=>zl4 hc (fun x hx=>h x (yca hc hx))
 constructor
 ·rintro (⟨p,e,h3,h4⟩ | ⟨hc,h3,h4⟩)
  ·exact .inl ⟨p,e,hl ▸ h3,h1 p e ▸ h4⟩
  ·exact .inr ⟨hc,h2 hc ▸ h3,h4⟩
 ·rintro (⟨p,e,h3,h4⟩ | ⟨hc,h3,h4⟩)
  ·exact .inl ⟨p,e,hl ▸ h3,(h1 p e).symm ▸ h4⟩
  ·exact .inr ⟨hc,(h2 hc).symm ▸ h3,h4⟩
def aAnyC [Gl] (P:Program) (A:Ann) (call:CallF) (q:Bool) (n0:Nat) (ops:Array Oper) (pairs:List (Nat×Nat)) (sf:St):Nat→Array Bool→St→Prop
 | 0,listed,s=>Region.ready .any ops listed=[]∧s=sf
 | fuel+1,listed,s=>(Region.ready .any ops listed=[]→s=sf)∧∀ i∈Region.ready .any ops listed,CondL A ops pairs listed s i∧CondM n0 ops pairs listed s i∧∃ s',aOp P A call q ops i s=some s'∧aAnyC P A call q n0 ops pairs sf fuel (listed.setIfInBounds i true) s'
theorem aAnyC.any [Gl] {q:Bool}{n0:Nat}{call:CallF}{A:Ann}{ops:Array Oper}{pairs:List (Nat×Nat)}{sf:St}:∀ {fuel:Nat}{listed:Array Bool}{s:St},aAnyC P A call q n0 ops pairs sf fuel listed s→aAny P A call q ops sf fuel listed s
 | 0,_,_,h=>h
 | fuel+1,_,_,h=>⟨h.1,fun i hi=>by
   obtain ⟨_,_,s',h1,h2⟩:=h.2 i hi
   exact ⟨s',h1,h2.any⟩⟩
theorem z0z {listed:Array Bool}{i:Nat} (h:i<listed.size):listed.getD i true=listed.getD i false:=by simp [h]
theorem zwd [Gl] {q:Bool}{n0:Nat}{call:CallF}{A:Ann}{ops:Array Oper}{pairs:List (Nat×Nat)}{sf:St}{i:Nat}{oi:Oper} (hi:ops[i]?=some oi)
  (hpair:∀ a b,(a,b)∈pairs→∃ oa ob,ops[a]?=some oa∧ops[b]?=some ob∧((∃ x,zdi oa=some x∧heavy q ob.op=true∧∀ t,oa.dst=some t→x≠.tmp t)∨∃ x,zdi oa=none∧zdi ob=some x∧(∀ p,appX oa=some p→p.1≠.tmp p.2)∧(zcj oa.op=true→∀ y∈addrs oa.op,∀ t,oa.dst=some t→y≠.tmp t)))
  (hdst:∀ a b oa oq q x,(a,b)∈pairs→ops[a]?=some oa→x∈watch oa→ops[q]?=some oq→q≠a→¬ Chain ops a q→∀ t,oq.dst=some t→x≠.tmp t):∀ (fuel:Nat) (listed:Array Bool) (s s1:St),listed.size=ops.size→zyc ops listed →
  (∀ j oj,ops[j]?=some oj→j≠i→listed.getD j true=false→¬ Chain ops j i→oi.apart ops oj=true∧(zih (clsOf q oi.op) (clsOf q oj.op)=true∨(i,j)∈pairs)∧(j,i) ∉ pairs) →
  i∈Region.ready .any ops listed→CondL A ops pairs listed s i→CondM n0 ops pairs listed s i→n0≤s.heap.length→stepD P A call q ops oi s=some s1→aAnyC P A call q n0 ops pairs sf fuel (listed.setIfInBounds i true) s1→aAnyC P A call q n0 ops pairs sf (fuel+1) listed s:=by
 intro fuel
 induction fuel with
 | zero =>
  intro listed s s1 hsz hcl hfree hr hci hmi hn0 hst HH
  refine ⟨fun h=>(by rw [h] at hr;cases hr),fun j hj=>?_⟩
  by_cases hji:j=i
  ·subst hji
   exact ⟨hci,hmi,s1,by simp [aOp,hi,hst],HH⟩
  ·have:=ready_mono hj hji
   rw [HH.1] at this
   cases this
 | succ fuel ih =>
  intro listed s s1 hsz hcl hfree hr hci hmi hn0 hst HH
  refine ⟨fun h=>(by rw [h] at hr;cases hr),fun j hj=>?_⟩
  by_cases hji:j=i
  ·subst hji
   exact ⟨hci,hmi,s1,by simp [aOp,hi,hst],HH⟩
  ·obtain ⟨hcj,hmj,s2,h1,h2⟩:=HH.2 j (ready_mono hj hji)
   obtain ⟨hjun,oj,hoj,hall⟩:=mem_ready.1 hj
   have hiun:=(mem_ready.1 hr).1
   have hilt:i<ops.size:=(Array.getElem?_eq_some_iff.1 hi).1
   have hjlt:j<ops.size:=(Array.getElem?_eq_some_iff.1 hoj).1
   have hnot:¬ Chain ops j i:=fun hc=>by
    have:=zim hcl hc (.inr hj)
    simp [show i<listed.size from by omega] at this hiun
    rw [this] at hiun;cases hiun
   have hnot2:¬ Chain ops i j:=fun hc=>by
    have:=zim hcl hc (.inr hr)
    simp [show j<listed.size from by omega] at this hjun
    rw [this] at hjun;cases hjun
   obtain ⟨hap,hcp,hnp⟩:=hfree j oj hoj hji hjun hnot
   obtain ⟨a1,a2,a3⟩:=Oper.apart_spec hap
   simp only [aOp,hoj] at h1
   have hswap:∃ t,stepD P A call q ops oj s=some t∧stepD P A call q ops oi t=some s2:=by
    rcases hcp with hcp | hcp
    ·exact zul hap hcp hst h1
    ·obtain ⟨oa,ob,ea,eb,hpr⟩:=hpair i j hcp
     rw [hi] at ea
     obtain rfl:=Option.some.inj ea
     rw [hoj] at eb
     obtain rfl:=Option.some.inj eb
     have hli:(listed.setIfInBounds i true).getD i false=true:=by simp [show i<listed.size from by omega]
     rcases hpr with ⟨x,hx,hk,hown⟩ | ⟨x,hp,hx,hown,hownc⟩
     ·exact z0b hap hx hown hk (fun id off he=>hcj i oi x oj hcp hli hi hx hoj id off he) hst h1
     ·exact z0k hap hx hown hownc (fun id off he=>hmj i oi oj x hcp hli hi hp hoj hx id off he) hn0 hst h1
   obtain ⟨t,g1,g2⟩:=hswap
   obtain ⟨di,hi',e1,_,_⟩:=zgt hst
   obtain ⟨dj,hj',e2,_,_⟩:=zgt g1
   have haddr:∀ (q:Nat) (oq:Oper) (d:Dv) (a b:Nat) (oa:Oper) (x:Operand),(a,b)∈pairs→listed.getD a false=true→ops[a]?=some oa→x∈watch oa→ops[q]?=some oq→listed.getD q true=false →
     evalO (putD s.tmps oq.dst d) x=evalO s.tmps x:=by
    intro q oq d a b oa x hab hla hoa hx hoq hlq
    have hq:q<listed.size:=by rw [hsz];exact (Array.getElem?_eq_some_iff.1 hoq).1
    refine zf3 (fun t ht=>hdst a b oa oq q x hab hoa hx hoq (fun e=>?_) (fun hc=>?_) t ht)
    ·subst e
     rw [z0z hq,hla] at hlq
     cases hlq
    have:=zim hcl hc (.inl hla)
    rw [z0z hq,this] at hlq
    cases hlq
   have hokM:∀ (q:Nat) (oq:Oper) (d:Dv) (a b:Nat) (oa:Oper) (id:Nat),(a,b)∈pairs→listed.getD a false=true→ops[a]?=some oa→ops[q]?=some oq→listed.getD q true=false →
     (okM n0 (putD s.tmps oq.dst d) oa id↔okM n0 s.tmps oa id):=by
    intro q oq d a b oa id hab hla hoa hoq hlq
    refine zto (fun x hx=>haddr q oq d a b oa x hab hla hoa hx hoq hlq) ?_
    cases oq.dst with
    | none=>rfl
    | some t=>exact List.length_set
   refine ⟨fun a oa x ob hab hla hoa hx hob id off he=>?_,fun a oa ob x hab hla hoa hp hob hx id off he=>?_,t,by simp [aOp,hoj,g1], ?_⟩
   ·
    obtain ⟨oa',ob',ea,eb,hpr⟩:=hpair a j hab
    rw [hoa] at ea
    obtain rfl:=Option.some.inj ea
    rw [hob] at eb
    obtain rfl:=Option.some.inj eb
    rw [hoj] at hob
    obtain rfl:=Option.some.inj hob
    have hk:heavy q oj.op=true:=by
     rcases hpr with ⟨_,_,hk,_⟩ | ⟨_,hp,_,_⟩
     ·exact hk
     ·rw [hp] at hx;cases hx
    have hci':clsOf q oi.op≠.w:=by
     rcases hcp with hcp | hcp
     ·intro e;rw [e,z5o hk] at hcp;simp [zih] at hcp
     ·obtain ⟨oa',ob',ea,eb,hpr'⟩:=hpair i j hcp
      rw [hi] at ea
      obtain rfl:=Option.some.inj ea
      rw [hoj] at eb
      obtain rfl:=Option.some.inj eb
      rcases hpr' with ⟨x',hx',_,_⟩ | ⟨x',_,hx',_⟩
      ·obtain ⟨⟨ty,e⟩,_⟩:=ze3 hx'
       rw [e];simp [clsOf]
      ·rw [zkz hx'] at hk;cases hk
    have hh:=cls_r hci' hst
    have hla':(listed.setIfInBounds i true).getD a false=true:=getD_set_true hla
    have:=hcj a oa x oj hab hla' hoa hx hoj id off (by rw [e1];simp only [];rw [haddr i oi di a j oa x hab hla hoa (z5h hx) hi hiun];exact he)
    rw [hh,e1] at this
    simp only [] at this
    rwa [zl9 (fun y hy=>zf3 fun t ht=>zif (a1 t ht) y hy)] at this
   ·rw [hoj] at hob
    obtain rfl:=Option.some.inj hob
    have hla':(listed.setIfInBounds i true).getD a false=true:=getD_set_true hla
    obtain ⟨⟨ty,e⟩,_⟩:=ze3 hx
    have:=hmj a oa oj x hab hla' hoa hp hoj hx id off (by rw [e1];simp only [];rw [zf3 (fun t ht=>zif (a1 t ht) x (by rw [e];simp [Op.operands]))];exact he)
    rw [e1] at this
    simp only [] at this
    exact (hokM i oi di a j oa id hab hla hoa hi hiun).1 this
   ·refine ih (listed.setIfInBounds j true) t s2 (by simp [hsz]) (fun k ok hk hl e he hb=>?_) (fun k ok hk hki hun hno=>?_) (ready_mono hr (Ne.symm hji)) (fun a oa x ob hab hla hoa hx hob id off he=>?_) (fun a oa ob x hab hla hoa hp hob hx id off he=>?_) (Nat.le_trans hn0 (zu2 g1)) g2 ?_
    ·by_cases hjk:j=k
     ·subst hjk
      rw [hoj] at hk
      obtain rfl:=Option.some.inj hk
      exact getD_set_true (hall e he hb)
     ·rw [getD_set_ne false hjk] at hl
      exact getD_set_true (hcl k ok hk hl e he hb)
    ·refine hfree k ok hk hki ?_ hno
     by_cases hjk:j=k
     ·subst hjk;exact hjun
     ·rw [getD_set_ne true hjk] at hun;exact hun
    ·
     have haj:a≠j:=by rintro rfl;exact hnp hab
     have hla2:listed.getD a false=true:=by rw [getD_set_ne false (Ne.symm haj)] at hla;exact hla
     obtain ⟨oa',ob',ea,eb,hpr⟩:=hpair a i hab
     rw [hoa] at ea
     obtain rfl:=Option.some.inj ea
     rw [hob] at eb
     obtain rfl:=Option.some.inj eb
     rw [hi] at hob
     obtain rfl:=Option.some.inj hob
     have hk:heavy q oi.op=true:=by
      rcases hpr with ⟨_,_,hk,_⟩ | ⟨_,hp,_,_⟩
      ·exact hk
      ·rw [hp] at hx;cases hx
     have hcj':clsOf q oj.op≠.w:=by
      rcases hcp with hcp | hcp
      ·intro e;rw [e,z5o hk] at hcp;simp [zih] at hcp
      ·obtain ⟨oa',ob',ea,eb,hpr'⟩:=hpair i j hcp
       rw [hi] at ea
       obtain rfl:=Option.some.inj ea
       rw [hoj] at eb
       obtain rfl:=Option.some.inj eb
       rcases hpr' with ⟨x',hx',_,_⟩ | ⟨x',_,hx',_⟩
       ·rw [zkz hx'] at hk;cases hk
       ·obtain ⟨⟨ty,e⟩,_⟩:=ze3 hx'
        rw [e];simp [clsOf]
     have hh:=cls_r hcj' g1
     have:=hci a oa x oi hab hla2 hoa hx hi id off (by rw [e2] at he;simp only [] at he;rw [haddr j oj dj a i oa x hab hla2 hoa (z5h hx) hoj hjun] at he;exact he)
     rw [hh,e2]
     simp only []
     rwa [zl9 (fun y hy=>zf3 fun t ht=>zif (a3 t ht) y hy)]
    ·have haj:a≠j:=by rintro rfl;exact hnp hab
     have hla2:listed.getD a false=true:=by rw [getD_set_ne false (Ne.symm haj)] at hla;exact hla
     rw [hi] at hob
     obtain rfl:=Option.some.inj hob
     obtain ⟨⟨ty,e⟩,_⟩:=ze3 hx
     have:=hmi a oa oi x hab hla2 hoa hp hi hx id off (by rw [e2] at he;simp only [] at he;rw [zf3 (fun t ht=>zif (a3 t ht) x (by rw [e];simp [Op.operands]))] at he;exact he)
     rw [e2]
     simp only []
     exact (hokM j oj dj a i oa id hab hla2 hoa hoj hjun).2 this
    ·rw [Array.setIfInBounds_comm _ _ hji]
     exact h2
theorem zgo:∀ {l:List Oper},zqg l=true→∀ (p q:Nat) (o o':Oper),p≤q→l[p]?=some o→l[q]?=some o'→∀ x∈zjr o.op,∀ t,x=.tmp t→o'.dst≠some t
 | [],_,p,q,o,o',_,hp,_,_,_,_,_=>by simp at hp
 | a :: l,h,p,q,o,o',hpq,hp,hq,x,hx,t,ht=>by
  simp only [zqg,Bool.and_eq_true] at h
  cases p with
  | zero =>
   simp only [List.getElem?_cons_zero,Option.some.injEq] at hp
   subst hp
   have:=List.all_eq_true.1 h.1 x hx
   subst ht
   simp only [] at this
   have:=List.all_eq_true.1 this o' (List.mem_of_getElem? hq)
   simpa using this
  | succ p =>
   obtain ⟨q,rfl⟩:∃ q',q=q'+1:=⟨q - 1,by omega⟩
   exact zgo h.2 p q o o' (by omega) (by simpa using hp) (by simpa using hq) x hx t ht
theorem ztp [Gl] {A:Ann}{call:CallF}{q:Bool}{ops:Array Oper}:∀ (l:List Oper) (s sf:St),opsD P A call q ops l s=some sf→s.tmps.length=sf.tmps.length
 | [],s,sf,h=>by simp only [opsD,Option.some.injEq] at h;rw [h]
 | o :: l,s,sf,h=>by
  simp only [opsD,Option.bind_eq_some_iff] at h
  obtain ⟨s1,h1,h2⟩:=h
  rw [← ztp l s1 sf h2]
  obtain ⟨d,hh,e,_⟩:=zgt h1
  rw [e]
  cases o.dst with
  | none=>rfl
  | some t=>exact List.length_set.symm
theorem zmj [Gl] {q:Bool}{pairs:List (Nat×Nat)}{opsA:Array Oper}{ws:List Nat}:∀ (l:List (Oper×Nat)),zu7 q pairs opsA ws l=true→∀ (a b:Nat) (x y:Oper×Nat),a<b→l[a]?=some x→l[b]?=some y →
  (ws.getD y.2 0).testBit x.2=true∨(x.1.apart opsA y.1=true∧(zih (clsOf q x.1.op) (clsOf q y.1.op)=true∨(x.2,y.2)∈pairs))
 | [],_,a,b,x,y,_,hx,_=>by simp at hx
 | (o,i) :: l,h,a,b,x,y,hab,hx,hy=>by
  simp only [zu7,Bool.and_eq_true] at h
  cases a with
  | zero =>
   obtain ⟨b',rfl⟩:∃ b',b=b'+1:=⟨b - 1,by omega⟩
   simp only [List.getElem?_cons_zero,Option.some.injEq] at hx
   simp only [List.getElem?_cons_succ] at hy
   subst hx
   have:=List.all_eq_true.1 h.1 y (List.mem_of_getElem? hy)
   simp only [Bool.or_eq_true,Bool.and_eq_true,List.contains_iff_mem] at this
   exact this
  | succ a =>
   obtain ⟨b',rfl⟩:∃ b',b=b'+1:=⟨b - 1,by omega⟩
   exact zmj l h.2 a b' x y (by omega) (by simpa using hx) (by simpa using hy)
theorem zmk [Gl] {A:Ann}{call:CallF}{q:Bool}{ops:Array Oper}{x:Operand}:∀ (l:List Oper) (s sf:St),opsD P A call q ops l s=some sf→(∀ o∈l,∀ t,x=.tmp t→o.dst≠some t)→evalO s.tmps x=evalO sf.tmps x
 | [],s,sf,h,_=>by simp only [opsD,Option.some.injEq] at h;rw [h]
 | o :: l,s,sf,h,hn=>by
  simp only [opsD,Option.bind_eq_some_iff] at h
  obtain ⟨s1,h1,h2⟩:=h
  rw [← zmk l s1 sf h2 fun o' ho=>hn o' (List.mem_cons_of_mem _ ho)]
  obtain ⟨d,hh,e,_⟩:=zgt h1
  rw [e]
  simp only []
  rw [zf3]
  intro t' ht e'
  exact hn o List.mem_cons_self t' e' ht
theorem zl0 {o:Oper}{x:Operand} (h:zdi o=some x):x∈zjr o.op:=by
 obtain ⟨⟨t,e⟩,_⟩:=ze3 h
 rw [e];simp [zjr,addrs]
theorem zza {q:Bool}{o:Oper} (h0:heavy q o.op=true):∀ x∈o.op.operands,x∈zjr o.op:=by
 by_cases hap:isApp o.op=true
 ·obtain ⟨dst,op,type,pos,after,guard⟩:=o
  intro x hx
  cases op with
  | call c =>
   obtain ⟨callee,args,ts⟩:=c
   cases callee with
   | builtin b =>
    cases b with
    | append=>simpa [Op.operands,Call.operands,zjr,addrs] using hx
    | _=>simp [isApp] at hap
   | _=>simp [isApp] at hap
  | _=>simp [isApp] at hap
 have h:(zcj o.op || isBS o.op)=true:=by
  unfold heavy at h0
  rcases Bool.or_eq_true _ _ |>.mp h0 with h | h
  ·exact absurd h hap
  ·exact (Bool.and_eq_true _ _ |>.mp h).2
 obtain ⟨dst,op,type,pos,after,guard⟩:=o
 intro x hx
 cases op with
 | call c =>
  obtain ⟨callee,args,ts⟩:=c
  cases callee with
  | value f=>simpa [Op.operands,Call.operands,zjr,addrs] using hx
  | _=>simp [zcj,isBS] at h
 | buildSlice t len parts=>simpa [Op.operands,zjr,addrs] using hx
 | _=>simp [zcj,isBS] at h
theorem zo8:∀ {l:List Oper},onceB l=true→∀ (p q:Nat) (o o':Oper) (x:Operand×Nat),p<q→l[p]?=some o→l[q]?=some o'→appX o=some x→o'.dst≠some x.2
 | [],_,p,q,o,o',_,_,hp,_,_=>by simp at hp
 | a :: l,h,p,q,o,o',x,hpq,hp,hq,hx=>by
  simp only [onceB,Bool.and_eq_true] at h
  obtain ⟨q,rfl⟩:∃ q',q=q'+1:=⟨q - 1,by omega⟩
  simp only [List.getElem?_cons_succ] at hq
  cases p with
  | zero =>
   simp only [List.getElem?_cons_zero,Option.some.injEq] at hp
   subst hp
   have h1:=h.1
   rw [hx] at h1
   have:=List.all_eq_true.1 h1 o' (List.mem_of_getElem? hq)
   simpa using this
  | succ p=>exact zo8 h.2 p q o o' x (by omega) (by simpa using hp) hq hx
theorem z4q [Gl] {q:Bool}{ops:Array Oper}{pairs:List (Nat×Nat)} (h:regL q ops pairs=true):zst ops.toList=true∧zqg ops.toList=true∧onceB ops.toList=true∧zu7 q pairs ops (waits ops.toList) ops.toList.zipIdx=true ∧
  ∀ i j,(i,j)∈pairs→i<j∧(∃ oi oj,ops[i]?=some oi∧ops[j]?=some oj∧((∃ x,zdi oi=some x∧heavy q oj.op=true)∨∃ x,zdi oi=none∧zdi oj=some x))∧((∃ oj,ops[j]?=some oj∧calm oj=true)∨∀ k o,k<j→ops[k]?=some o→clsOf q o.op≠.w):=by
 simp only [regL,Bool.and_eq_true] at h
 obtain ⟨⟨⟨⟨h1,h2⟩,h9⟩,h3⟩,h4⟩:=h
 refine ⟨h1,h2,h9,h3,fun i j hij=>?_⟩
 have:=List.all_eq_true.1 h4 (i,j) hij
 simp only [Bool.and_eq_true,decide_eq_true_eq] at this
 obtain ⟨⟨h5,h6⟩,h8⟩:=this
 refine ⟨h5, ?_, ?_⟩
 ·rw [Bool.or_eq_true,Bool.and_eq_true,Bool.and_eq_true] at h6
  rcases h6 with ⟨h6,h7⟩ | ⟨h6,h7⟩
  ·obtain ⟨x,hx⟩:=Option.isSome_iff_exists.1 h6
   obtain ⟨oi,hoi,hx⟩:=Option.bind_eq_some_iff.1 hx
   have h7':(ops[j]?).map (fun o=>heavy q o.op)=some true:=by simpa using h7
   obtain ⟨oj,hoj,hk⟩:=Option.map_eq_some_iff.1 h7'
   exact ⟨oi,oj,hoi,hoj,.inl ⟨x,hx,hk⟩⟩
  ·have h6':(ops[i]?).map (fun o=>(zdi o).isNone)=some true:=by simpa using h6
   obtain ⟨oi,hoi,hx⟩:=Option.map_eq_some_iff.1 h6'
   obtain ⟨y,hy⟩:=Option.isSome_iff_exists.1 h7
   obtain ⟨oj,hoj,hy⟩:=Option.bind_eq_some_iff.1 hy
   exact ⟨oi,oj,hoi,hoj,.inr ⟨y,Option.isNone_iff_eq_none.1 hx,hy⟩⟩
 ·simp only [Bool.or_eq_true] at h8
  rcases h8 with h8 | h8
  ·have h8':(ops[j]?).map calm=some true:=by simpa using h8
   exact .inl (Option.map_eq_some_iff.1 h8')
  refine .inr fun k o hq ho e=>?_
  have:=List.all_eq_true.1 h8 (o,k) (by rw [List.mem_zipIdx_iff_getElem?];simpa using ho)
  rw [e] at this
  simp [hq] at this
theorem ztt [Gl] {q:Bool}{call:CallF}{A:Ann}{ops:Array Oper}{pairs:List (Nat×Nat)}{H0:List Ob}{sf:St} (hB:regL q ops pairs=true) (hd:zro A ops pairs H0 sf.tmps=true):∀ (l:List Oper) (k:Nat) (listed:Array Bool) (s:St),(∀ j,l[j]?=ops[k+j]?)→listed.size=ops.size →
  (∀ j,j<ops.size→listed.getD j true=decide (j<k))→k+l.length=ops.size→(∀ i j,(i,j)∈pairs→k≤j→(∃ oj,ops[j]?=some oj∧calm oj=true)∨s.heap=H0)→H0.length≤s.heap.length→opsD P A call q ops l s=some sf→aAnyC P A call q H0.length ops pairs sf l.length listed s
 | [],k,listed,s,hl,hsz,hlist,hk,_,_,h=>by
  simp only [opsD,Option.some.injEq] at h
  subst h
  refine ⟨zqi (fun j hj=>?_),rfl⟩
  rw [hlist j hj]
  simp only [List.length_nil,Nat.add_zero] at hk
  simp;omega
 | o :: l,k,listed,s,hl,hsz,hlist,hk,hh0,hn0,h=>by
  have hall:=h
  simp only [opsD,Option.bind_eq_some_iff] at h
  obtain ⟨s1,h1,h2⟩:=h
  obtain ⟨r1,r2,r9,r3,r4⟩:=z4q hB
  have h0:ops[k]?=some o:=by simpa using (hl 0).symm
  have hklt:k<ops.size:=(Array.getElem?_eq_some_iff.1 h0).1
  have hlist':∀ j,j<ops.size→listed.getD j false=decide (j<k):=by
   intro j hj
   have:=hlist j hj
   simp [show j<listed.size from by omega] at this ⊢
   exact this
  have hedge:∀ (j:Nat) (oj:Oper),ops[j]?=some oj→∀ e∈oj.after,Region.binds .any e=true→e.on<j:=by
   intro j oj hj e he hb
   have hm:(oj,j)∈ops.toList.zipIdx:=by
    rw [List.mem_zipIdx_iff_getElem?]
    simpa using hj
   have:=List.all_eq_true.1 r1 (oj,j) hm
   have:=List.all_eq_true.1 this e (by simpa using he)
   simp only [Bool.or_eq_true,Bool.not_eq_true',decide_eq_true_eq] at this
   rcases this with h3 | h3
   ·rw [hb] at h3;cases h3
   ·exact h3
  have hz:∀ (q:Nat) (oq:Oper),ops[q]?=some oq→ops.toList.zipIdx[q]?=some (oq,q):=by
   intro q oq hq
   rw [List.getElem?_zipIdx]
   simp [hq]
  have htl:∀ {q:Nat}{oq:Oper},ops[q]?=some oq→ops.toList[q]?=some oq:=by intro q oq hq;simpa using hq
  have hlater:∀ (p:Nat) (op:Oper),ops[p]?=some op→p≤k→∀ x∈zjr op.op,∀ o'∈o :: l,∀ t,x=.tmp t→o'.dst≠some t:=by
   intro p op hp hpk x hx o' ho' t ht
   obtain ⟨j,hj,e⟩:=List.getElem_of_mem ho'
   have hq:ops[k+j]?=some o':=by rw [← hl j,List.getElem?_eq_getElem hj,e]
   exact zgo r2 p (k+j) op o' (by omega) (htl hp) (htl hq) x hx t ht
  refine zwd h0 (fun a b hab=>?_) (fun a b oa oq q' x hab hoa hx hoq hqa' hnc t ht=>?_) l.length listed s s1 hsz (fun j oj hj hl' e he hb=>?_) (fun j oj hj hjk hun hno=>?_) ?_ (fun a oa x ob hab hla hoa hx hob id off he=>?_) (fun a oa ob x hab hla hoa hp hob hx id off he=>?_) hn0 h1 ?_
  ·obtain ⟨_,⟨oa,ob,ea,eb,hpr⟩,_⟩:=r4 a b hab
   refine ⟨oa,ob,ea,eb, ?_⟩
   rcases hpr with ⟨x,hx,hk'⟩ | ⟨x,hp,hx⟩
   ·exact .inl ⟨x,hx,hk',fun t ht e=>zgo r2 a a oa oa (Nat.le_refl _) (htl ea) (htl ea) x (zl0 hx) t e ht⟩
   ·refine .inr ⟨x,hp,hx,fun p hp e=>?_,fun hcv y hy t ht e=>?_⟩
    rotate_left
    ·exact zgo r2 a a oa oa (Nat.le_refl _) (htl ea) (htl ea) y (by unfold zjr;exact List.mem_append_left _ hy) t e ht
    exact (zgo r2 a a oa oa (Nat.le_refl _) (htl ea) (htl ea) p.1 (zje hp).2.2.2.2 p.2 e (zje hp).2.1)
  ·intro e
   unfold watch at hx
   rcases Nat.lt_or_ge q' a with hqa | hqa
   ·rcases zmj _ r3 q' a (oq,q') (oa,a) hqa (hz q' oq hoq) (hz a oa hoa) with h3 | ⟨h3,_⟩
    ·exact hnc (zll h3)
    ·obtain ⟨b1,b2,_⟩:=Oper.apart_spec h3
     rcases List.mem_append.1 hx with hx | hx
     rotate_left
     ·split at hx
      ·rename_i hcv;exact zif (b1 t ht) x (zsn hcv x hx) e
      ·cases hx
     rcases List.mem_append.1 hx with hx | hx
     ·split at hx
      ·rename_i y hy
       obtain rfl:x=y:=by simpa using hx
       obtain ⟨⟨ty,ho⟩,_⟩:=ze3 hy
       exact zif (b1 t ht) x (by rw [ho];simp [Op.operands]) e
      ·cases hx
     ·split at hx
      ·rename_i p hp
       rcases List.mem_cons.1 hx with rfl | hx
       ·exact zif (b1 t ht) _ (zje hp).2.2.2.1 e
       ·obtain rfl:x=.tmp p.2:=by simpa using hx
        have ht':p.2=t:=by simpa using e
        exact b2 t ht (by rw [(zje hp).2.1,ht'])
      ·cases hx
   ·rcases List.mem_append.1 hx with hx | hx
    rotate_left
    ·split at hx
     ·exact zgo r2 a q' oa oq hqa (htl hoa) (htl hoq) x (by unfold zjr;exact List.mem_append_left _ hx) t e ht
     ·cases hx
    rcases List.mem_append.1 hx with hx | hx
    ·split at hx
     ·rename_i y hy
      obtain rfl:x=y:=by simpa using hx
      exact zgo r2 a q' oa oq hqa (htl hoa) (htl hoq) x (zl0 hy) t e ht
     ·cases hx
    ·split at hx
     ·rename_i p hp
      rcases List.mem_cons.1 hx with rfl | hx
      ·exact zgo r2 a q' oa oq hqa (htl hoa) (htl hoq) _ (zje hp).2.2.2.2 t e ht
      ·obtain rfl:x=.tmp p.2:=by simpa using hx
       have ht':p.2=t:=by simpa using e
       exact zo8 r9 a q' oa oq p (by omega) (htl hoa) (htl hoq) hp (by rw [ht,ht'])
     ·cases hx
  ·have hjlt:=(Array.getElem?_eq_some_iff.1 hj).1
   rw [hlist' j hjlt] at hl'
   have:=hedge j oj hj e he hb
   rw [hlist' e.on (by omega)]
   simp only [decide_eq_true_eq] at hl' ⊢
   omega
  ·have hjlt:=(Array.getElem?_eq_some_iff.1 hj).1
   rw [hlist j hjlt] at hun
   simp only [decide_eq_false_iff_not] at hun
   have hkj:k<j:=by omega
   rcases zmj _ r3 k j (o,k) (oj,j) hkj (hz k o h0) (hz j oj hj) with h3 | h3
   ·exact absurd (zll h3) hno
   ·refine ⟨h3.1,h3.2,fun hp=>?_⟩
    have:=(r4 j k hp).1
    omega
  ·rw [mem_ready]
   refine ⟨by rw [hlist k hklt];simp,o,h0,fun e he hb=>?_⟩
   have:=hedge k o h0 e he hb
   rw [hlist' e.on (by omega)]
   simp [this]
  ·obtain ⟨hlt,⟨oa',ob',ea,eb,hpr⟩,_⟩:=r4 a k hab
   rw [hoa] at ea
   obtain rfl:=Option.some.inj ea
   rw [hob] at eb
   obtain rfl:=Option.some.inj eb
   rw [h0] at hob
   obtain rfl:=Option.some.inj hob
   have hk':heavy q o.op=true:=by
    rcases hpr with ⟨_,_,hk⟩ | ⟨_,hp,_⟩
    ·exact hk
    ·rw [hp] at hx;cases hx
   have hheap:=hh0 a k hab (Nat.le_refl _)
   have e1:evalO s.tmps x=evalO sf.tmps x:=zmk _ s sf hall (fun o' ho' t ht=>hlater a oa hoa (by omega) x (zl0 hx) o' ho' t ht)
   have e2:zhp A s.tmps s.heap o=zhp A sf.tmps s.heap o:=zl9 (fun y hy=>zmk _ s sf hall (fun o' ho' t ht=>hlater k o h0 (Nat.le_refl _) y (zza hk' y hy) o' ho' t ht))
   have:=List.all_eq_true.1 hd (a,k) hab
   simp only [hoa,h0,hx,Option.bind_some,Bool.and_eq_true] at this
   have:=this.1
   rw [← e1,he] at this
   simp only [ptrId] at this
   rw [e2]
   cases hbs:isBS o.op with
   | true =>
    simp only [hbs,if_true] at this
    obtain ⟨dst,op,type,pos,after,guard⟩:=o
    cases op with
    | buildSlice t len parts =>
     simp only [zhp] at this ⊢
     split at this
     ·rename_i hp;rw [if_pos hp];simp
     ·simp at this
    | _=>simp [isBS] at hbs
   | false =>
    simp only [hbs,Bool.false_eq_true,if_false,Bool.not_eq_true'] at this
    rcases hheap with ⟨oj,e3,e4⟩ | hheap
    ·rw [h0] at e3
     obtain rfl:=Option.some.inj e3
     have hap:isApp o.op=true:=by
      unfold calm at e4
      rw [hbs,Bool.false_or,Bool.or_eq_true] at e4
      rcases e4 with e4 | e4
      ·exact e4
      ·obtain ⟨y,hy⟩:=Option.isSome_iff_exists.1 e4
       rw [zkz hy] at hk';cases hk'
     rw [z4o (H':=H0) hap]
     simpa using this
    rw [hheap]
    simpa using this
  ·rw [h0] at hob
   obtain rfl:=Option.some.inj hob
   have e1:evalO s.tmps x=evalO sf.tmps x:=zmk _ s sf hall (fun o' ho' t ht=>hlater k o h0 (Nat.le_refl _) x (zl0 hx) o' ho' t ht)
   have hlt:=(r4 a k hab).1
   have:=List.all_eq_true.1 hd (a,k) hab
   simp only [hoa,h0,hx,hp,Option.bind_some,Bool.and_eq_true] at this
   have:=this.2
   rw [← e1,he] at this
   simp only [ptrId,Option.isNone_none,if_true] at this
   have hev:∀ y∈watch oa,evalO s.tmps y=evalO sf.tmps y:=by
    intro y hy
    unfold watch at hy
    rcases List.mem_append.1 hy with hy | hy
    ·rcases List.mem_append.1 hy with hy | hy
     ·rw [hp] at hy;cases hy
     ·split at hy
      ·rename_i p hpp
       rcases List.mem_cons.1 hy with rfl | hy
       ·exact zmk _ s sf hall (fun o' ho' t ht=>hlater a oa hoa (by omega) p.1 (zje hpp).2.2.2.2 o' ho' t ht)
       ·obtain rfl:y=.tmp p.2:=by simpa using hy
        exact zmk _ s sf hall (fun o' ho' t ht hd'=>by
         obtain rfl:p.2=t:=by simpa using ht
         obtain ⟨j,hj,e⟩:=List.getElem_of_mem ho'
         have hq:ops[k+j]?=some o':=by rw [← hl j,List.getElem?_eq_getElem hj,e]
         exact zo8 r9 a (k+j) oa o' p (by omega) (htl hoa) (htl hq) hpp hd')
      ·cases hy
    ·split at hy
     ·exact zmk _ s sf hall (fun o' ho' t ht=>hlater a oa hoa (by omega) y (by unfold zjr;exact List.mem_append_left _ hy) o' ho' t ht)
     ·cases hy
   refine (zto hev (ztp _ s sf hall)).2 ?_
   unfold okM
   split at this
   ·rename_i p hpp
    simp only [Bool.and_eq_true,decide_eq_true_eq] at this
    exact .inl ⟨p,hpp,this.1,by simpa using this.2⟩
   ·simp only [Bool.and_eq_true,decide_eq_true_eq] at this
    exact .inr ⟨this.1.1,this.1.2,this.2⟩
  ·refine ztt hB hd l (k+1) _ s1 (fun j=>?_) (by simp [hsz]) (fun j hj=>?_) (by simp only [List.length_cons] at hk;omega) (fun i j hij hkj=>?_) (Nat.le_trans hn0 (zu2 h1)) h2
   ·have:=hl (j+1)
    simp only [List.getElem?_cons_succ] at this
    rw [this,Nat.add_assoc,Nat.add_comm 1 j]
   ·by_cases hjk:k=j
    ·subst hjk
     simp [show k<listed.size from by omega]
    ·rw [getD_set_ne true hjk,hlist j hj]
     simp only [decide_eq_decide]
     omega
   ·rcases (r4 i j hij).2.2 with hb | hb
    ·exact .inl hb
    ·rw [cls_r (hb k o (by omega) h0) h1]
     exact hh0 i j hij (by omega)
theorem zy1 [Gl] {q:Bool}{call:CallF} (hc:zir P call) (hN:Names P) (hm:P.follows .mixedOrders=true) {A:Ann}{id:Nat}{ops:Array Oper}{pairs:List (Nat×Nat)} (hB:regL q ops pairs=true) {Q:Exit→Act→World→Prop}{n:Nat}{s s':St}{a:Act}
  (hs:StOk X w s ρ a) (h:opsD P A call q ops ops.toList s=some s') (hd:zro A ops pairs s.heap s'.tmps=true) (hn:n≤s.heap.length)
  (hQ:∀ w' ρ' a',Evo n w s.heap ρ w' s'.heap ρ'→StOk X w' s' ρ' a'→Q .normal a' w'):(Code.region id ops true).wp P Q a w:=by
 refine wp_region_any hm ?_
 have hs1:StOk X { w with drawn:=w.drawn+1 } s ρ a:=⟨hs.sim.drew,hs.tok.evo (Evo.drew w s.heap ρ),hs.defers⟩
 have:=ztt (P:=P) (A:=A) (call:=call) hB hd ops.toList 0 (Array.replicate ops.size false) s (fun j=>by simp) (by simp) (fun j hj=>by simp [hj]) (by simp) (fun _ _ _ _=>.inr rfl) (Nat.le_refl _) h
 simp only [Array.length_toList] at this
 exact zyh hc hN _ _ s _ ρ a hs1 this.any hn (fun w' ρ' a' he hs'=>hQ w' ρ' a' (((Evo.drew w s.heap ρ).mono hn).trans he) hs')
end
section
variable {P : Program} {X M : Nat → Prop} {w : World} {H : List Ob} {ρ : Pl}
def GoodR (n:Nat) (H:List Ob) (r:Nat):Prop:=r<n∨Alive H r
structure WF (n:Nat) (s:St):Prop where
 tmps:∀ r∈zav s.tmps,GoodR n s.heap r
 obs:∀ (k:Nat) (o:Ob),s.heap[k]?=some o→∀ r∈zfi o,GoodR n s.heap r
theorem zbr {r:Nat}:∀ {ds:List Dv},r∈zav ds↔∃ d∈ds,r∈za8 d
 | []=>by simp [zav]
 | d :: ds=>by simp [zav,zbr]
theorem zxa {tm:List Dv}{dst:Option Tmp}{d:Dv}{r:Nat} (h:r∈zav (putD tm dst d)):r∈zav tm∨r∈za8 d:=by
 cases dst with
 | none=>exact .inl h
 | some t =>
  simp only [putD] at h
  obtain ⟨x,hx,hr⟩:=zbr.1 h
  rcases List.mem_or_eq_of_mem_set hx with h1 | rfl
  ·exact .inl (zbr.2 ⟨x,h1,hr⟩)
  ·exact .inr hr
theorem zhs [Gl] {tm:List Dv}{x:Operand}{r:Nat} (h:r∈za8 (evalO tm x)):r∈zav tm:=by
 cases x with
 | tmp t =>
  simp only [evalO] at h
  by_cases ht:t<tm.length
  ·rw [zk8 ht] at h
   exact zbr.2 ⟨_,List.getElem_mem ht,h⟩
  ·rw [List.getD_eq_getElem?_getD,List.getElem?_eq_none (Nat.le_of_not_lt ht)] at h;simp [za8] at h
 | const x=>simp [evalO,za8] at h
 | global x=>simp only [evalO] at h;split at h<;>simp [za8] at h
 | func f=>simp [evalO,za8] at h
theorem znv {ds:List Dv}{r:Nat} (h:r∈za8 (mkAgg ds)):r∈zav ds:=by
 unfold mkAgg at h
 split at h
 ·simp [za8] at h
 ·simpa [za8] using h
theorem zln (H:List Ob):∀ (l:List Pv),zfh H (l.map .p)=some (l,[])
 | []=>rfl
 | x :: l=>by simp only [List.map_cons,zfh,zk2,zln H l,List.append_nil]
theorem zmo {d:Dv}{ds:List Dv} (h:cellsD d=some ds) {r:Nat} (hr:r∈zav ds):r∈za8 d:=by
 cases d with
 | p y =>
  obtain ⟨l,rfl⟩:=zwq h
  obtain ⟨x,hx,hr⟩:=zbr.1 hr
  obtain ⟨z,_,rfl⟩:=List.mem_map.1 hx
  simp [za8] at hr
 | agg es=>simp only [cellsD,Option.some.injEq] at h;subst h;exact hr
 | tup es=>simp [cellsD] at h
 | junk=>simp [cellsD] at h
 | ref id off n e=>simp only [cellsD,Option.some.injEq] at h;subst h;simpa [zav] using hr
 | ptr id off=>simp only [cellsD,Option.some.injEq] at h;subst h;simpa [zav] using hr
 | fn f es=>simp only [cellsD,Option.some.injEq] at h;subst h;simpa [zav] using hr
 | mp id=>simp only [cellsD,Option.some.injEq] at h;subst h;simpa [zav] using hr
 | ifc t x=>simp only [cellsD,Option.some.injEq] at h;subst h;simpa [zav] using hr
theorem zq6 {place:Nat→Option (Nat×Nat)}{r:Nat}:∀ (parts:List (Nat×Dv)) (cells ds:List Dv),fillD place cells parts=some ds→r∈zav ds→r∈zav cells∨∃ p∈parts,r∈za8 p.2
 | [],cells,ds,h,hr=>by simp only [fillD,Option.some.injEq] at h;subst h;exact .inl hr
 | (i,d) :: rest,cells,ds,h,hr=>by
  simp only [fillD] at h
  split at h
  ·rename_i off size es _ he
   split at h
   ·rcases zq6 rest _ _ h hr with h1 | ⟨p,hp,h1⟩
    ·obtain ⟨x,hx,hr⟩:=zbr.1 h1
     rcases zmt _ _ _ hx with h2 | h2
     ·exact .inl (zbr.2 ⟨x,h2,hr⟩)
     ·exact .inr ⟨(i,d),List.mem_cons_self,zmo he (zbr.2 ⟨x,h2,hr⟩)⟩
    ·exact .inr ⟨p,List.mem_cons_of_mem _ hp,h1⟩
   ·cases h
  ·cases h
theorem zmq:∀ {l:List Dv},(l.all isP)=true→∃ xs:List Pv,l=xs.map .p
 | [],_=>⟨[],rfl⟩
 | d :: l,h=>by
  simp only [List.all_cons,Bool.and_eq_true] at h
  obtain ⟨xs,rfl⟩:=zmq h.2
  cases d with
  | p x=>exact ⟨x :: xs,rfl⟩
  | _=>simp [isP] at h
theorem zxz {H:List Ob}:∀ (l:List Pv),giveD H (l.map .p)=(l.map fun x=>.p (wk x),[])
 | []=>rfl
 | x :: l=>by simp only [List.map_cons,giveD,zxz l]
theorem z2c:∀ (l:List Pv),zav (l.map .p)=[]
 | []=>rfl
 | x :: l=>by simp only [List.map_cons,zav,za8,z2c l,List.append_nil]
theorem zvi {call:CallF}{A:Ann}{H:List Ob}{f:FuncId}{xs:List Pv}{d:Dv} (h:callD call A H f (xs.map .p)=some (d,none)):(∃ x,d=.p x)∧∀ H',callD call A H' f (xs.map .p)=some (d,none):=by
 obtain ⟨ys,hy⟩:∃ ys:List Pv,∀ H',(if A.muts f || A.ros f then ((xs.map Dv.p).map (wkA A f),[]) else giveD H' (xs.map .p))=(ys.map Dv.p,[]):=by
  cases hb:A.muts f || A.ros f with
  | true =>
   obtain ⟨ys,hy⟩:=zmq (l:=(xs.map Dv.p).map (wkA A f)) (by
    rw [List.all_map,List.all_map,List.all_eq_true]
    intro x _
    simp only [Function.comp]
    unfold wkA
    split
    ·rfl
    unfold wkDv
    split<;>first | rfl | (rename_i h1 h2;exact absurd rfl (h2 _)))
   exact ⟨ys,fun H'=>by rw [if_pos rfl,hy]⟩
  | false=>exact ⟨xs.map wk,fun H'=>by rw [if_neg (by simp),zxz,List.map_map];rfl⟩
 have key:∀ H',callD call A H' f (xs.map .p)=(call f (zbs (List.idxOf · []) (ys.map .p)) (lentD A f H' [])).bind fun (r,h) =>
   match A.muts f,([]:List Nat),h,r with
   | false,_,_,.p x=>some (.p x,none)
   | true,[],[],.p x=>some (.p x,none)
   | m,acc,h,r=>if (m || acc.isEmpty) && decide (acc.length≤h.length) && zh0 (za0 H' acc) h then some (zd8 (backD H'.length acc) r,some (zdh (backD H'.length acc) H' acc h)) else none:=by
  intro H'
  simp only [callD,hy,z2c,zan]
  have e2:zen H' 64 [] []=[]:=rfl
  rw [e2,if_pos (show accOk H' [] []=true from rfl)]
  rfl
 have el:∀ H',lentD A f H' []=[]:=fun H'=>by unfold lentD;split<;>rfl
 rw [key,el] at h
 cases hc:call f (zbs (List.idxOf · []) (ys.map .p)) [] with
 | none=>rw [hc] at h;cases h
 | some rh =>
  obtain ⟨r,hh⟩:=rh
  rw [hc] at h
  simp only [Option.bind_some] at h
  have dead:∀ {m:Bool}{h0:List Ob}{r0:Dv},(if ((m || ([]:List Nat).isEmpty) && decide (([]:List Nat).length≤h0.length) && zh0 (za0 H []) h0)=true then some (zd8 (backD H.length []) r0,some (zdh (backD H.length []) H [] h0)) else none)=some (d,none)→False:=by
   intro m h0 r0 h
   split at h
   ·injection h with h;injection h with _ h;cases h
   ·cases h
  cases hm:A.muts f with
  | false =>
   rw [hm] at h
   cases r with
   | p x =>
    obtain rfl:Dv.p x=d:=by injection h with h;injection h
    exact ⟨⟨x,rfl⟩,fun H'=>by rw [key,el,hc];simp only [Option.bind_some,hm]⟩
   | _=>exact (dead h).elim
  | true =>
   rw [hm] at h
   cases hh with
   | nil =>
    cases r with
    | p x =>
     obtain rfl:Dv.p x=d:=by injection h with h;injection h
     exact ⟨⟨x,rfl⟩,fun H'=>by rw [key,el,hc];simp only [Option.bind_some,hm]⟩
    | _=>exact (dead h).elim
   | cons o hh=>cases r<;>exact (dead h).elim
theorem znw [Gl] {call:CallF}{A:Ann}{tm:List Dv}{H:List Ob}{o:Oper}{d:Dv} (hp:zcw tm o=true) (h:opD P A call tm H o=some (d,none)):(∃ x,d=.p x)∧∀ H',opD P A call tm H' o=some (d,none):=by
 obtain ⟨dst,op,type,pos,after,guard⟩:=o
 cases op with
 | call c =>
  obtain ⟨callee,args,ts⟩:=c
  cases callee with
  | value f =>
   simp only [zcw,Bool.and_eq_true] at hp
   obtain ⟨xs,hxs⟩:=zmq (l:=args.toList.map (evalO tm)) (by rw [List.all_map];exact hp.2)
   simp only [opD,hxs] at h ⊢
   cases hf:evalO tm f with
   | p y =>
    rw [hf] at h
    cases y with
    | fn g cs =>
     cases g with
     | func g =>
      simp only [← List.map_append] at h ⊢
      exact zvi h
     | _=>cases h
    | _=>cases h
   | _=>rw [hf] at hp;simp [isP] at hp
  | _=>simp [zcw] at hp
 | buildSlice t len parts =>
  simp only [zcw] at hp
  simp only [opD] at h ⊢
  cases hu:P.underlying t with
  | none=>rw [hu] at h;cases h
  | some ty =>
   rw [hu] at h
   cases ty with
   | slice e =>
    simp only [Option.bind_eq_some_iff] at h
    obtain ⟨sz,h1,z,h2,h⟩:=h
    simp only [h1,h2,Option.bind_some]
    split at h
    ·cases h
    ·rename_i hc
     simp only [Option.bind_eq_some_iff,Option.map_eq_some_iff,Prod.mk.injEq] at h
     obtain ⟨ds,h4,⟨cs,l⟩,h5,h6,h7⟩:=h
     have hds:=zwc _ _ (fun x hx=>by obtain ⟨y,_,rfl⟩:=List.mem_map.1 hx;rfl) (fun x hx=>by
      obtain ⟨p,hpm,rfl⟩:=List.mem_map.1 hx
      exact List.all_eq_true.1 hp p hpm) h4
     obtain ⟨xs,rfl⟩:=zmq (l:=ds) (by rw [List.all_eq_true];exact hds)
     rw [zln] at h5
     simp only [Option.some.injEq,Prod.mk.injEq] at h5
     obtain ⟨rfl,rfl⟩:=h5
     refine ⟨⟨_,h6.symm⟩,fun H'=>?_⟩
     rw [if_neg hc]
     simp only [h4,Option.bind_some,zln,Option.map_some,List.isEmpty_nil,if_true,h6]
   | _=>cases h
 | _=>simp [zcw] at hp
theorem zk4 [Gl] {A:Ann}{call:CallF}{tm:List Dv}{H:List Ob}{o:Oper}{d:Dv}{hh:Option (List Ob)} (ht:zfv o.op=true) (h:opD P A call tm H o=some (d,hh)) :
  hh=none∧∀ r∈za8 d,r∈zav tm:=by
 obtain ⟨dst,op,type,pos,after,guard⟩:=o
 simp only [] at ht
 have n1:∀ {r:Option Dv},(r.map fun d=>(d,(none:Option (List Ob))))=some (d,hh)→r=some d∧hh=none:=by
  intro r hr
  simp only [Option.map_eq_some_iff,Prod.mk.injEq] at hr
  obtain ⟨x,h1,rfl,rfl⟩:=hr
  exact ⟨h1,rfl⟩
 cases op with
 | move x =>
  simp only [opD,Option.some.injEq,Prod.mk.injEq] at h
  obtain ⟨rfl,rfl⟩:=h
  exact ⟨rfl,fun r hr=>zhs hr⟩
 | assign x =>
  simp only [opD,Option.some.injEq,Prod.mk.injEq] at h
  obtain ⟨rfl,rfl⟩:=h
  exact ⟨rfl,fun r hr=>zhs hr⟩
 | fieldAddr t x i =>
  obtain ⟨h1,rfl⟩:=n1 h
  refine ⟨rfl,fun r hr=>?_⟩
  simp only [Option.bind_eq_some_iff] at h1
  obtain ⟨f,_,n,_,h1⟩:=h1
  split at h1
  ·cases h1
  ·split at h1
   ·rename_i id off he
    obtain rfl:=Option.some.inj h1
    exact zhs (x:=x) (by rw [he];simpa [za8] using hr)
   ·obtain rfl:=Option.some.inj h1
    simp [za8] at hr
   ·cases h1
 | indexAddr t x ix =>
  obtain ⟨h1,rfl⟩:=n1 h
  refine ⟨rfl,fun r hr=>?_⟩
  simp only [Option.bind_eq_some_iff] at h1
  obtain ⟨i,_,h1⟩:=h1
  split at h1
  ·simp only [Option.bind_eq_some_iff] at h1
   obtain ⟨sz,_,h1⟩:=h1
   split at h1
   ·obtain rfl:=Option.some.inj h1;simp [za8] at hr
   ·cases h1
  ·rename_i id off n esz _ he
   simp only [Option.bind_eq_some_iff] at h1
   obtain ⟨sz,_,h1⟩:=h1
   split at h1
   ·obtain rfl:=Option.some.inj h1
    exact zhs (x:=x) (by rw [he];simpa [za8] using hr)
   ·cases h1
  ·rename_i id off _ he
   simp only [Option.bind_eq_some_iff] at h1
   obtain ⟨sz,_,h1⟩:=h1
   split at h1
   ·obtain rfl:=Option.some.inj h1
    exact zhs (x:=x) (by rw [he];simpa [za8] using hr)
   ·cases h1
  ·simp only [Option.bind_eq_some_iff] at h1
   obtain ⟨sz,_,h1⟩:=h1
   split at h1
   ·obtain rfl:=Option.some.inj h1;simp [za8] at hr
   ·cases h1
  ·cases h1
 | build t parts =>
  obtain ⟨h1,rfl⟩:=n1 h
  refine ⟨rfl,fun r hr=>?_⟩
  simp only [Option.bind_eq_some_iff,Option.map_eq_some_iff] at h1
  obtain ⟨pl,_,z,_,ds,hd,rfl⟩:=h1
  rcases zq6 _ _ _ hd (znv hr) with h2 | ⟨p,hp,h2⟩
  ·obtain ⟨x,hx,hr⟩:=zbr.1 h2
   obtain ⟨z',_,rfl⟩:=List.mem_map.1 hx
   simp [za8] at hr
  ·obtain ⟨⟨i,x⟩,_,rfl⟩:=List.mem_map.1 hp
   exact zhs h2
 | unOp op t x =>
  obtain ⟨h1,rfl⟩:=n1 h
  refine ⟨rfl,fun r hr=>?_⟩
  simp only [Option.bind_eq_some_iff,Option.map_eq_some_iff] at h1
  obtain ⟨a,_,b,_,rfl⟩:=h1
  simp [za8] at hr
 | convert s t x =>
  obtain ⟨h1,rfl⟩:=n1 h
  refine ⟨rfl,fun r hr=>?_⟩
  simp only [Option.bind_eq_some_iff,Option.map_eq_some_iff] at h1
  obtain ⟨a,_,b,_,rfl⟩:=h1
  simp [za8] at hr
 | extract x i =>
  obtain ⟨h1,rfl⟩:=n1 h
  refine ⟨rfl,fun r hr=>?_⟩
  split at h1
  ·simp only [Option.map_eq_some_iff] at h1
   obtain ⟨c,_,rfl⟩:=h1
   simp [za8] at hr
  ·rename_i ds he
   exact zhs (x:=x) (by rw [he];simp only [za8];exact zbr.2 ⟨d,List.mem_of_getElem? h1,hr⟩)
  ·cases h1
 | call c =>
  obtain ⟨callee,args,ts⟩:=c
  cases callee with
  | builtin b =>
   cases b with
   | len =>
    simp only [opD,zgj,Option.map_eq_some_iff,Prod.mk.injEq] at h
    obtain ⟨x,h1,rfl,rfl⟩:=h
    refine ⟨rfl,fun r hr=>?_⟩
    have hm:Gl.isMap (ts.getD 0 0)=false:=by simpa [zfv] using ht
    simp only [hm,Bool.false_eq_true,if_false,zjq] at h1
    split at h1
    ·split at h1
     ·cases h1
     ·unfold lenD at h1
      split at h1<;>first | (cases h1;done) | (obtain rfl:=Option.some.inj h1;simp [za8] at hr)
    ·cases h1
   | _=>simp [zfv] at ht
  | _=>simp [zfv] at ht
 | _=>simp [zfv] at ht
end
section
variable {P : Program} {X M : Nat → Prop} {w : World} {H : List Ob} {ρ : Pl}
def ldLoc (P:Program) (t:TypeId) (off:Nat) (o:Ob):Option Dv:=(aggT P t).bind fun ag=>if ag then (szOf P t).bind fun n=>o.cells? off n else o.cell? off
theorem zui {t:TypeId}{id off:Nat}:loadD P H t (.ptr id off)=(H[id]?).bind (ldLoc P t off):=by
 unfold loadD ldLoc
 cases aggT P t with
 | none=>cases H[id]?<;>rfl
 | some ag =>
  simp only []
  cases H[id]?<;>rfl
theorem zqt {t:TypeId}{a:Dv}{H':List Ob} (h:ptrId a=none):loadD P H t a=loadD P H' t a:=by
 unfold loadD
 cases aggT P t with
 | none=>rfl
 | some ag =>
  cases a with
  | ptr id off=>simp [ptrId] at h
  | p y=>cases y<;>rfl
  | _=>rfl
theorem zy3 {t:TypeId}{off:Nat}{o:Ob}{d:Dv} (h:ldLoc P t off o=some d) {r:Nat} (hr:r∈za8 d):r∈zfi o:=by
 unfold ldLoc at h
 simp only [Option.bind_eq_some_iff] at h
 obtain ⟨ag,_,h⟩:=h
 cases ag with
 | true =>
  simp only [if_true,Option.bind_eq_some_iff] at h
  obtain ⟨n,_,h⟩:=h
  have sub:∀ {cs:List Dv},r∈zav ((cs.drop off).take n)→r∈zav cs:=fun hr=>by
   obtain ⟨x,hx,hr⟩:=zbr.1 hr
   exact zbr.2 ⟨x,List.mem_of_mem_drop (List.mem_of_mem_take hx),hr⟩
  cases o with
  | var cs=>simp only [Ob.cells?] at h;split at h<;>cases h;exact sub (znv hr)
  | ro cs=>simp only [Ob.cells?] at h;split at h<;>cases h;exact sub (znv hr)
  | arr cs=>simp only [Ob.cells?] at h;split at h<;>cases h;simp [za8] at hr
  | frz cs=>simp only [Ob.cells?] at h;split at h<;>cases h;simp [za8] at hr
  | roa cs=>simp only [Ob.cells?] at h;split at h<;>cases h;simp [za8] at hr
  | mp _=>cases h
  | rmp _=>cases h
  | dead=>cases h
 | false =>
  simp only [Bool.false_eq_true,if_false] at h
  cases o with
  | var cs=>exact zbr.2 ⟨d,List.mem_of_getElem? h,hr⟩
  | ro cs=>exact zbr.2 ⟨d,List.mem_of_getElem? h,hr⟩
  | arr cs=>simp only [Ob.cell?,Option.map_eq_some_iff] at h;obtain ⟨x,_,rfl⟩:=h;simp [za8] at hr
  | frz cs=>simp only [Ob.cell?,Option.map_eq_some_iff] at h;obtain ⟨x,_,rfl⟩:=h;simp [za8] at hr
  | roa cs=>simp only [Ob.cell?,Option.map_eq_some_iff] at h;obtain ⟨x,_,rfl⟩:=h;simp [za8] at hr
  | mp _=>cases h
  | rmp _=>cases h
  | dead=>cases h
def stLoc (P:Program) (t:TypeId) (off:Nat) (d:Dv):Ob→Option Ob
 | .var cs=>(cellsD d).bind fun ds=>(szOf P t).bind fun n=>if ds.length=n∧off+n≤cs.length then some (.var (setAt cs off ds)) else none
 | .arr cs=>if isP d then (cellsD d).bind fun ds=>(szOf P t).bind fun n=>(zfh [] ds).bind fun (xs,_)=>if xs.length=n∧off+n≤cs.length then some (.arr (setAt cs off xs)) else none else none
 | _=>none
theorem zrw {t:TypeId}{id off:Nat}{d:Dv} (hc:isP d=true∨varAt H (.ptr id off)=true):zdf P H t (.ptr id off) d=((H[id]?).bind (stLoc P t off d)).map (H.set id):=by
 unfold zdf
 cases hs:szOf P t with
 | none =>
  cases hH:H[id]? with
  | none=>rfl
  | some o=>cases o<;>simp only [stLoc,hs,Option.bind_some,Option.bind_none]<;>first | rfl | (cases cellsD d<;>first | rfl | (split<;>rfl))
 | some n =>
  simp only []
  cases hH:H[id]? with
  | none=>rfl
  | some o =>
   cases o with
   | var cs =>
    cases hd:cellsD d with
    | none=>simp only [stLoc,hd,Option.bind_some,Option.bind_none,Option.map_none]
    | some ds =>
     simp only [stLoc,hd,hs,Option.bind_some]
     split<;>rfl
   | arr cs =>
    have hp:isP d=true:=by
     rcases hc with h | h
     ·exact h
     ·simp [varAt,hH] at h
    cases hd:cellsD d with
    | none=>simp only [stLoc,hp,hd,if_true,Option.bind_some,Option.bind_none,Option.map_none]
    | some ds =>
     obtain ⟨y,rfl⟩:∃ y,d=.p y:=by cases d<;>simp [isP] at hp;exact ⟨_,rfl⟩
     obtain ⟨l,rfl⟩:=zwq hd
     simp only [stLoc,hp,hd,hs,if_true,Option.bind_some,zln]
     by_cases hq:l.length=n∧off+n≤cs.length
     ·rw [if_pos ⟨hq.1,hq.2,by simp⟩,if_pos hq];rfl
     ·rw [if_neg (fun h=>hq ⟨h.1,h.2.1⟩),if_neg hq];rfl
   | _=>rfl
theorem zz1 {t:TypeId}{off:Nat}{d:Dv}{o o':Ob} (h:stLoc P t off d o=some o'):o'.alive=true∧∀ r∈zfi o',r∈zfi o∨r∈za8 d:=by
 cases o with
 | var cs =>
  simp only [stLoc,Option.bind_eq_some_iff] at h
  obtain ⟨ds,hd,n,_,h⟩:=h
  split at h<;>cases h
  refine ⟨rfl,fun r hr=>?_⟩
  obtain ⟨x,hx,hr⟩:=zbr.1 hr
  rcases zmt _ _ _ hx with h1 | h1
  ·exact .inl (zbr.2 ⟨x,h1,hr⟩)
  ·exact .inr (zmo hd (zbr.2 ⟨x,h1,hr⟩))
 | arr cs =>
  simp only [stLoc] at h
  split at h
  ·simp only [Option.bind_eq_some_iff] at h
   obtain ⟨ds,hd,n,_,q,_,h⟩:=h
   split at h<;>cases h
   exact ⟨rfl,fun r hr=>by simp [zfi] at hr⟩
  ·cases h
 | _=>cases h
def newD [Gl] (P:Program) (tm:List Dv) (o:Oper):Option ((Nat→Dv)×Ob) :=
 match o.op with
 | .alloc e=>(zey P e).map fun cs=>(fun i=>.ptr i 0,.var (cs.map .p))
 | .box _ x=>(cellsD (evalO tm x)).map fun ds=>(fun i=>.ptr i 0,.var ds)
 | .makeSlice t l c =>
  match P.underlying t,intD (evalO tm l),intD (evalO tm c) with
  | some (.slice e),some n,some k =>
   (szOf P e).bind fun sz=>(bytesOf P e).bind fun by_=>(zey P e).bind fun z =>
   if sz=0∨z.length≠sz∨by_=0 then none else
   if 0≤n∧n≤k∧by_*k≤281474976710656 then some (fun i=>.ref i 0 n.toNat sz,.arr (repl n.toNat z)) else none
  | _,_,_=>none
 | _=>none
theorem zr5 [Gl] {A:Ann}{call:CallF}{tm:List Dv}{o:Oper} (hn:isNew o.op=true):opD P A call tm H o=(newD P tm o).map fun (f,b)=>(f H.length,some (H++[b])):=by
 obtain ⟨dst,op,type,pos,after,guard⟩:=o
 cases op with
 | alloc e=>simp only [opD,newD,Option.map_map];rfl
 | box e x=>simp only [opD,newD,Option.map_map];rfl
 | makeSlice t l c =>
  simp only [opD,newD,makeD]
  cases P.underlying t with
  | none=>rfl
  | some d =>
   cases intD (evalO tm l) with
   | none=>cases d<;>rfl
   | some n =>
    cases intD (evalO tm c) with
    | none=>cases d<;>rfl
    | some k =>
     cases d with
     | slice e =>
      simp only []
      cases szOf P e with
      | none=>rfl
      | some sz =>
       cases bytesOf P e with
       | none=>rfl
       | some b =>
        cases zey P e with
        | none=>rfl
        | some z =>
         simp only [Option.bind_some]
         split
         ·rfl
         ·split<;>rfl
     | _=>rfl
 | _=>simp [isNew] at hn
theorem zuq [Gl] {tm:List Dv}{o:Oper}{f:Nat→Dv}{b:Ob} (h:newD P tm o=some (f,b)):b.alive=true∧(∀ r∈zfi b,r∈zav tm)∧∀ i,za8 (f i)=[i]∧∀ g:Nat→Nat,zd8 g (f i)=f (g i):=by
 obtain ⟨dst,op,type,pos,after,guard⟩:=o
 cases op with
 | alloc e =>
  simp only [newD,Option.map_eq_some_iff,Prod.mk.injEq] at h
  obtain ⟨cs,_,rfl,rfl⟩:=h
  refine ⟨rfl,fun r hr=>?_,fun i=>⟨rfl,fun g=>rfl⟩⟩
  obtain ⟨x,hx,hr⟩:=zbr.1 hr
  obtain ⟨z,_,rfl⟩:=List.mem_map.1 hx
  simp [za8] at hr
 | box e x =>
  simp only [newD,Option.map_eq_some_iff,Prod.mk.injEq] at h
  obtain ⟨ds,hd,rfl,rfl⟩:=h
  exact ⟨rfl,fun r hr=>zhs (zmo hd hr),fun i=>⟨rfl,fun g=>rfl⟩⟩
 | makeSlice t l c =>
  simp only [newD] at h
  split at h
  ·simp only [Option.bind_eq_some_iff] at h
   obtain ⟨sz,_,b1,_,z,_,h⟩:=h
   split at h
   ·cases h
   ·split at h
    ·simp only [Option.some.injEq,Prod.mk.injEq] at h
     obtain ⟨rfl,rfl⟩:=h
     exact ⟨rfl,fun r hr=>by simp [zfi] at hr,fun i=>⟨rfl,fun g=>rfl⟩⟩
    ·cases h
  ·cases h
 | _=>cases h
def actD [Gl] (P:Program) (A:Ann) (call:CallF) (tm:List Dv) (o:Oper) (pid:Option Nat) (ob:Option Ob):Option (Dv×Option Ob) :=
 match o.op with
 | .load t x =>
  match evalO tm x with
  | .ptr _ off=>(ob.bind (ldLoc P t off)).map fun d=>(d,none)
  | a=>(loadD P [] t a).map fun d=>(d,none)
 | .store t x y =>
  match evalO tm x with
  | .ptr _ off=>(ob.bind (stLoc P t off (evalO tm y))).map fun b=>(ze1,some b)
  | _=>none
 | _ =>
  if isNew o.op then
   match pid,ob with
   | some i,some .dead=>(newD P tm o).map fun (f,b)=>(f i,some b)
   | _,_=>none
  else if zfv o.op then (opD P A call tm [] o).map fun r=>(r.1,none)
  else if zcw tm o then (match opD P A call tm [] o with | some (d,none)=>some (d,none) | _=>none) else none
def ziq [Gl] (tm:List Dv) (o:Oper) (pid:Option Nat):Option Nat :=
 match o.op with
 | .load _ x=>ptrId (evalO tm x)
 | .store _ x _=>ptrId (evalO tm x)
 | _=>if isNew o.op then pid else none
def upd (H:List Ob):Option Nat→Option Ob→List Ob
 | some i,some b=>H.set i b
 | _,_=>H
def StE [Gl] (P:Program) (A:Ann) (call:CallF) (ops:Array Oper) (pl:Nat→Option Nat) (i:Nat) (s s':St):Prop :=
 ∃ o,ops[i]?=some o∧o.guard=none∧ziq s.tmps o (pl i)=pl i∧∃ d u,actD P A call s.tmps o (pl i) ((pl i).bind fun k=>s.heap[k]?)=some (d,u)∧s'=⟨putD s.tmps o.dst d,upd s.heap (pl i) u,s.nin⟩
theorem zy2 [Gl] {tm tm':List Dv}{o:Oper} (h:∀ x∈o.op.operands,evalO tm x=evalO tm' x):newD P tm o=newD P tm' o:=by
 obtain ⟨dst,op,type,pos,after,guard⟩:=o
 simp only [] at h
 cases op with
 | box e x=>simp only [newD,h x (by simp [Op.operands])]
 | makeSlice t x y=>simp only [newD,h x (by simp [Op.operands]),h y (by simp [Op.operands])]
 | _=>rfl
theorem zz9 [Gl] {A:Ann}{call:CallF}{tm tm':List Dv}{o:Oper}{pid:Option Nat}{ob:Option Ob} (h:∀ x∈o.op.operands,evalO tm x=evalO tm' x) :
  actD P A call tm o pid ob=actD P A call tm' o pid ob∧ziq tm o pid=ziq tm' o pid:=by
 have e1:=ztf (P:=P) (A:=A) (call:=call) (H:=[]) h
 have e2:=zy2 (P:=P) h
 have e3:zcw tm o=zcw tm' o:=by
  obtain ⟨dst,op,type,pos,after,guard⟩:=o
  cases op with
  | call c =>
   obtain ⟨callee,args,ts⟩:=c
   cases callee with
   | value f =>
    have h1:evalO tm f=evalO tm' f:=h f (by simp [Op.operands,Call.operands])
    have h2:∀ x∈args.toList,evalO tm x=evalO tm' x:=fun x hx=>h x (by simp [Op.operands,Call.operands] at hx ⊢;exact .inr hx)
    simp only [zcw,h1]
    congr 1
    rw [Bool.eq_iff_iff,List.all_eq_true,List.all_eq_true]
    exact ⟨fun k x hx=>by rw [← h2 x hx];exact k x hx,fun k x hx=>by rw [h2 x hx];exact k x hx⟩
   | _=>rfl
  | buildSlice ty len parts =>
   have h2:∀ p∈parts.toList,evalO tm p.2=evalO tm' p.2:=fun p hp=>h p.2 (by simp only [Op.operands];first | exact List.mem_map.2 ⟨p,hp,rfl⟩ | (simp;exact ⟨_,by simpa using hp⟩))
   simp only [zcw]
   rw [Bool.eq_iff_iff,List.all_eq_true,List.all_eq_true]
   exact ⟨fun k x hx=>by rw [← h2 x hx];exact k x hx,fun k x hx=>by rw [h2 x hx];exact k x hx⟩
  | _=>rfl
 obtain ⟨dst,op,type,pos,after,guard⟩:=o
 simp only [] at h
 cases op with
 | load t x=>have:=h x (by simp [Op.operands]);simp only [actD,ziq,this,and_self]
 | store t x y=>have:=h x (by simp [Op.operands]);have:=h y (by simp [Op.operands]);simp only [actD,ziq, *,and_self]
 | _=>simp only [actD,ziq,e1,e2,e3,and_self]
theorem zw5 [Gl] {A:Ann}{call:CallF}{ops:Array Oper}{tm:List Dv}{o:Oper}{pid:Option Nat}{ob:Option Ob}{dst:Option Tmp}{d:Dv} (h:∀ t,dst=some t→t ∉ o.looksAt ops) :
  actD P A call (putD tm dst d) o pid ob=actD P A call tm o pid ob∧ziq (putD tm dst d) o pid=ziq tm o pid :=
 zz9 fun x hx=>zf3 fun t ht=>zif (h t ht) x hx
def wrK:Op→Bool
 | .store ..=>true
 | op=>isNew op
theorem yae [Gl] {A:Ann}{call:CallF}{tm:List Dv}{o:Oper}{pid:Option Nat}{ob:Option Ob}{d:Dv}{u:Option Ob} (hw:wrK o.op=false) (h:actD P A call tm o pid ob=some (d,u)):u=none:=by
 obtain ⟨dst,op,type,pos,after,guard⟩:=o
 simp only [] at hw
 have hn:isNew op=false:=by cases op<;>first | rfl | (simp [wrK,isNew] at hw)
 cases op with
 | store t x y=>simp [wrK] at hw
 | load t x =>
  simp only [actD] at h
  split at h<;>(simp only [Option.map_eq_some_iff,Prod.mk.injEq] at h;obtain ⟨_,_,_,rfl⟩:=h;rfl)
 | _ =>
  simp only [actD,hn,Bool.false_eq_true,if_false] at h
  split at h
  ·simp only [Option.map_eq_some_iff,Prod.mk.injEq] at h;obtain ⟨_,_,_,rfl⟩:=h;rfl
  ·split at h
   ·split at h
    ·simp only [Option.some.injEq,Prod.mk.injEq] at h;exact h.2.symm
    ·cases h
   ·cases h
theorem StE.swap [Gl] {A:Ann}{call:CallF}{ops:Array Oper}{pl:Nat→Option Nat}{i j:Nat}{oi oj:Oper}{s s1 s2:St} (hi:ops[i]?=some oi) (hj:ops[j]?=some oj) (hap:oi.apart ops oj=true)
  (hd:neqO (pl i) (pl j)=true∨(wrK oi.op=false∧wrK oj.op=false)) (h1:StE P A call ops pl i s s1) (h2:StE P A call ops pl j s1 s2):∃ t,StE P A call ops pl j s t∧StE P A call ops pl i t s2:=by
 obtain ⟨a1,a2,a3⟩:=Oper.apart_spec hap
 obtain ⟨oi',e,gi,pi,di,ui,ai,rfl⟩:=h1
 rw [hi] at e;obtain rfl:=Option.some.inj e
 obtain ⟨oj',e,gj,pj,dj,uj,aj,rfl⟩:=h2
 rw [hj] at e;obtain rfl:=Option.some.inj e
 have qj:=fun ob=>zw5 (P:=P) (A:=A) (call:=call) (ops:=ops) (tm:=s.tmps) (o:=oj) (pid:=pl j) (ob:=ob) (dst:=oi.dst) (d:=di) (fun t ht=>a1 t ht)
 have qi:=fun ob=>zw5 (P:=P) (A:=A) (call:=call) (ops:=ops) (tm:=s.tmps) (o:=oi) (pid:=pl i) (ob:=ob) (dst:=oj.dst) (d:=dj) (fun t ht=>a3 t ht)
 simp only [] at pj aj
 rw [(qj none).2] at pj
 rw [(qj _).1] at aj
 have nw:∀ (k k':Option Nat) (u:Option Ob),neqO k k'=true∨u=none→(k'.bind fun q=>(upd s.heap k u)[q]?)=k'.bind fun q=>s.heap[q]?:=by
  intro k k' u h
  cases k' with
  | none=>rfl
  | some q =>
   cases k with
   | none=>rfl
   | some p =>
    cases u with
    | none=>rfl
    | some b =>
     rcases h with h | h
     ·have hne:p≠q:=by simpa [neqO] using h
      simp only [upd,Option.bind_some,List.getElem?_set_ne hne]
     ·cases h
 have sym:neqO (pl i) (pl j)=true→neqO (pl j) (pl i)=true:=by
  intro h
  cases hpi:pl i with
  | none=>cases pl j<;>rfl
  | some p =>
   cases hpj:pl j with
   | none=>rfl
   | some q =>
    rw [hpi,hpj] at h
    have:p≠q:=by simpa [neqO] using h
    simpa [neqO] using fun e=>this e.symm
 have ui0:neqO (pl i) (pl j)=true∨ui=none:=hd.imp_right fun h=>yae h.1 ai
 have uj0:neqO (pl j) (pl i)=true∨uj=none:=by
  rcases hd with h | h
  ·exact .inl (sym h)
  ·exact .inr (yae h.2 aj)
 rw [nw _ _ _ ui0] at aj
 refine ⟨⟨putD s.tmps oj.dst dj,upd s.heap (pl j) uj,s.nin⟩,⟨oj,hj,gj,pj,dj,uj,aj,rfl⟩,oi,hi,gi, ?_,di,ui, ?_, ?_⟩
 ·simp only [];rw [(qi none).2];exact pi
 ·simp only [];rw [(qi _).1,nw _ _ _ uj0];exact ai
 ·simp only [St.mk.injEq,and_true]
  refine ⟨zmy (fun t ht=>a2 t ht), ?_⟩
  cases hpi:pl i with
  | none=>cases pl j<;>cases uj<;>rfl
  | some p =>
   cases hpj:pl j with
   | none=>cases ui<;>rfl
   | some q =>
    cases ui with
    | none=>cases uj<;>rfl
    | some b =>
     cases uj with
     | none=>rfl
     | some b' =>
      rcases ui0 with h | h
      ·rw [hpi,hpj] at h
       have hne:p≠q:=by simpa [neqO] using h
       simp only [upd]
       exact List.set_comm _ _ hne
      ·cases h
end
section
variable {P : Program} {X M : Nat → Prop} {w : World} {H : List Ob} {ρ : Pl}
theorem z9d [Gl] {A:Ann}{call:CallF}{tm:List Dv}{o:Oper}{pid:Option Nat}{ob:Option Ob}{d:Dv}{u:Option Ob} (h:(if isNew o.op then
   match pid,ob with
   | some i,some .dead=>(newD P tm o).map fun (f,b)=>(f i,some b)
   | _,_=>none
  else if zfv o.op then (opD P A call tm [] o).map fun r=>(r.1,none)
  else if zcw tm o then (match opD P A call tm [] o with | some (d,none)=>some (d,none) | _=>none) else none)=some (d,u)) :
  (∀ b,u=some b→b.alive=true∧∀ r∈zfi b,r∈zav tm∨∃ b0,ob=some b0∧r∈zfi b0)∧∀ r∈za8 d,r∈zav tm∨(∃ b0,ob=some b0∧r∈zfi b0)∨(pid=some r∧u≠none∧ob≠none):=by
 split at h
 ·split at h
  ·rename_i i
   simp only [Option.map_eq_some_iff,Prod.mk.injEq] at h
   obtain ⟨⟨f,b⟩,h1,rfl,rfl⟩:=h
   obtain ⟨k1,k2,k3⟩:=zuq h1
   exact ⟨fun b' hb=>by obtain rfl:=Option.some.inj hb;exact ⟨k1,fun r hr=>.inl (k2 r hr)⟩,fun r hr=>by
    rw [(k3 i).1] at hr
    have:r=i:=by simpa using hr
    exact .inr (.inr ⟨by rw [this],by simp,by simp⟩)⟩
  ·cases h
 ·split at h
  ·rename_i ht
   simp only [Option.map_eq_some_iff,Prod.mk.injEq] at h
   obtain ⟨⟨d',hh⟩,h1,rfl,rfl⟩:=h
   obtain ⟨_,k2⟩:=zk4 ht h1
   exact ⟨fun b hb=>(by cases hb),fun r hr=>.inl (k2 r hr)⟩
  ·split at h
   ·rename_i hp
    split at h
    ·rename_i d' h1
     simp only [Option.some.injEq,Prod.mk.injEq] at h
     obtain ⟨rfl,rfl⟩:=h
     obtain ⟨⟨x,rfl⟩,_⟩:=znw hp h1
     exact ⟨fun b hb=>(by cases hb),fun r hr=>by simp [za8] at hr⟩
    ·cases h
   ·cases h
theorem z5k [Gl] {A:Ann}{call:CallF}{tm:List Dv}{o:Oper}{pid:Option Nat}{ob:Option Ob}{d:Dv}{u:Option Ob} (h:actD P A call tm o pid ob=some (d,u)) :
  (∀ b,u=some b→b.alive=true∧∀ r∈zfi b,r∈zav tm∨∃ b0,ob=some b0∧r∈zfi b0)∧∀ r∈za8 d,r∈zav tm∨(∃ b0,ob=some b0∧r∈zfi b0)∨(pid=some r∧u≠none∧ob≠none):=by
 obtain ⟨dst,op,type,pos,after,guard⟩:=o
 cases op with
 | load t x =>
  simp only [actD] at h
  split at h
  ·rename_i i off he
   simp only [Option.map_eq_some_iff,Option.bind_eq_some_iff,Prod.mk.injEq] at h
   obtain ⟨d',⟨b0,rfl,h1⟩,rfl,rfl⟩:=h
   exact ⟨fun b hb=>(by cases hb),fun r hr=>.inr (.inl ⟨b0,rfl,zy3 h1 hr⟩)⟩
  ·rename_i a hne
   simp only [Option.map_eq_some_iff,Prod.mk.injEq] at h
   obtain ⟨d',h1,rfl,rfl⟩:=h
   refine ⟨fun b hb=>(by cases hb),fun r hr=>?_⟩
   exfalso
   unfold loadD at h1
   cases hag:aggT P t with
   | none=>rw [hag] at h1;cases h1
   | some ag =>
    rw [hag] at h1
    simp only [] at h1
    split at h1
    ·exact hne _ _ (by assumption)
    ·split at h1
     ·simp only [Option.bind_eq_some_iff] at h1
      obtain ⟨n,_,h1⟩:=h1
      split at h1<;>cases h1
      simp [za8] at hr
     ·simp only [Option.map_eq_some_iff] at h1
      obtain ⟨y,_,rfl⟩:=h1
      simp [za8] at hr
    ·cases h1
 | store t x y =>
  simp only [actD] at h
  split at h
  ·simp only [Option.map_eq_some_iff,Option.bind_eq_some_iff,Prod.mk.injEq] at h
   obtain ⟨b,⟨b0,rfl,h1⟩,rfl,rfl⟩:=h
   obtain ⟨k1,k2⟩:=zz1 h1
   refine ⟨fun b' hb=>?_,fun r hr=>by simp [ze1,za8] at hr⟩
   obtain rfl:=Option.some.inj hb
   exact ⟨k1,fun r hr=>(k2 r hr).elim (fun h=>.inr ⟨b0,rfl,h⟩) (fun h=>.inl (zhs h))⟩
  ·cases h
 | _ =>
  unfold actD at h
  exact z9d (P:=P) (A:=A) (call:=call) (tm:=tm) h
theorem z2y {k:Option Nat}{u:Option Ob} (hu:∀ b,u=some b→b.alive=true) {r:Nat} (h:Alive H r):Alive (upd H k u) r:=by
 cases k with
 | none=>exact h
 | some i =>
  cases u with
  | none=>exact h
  | some b =>
   simp only [upd]
   by_cases hi:i=r
   ·subst hi
    obtain ⟨o,ho,_⟩:=h
    exact ⟨b,by rw [List.getElem?_set_self (List.getElem?_eq_some_iff.1 ho).1],hu b rfl⟩
   ·obtain ⟨o,ho,hl⟩:=h
    exact ⟨o,by rw [List.getElem?_set_ne hi];exact ho,hl⟩
theorem StE.wf [Gl] {A:Ann}{call:CallF}{ops:Array Oper}{pl:Nat→Option Nat}{i n:Nat}{s s':St} (h:StE P A call ops pl i s s') (hw:WF n s):WF n s':=by
 obtain ⟨o,ho,hg,hp,d,u,ha,rfl⟩:=h
 generalize pl i=q at *
 obtain ⟨h1,h2⟩:=z5k ha
 have hal:∀ {r},GoodR n s.heap r→GoodR n (upd s.heap q u) r:=fun h=>h.imp_right fun h=>z2y (fun b hb=>(h1 b hb).1) h
 have hob:∀ {r},(∃ b0,(q.bind fun k=>s.heap[k]?)=some b0∧r∈zfi b0)→GoodR n s.heap r:=by
  rintro r ⟨b0,hb,hr⟩
  obtain ⟨k,_,hk⟩:=Option.bind_eq_some_iff.1 hb
  exact hw.obs k b0 hk r hr
 refine ⟨fun r hr=>?_,fun k b hk r hr=>?_⟩
 ·rcases zxa hr with hr | hr
  ·exact hal (hw.tmps r hr)
  ·rcases h2 r hr with hr | hr | ⟨hr,hu,hb0⟩
   ·exact hal (hw.tmps r hr)
   ·exact hal (hob hr)
   ·right
    subst hr
    have hl:r<s.heap.length:=by
     cases hk:s.heap[r]? with
     | none=>exact absurd hk hb0
     | some b0=>exact (List.getElem?_eq_some_iff.1 hk).1
    cases u with
    | none=>exact absurd rfl hu
    | some b=>exact ⟨b,by simp only [upd];rw [List.getElem?_set_self hl],(h1 b rfl).1⟩
 ·simp only [] at hk ⊢
  cases q with
  | none=>exact hal (hw.obs k b hk r hr)
  | some p =>
   cases u with
   | none=>exact hal (hw.obs k b hk r hr)
   | some b' =>
    rcases ze5 hk with ⟨_,hk'⟩ | ⟨_,rfl,_⟩
    ·exact hal (hw.obs k b hk' r hr)
    ·rcases (h1 b rfl).2 r hr with h | h
     ·exact hal (hw.tmps r h)
     ·exact hal (hob h)
theorem StE.plain [Gl] {A:Ann}{call:CallF}{q:Bool}{ops:Array Oper}{pl:Nat→Option Nat}{i:Nat}{o:Oper}{s s':St} (ho:ops[i]?=some o) (hn:isNew o.op=false) (h:StE P A call ops pl i s s'):stepD P A call q ops o s=some s':=by
 obtain ⟨o',ho',hg,hp,d,u,ha,rfl⟩:=h
 rw [ho] at ho';obtain rfl:=Option.some.inj ho'
 have hw:wantD ops s.tmps o=some true:=by unfold wantD;rw [hg]
 unfold stepD
 rw [hw]
 simp only [Option.bind_some,if_true]
 obtain ⟨dst,op,type,pos,after,guard⟩:=o
 simp only [] at hn hg hp ha ⊢
 have tame:∀ (hl:ziq s.tmps ⟨dst,op,type,pos,after,guard⟩ (pl i)=none),(if isNew op then
   match pl i,(pl i).bind fun k=>s.heap[k]? with
   | some i,some .dead=>(newD P s.tmps ⟨dst,op,type,pos,after,guard⟩).map fun (f,b)=>(f i,some b)
   | _,_=>none
  else if zfv op then (opD P A call s.tmps [] ⟨dst,op,type,pos,after,guard⟩).map fun r=>(r.1,none)
  else if zcw s.tmps ⟨dst,op,type,pos,after,guard⟩ then (match opD P A call s.tmps [] ⟨dst,op,type,pos,after,guard⟩ with | some (d,none)=>some (d,none) | _=>none) else none)=some (d,u) →
   ((opD P A call s.tmps s.heap ⟨dst,op,type,pos,after,guard⟩).bind fun x=>match x with | (d,h)=>match h with | none=>some { s with tmps:=putD s.tmps dst d } | some h=>if (q && !wrOp op)=true then none else some { s with tmps:=putD s.tmps dst d,heap:=h })=some ⟨putD s.tmps dst d,upd s.heap (pl i) u,s.nin⟩:=by
  intro hl h
  rw [hn] at h
  simp only [Bool.false_eq_true,if_false] at h
  split at h
  ·rename_i ht
   simp only [Option.map_eq_some_iff,Prod.mk.injEq] at h
   obtain ⟨⟨d',hh⟩,h1,rfl,rfl⟩:=h
   obtain ⟨rfl,_⟩:=zk4 (o:=⟨dst,op,type,pos,after,guard⟩) ht h1
   have hc:clsOf false op=.n:=by
    cases op with
    | call c =>
     obtain ⟨callee,args,ts⟩:=c
     cases callee with
     | builtin b =>
      cases b with
      | len =>
       have hm:Gl.isMap (ts.getD 0 0)=false:=by simpa [zfv] using ht
       simp only [clsOf,hm,Bool.false_eq_true,if_false]
      | _=>simp [zfv] at ht
     | _=>simp [zfv] at ht
    | _=>first | rfl | (simp [zfv] at ht)
   rw [← (cls_n (P:=P) (A:=A) (call:=call) (tm:=s.tmps) (H:=[]) (H':=s.heap) (o:=⟨dst,op,type,pos,after,guard⟩) hc).1,h1]
   rw [hl] at hp
   rw [← hp]
   rfl
  ·split at h
   ·rename_i hpa
    split at h
    ·rename_i d' h1
     simp only [Option.some.injEq,Prod.mk.injEq] at h
     obtain ⟨rfl,rfl⟩:=h
     rw [(znw hpa h1).2 s.heap]
     rw [hl] at hp
     rw [← hp]
     rfl
    ·cases h
   ·cases h
 cases op with
 | load t x =>
  simp only [actD] at ha
  simp only [ziq] at hp
  have e0:opD P A call s.tmps s.heap ⟨dst,.load t x,type,pos,after,guard⟩=(loadD P s.heap t (evalO s.tmps x)).map fun d=>(d,none):=rfl
  rw [e0]
  split at ha
  ·rename_i k off he
   rw [he] at hp
   simp only [ptrId] at hp
   rw [← hp] at ha
   simp only [Option.bind_some,Option.map_eq_some_iff,Prod.mk.injEq] at ha
   obtain ⟨d',h1,rfl,rfl⟩:=ha
   rw [he,zui,h1,← hp]
   rfl
  ·rename_i a hne
   have hpn:ptrId (evalO s.tmps x)=none:=by
    cases he:evalO s.tmps x with
    | ptr k off=>exact absurd he (hne k off)
    | _=>rfl
   simp only [Option.map_eq_some_iff,Prod.mk.injEq] at ha
   obtain ⟨d',h1,rfl,rfl⟩:=ha
   rw [zqt (H':=[]) hpn,h1,← hp,hpn]
   rfl
 | store t x y =>
  simp only [actD] at ha
  simp only [ziq] at hp
  have e0:opD P A call s.tmps s.heap ⟨dst,.store t x y,type,pos,after,guard⟩=(zdf P s.heap t (evalO s.tmps x) (evalO s.tmps y)).map fun h=>(ze1,some h):=rfl
  rw [e0]
  split at ha
  ·rename_i k off he
   rw [he] at hp
   simp only [ptrId] at hp
   rw [← hp] at ha
   simp only [Option.bind_some,Option.map_eq_some_iff,Option.bind_eq_some_iff,Prod.mk.injEq] at ha
   obtain ⟨b,⟨b0,hb0,h1⟩,rfl,rfl⟩:=ha
   have hc:isP (evalO s.tmps y)=true∨varAt s.heap (.ptr k off)=true:=by
    cases b0 with
    | var cs=>right;simp only [varAt,hb0]
    | arr cs=>left;simp only [stLoc] at h1;split at h1;assumption;cases h1
    | _=>cases h1
   rw [he,zrw hc,hb0,Option.bind_some,h1,← hp]
   simp only [Option.map_some,Option.bind_some,wrOp,Bool.not_true,Bool.and_false,Bool.false_eq_true,if_false,upd]
  ·cases ha
 | alloc e=>simp [isNew] at hn
 | box e x=>simp [isNew] at hn
 | makeSlice t x y=>simp [isNew] at hn
 | _=>exact tame rfl ha
end
section
variable {P : Program} {X M : Nat → Prop} {w : World} {H : List Ob} {ρ : Pl}
theorem zja (g:Nat→Nat):∀ ds:List Dv,zbs g ds=ds.map (zd8 g)
 | []=>rfl
 | d :: ds=>by simp only [zbs,List.map_cons,zja g ds]
mutual
theorem zu8 (g:Nat→Nat):∀ (d:Dv),(∀ r∈za8 d,g r=r)→zd8 g d=d
 | .ref id off len esz,h=>by simp only [zd8,h id (by simp [za8])]
 | .ptr id off,h=>by simp only [zd8,h id (by simp [za8])]
 | .agg ds,h=>by simp only [zd8,zg0 g ds (fun r hr=>h r (by simpa [za8] using hr))]
 | .tup ds,h=>by simp only [zd8,zg0 g ds (fun r hr=>h r (by simpa [za8] using hr))]
 | .fn f ds,h=>by simp only [zd8,zg0 g ds (fun r hr=>h r (by simpa [za8] using hr))]
 | .mp id,h=>by simp only [zd8,h id (by simp [za8])]
 | .ifc t d,h=>by simp only [zd8,zu8 g d (fun r hr=>h r (by simpa [za8] using hr))]
 | .p x,h=>rfl
 | .junk,h=>rfl
theorem zg0 (g:Nat→Nat):∀ (ds:List Dv),(∀ r∈zav ds,g r=r)→zbs g ds=ds
 | [],h=>rfl
 | d :: ds,h=>by
  simp only [zbs,zu8 g d (fun r hr=>h r (by simp [zav,hr])),zg0 g ds (fun r hr=>h r (by simp [zav,hr]))]
end
theorem zyf (g:Nat→Nat) (o:Ob) (h:∀ r∈zfi o,g r=r):obMap g o=o:=by
 cases o with
 | var ds=>simp only [obMap,zg0 g ds h]
 | ro ds=>simp only [obMap,zg0 g ds h]
 | mp es =>
  have:zbs g (es.map Prod.snd)=es.map Prod.snd:=zg0 g (es.map Prod.snd) h
  simp only [obMap]
  congr 1
  rw [zja,List.map_map] at this
  conv=>rhs;rw [← List.map_id es]
  refine List.map_congr_left fun e he=>?_
  have e2:=List.map_inj_left.1 this e he
  simp only [Function.comp] at e2
  rw [e2];rfl
 | rmp es =>
  have:zbs g (es.map Prod.snd)=es.map Prod.snd:=zg0 g (es.map Prod.snd) h
  simp only [obMap]
  congr 1
  rw [zja,List.map_map] at this
  conv=>rhs;rw [← List.map_id es]
  refine List.map_congr_left fun e he=>?_
  have e2:=List.map_inj_left.1 this e he
  simp only [Function.comp] at e2
  rw [e2];rfl
 | _=>rfl
def accAt (L id:Nat):List Nat:=(List.range L).set id L
theorem zhz {L id k:Nat} (hk:k<L):(accAt L id)[k]?=some (if id=k then L else k):=by
 unfold accAt
 rw [List.getElem?_set]
 by_cases h:id=k
 ·rw [if_pos h,if_pos h,if_pos (by simp;omega)]
 ·rw [if_neg h,if_neg h,List.getElem?_range hk]
theorem zjb {L id:Nat}:(accAt L id).length=L:=by simp [accAt]
theorem zmr {L id r:Nat} (hid:id<L):r∈accAt L id↔r=L∨(r<L∧r≠id):=by
 rw [List.mem_iff_getElem?]
 constructor
 ·rintro ⟨k,hk⟩
  have hlt:k<L:=by
   have:=(List.getElem?_eq_some_iff.1 hk).1
   rwa [zjb] at this
  rw [zhz hlt] at hk
  have e:=Option.some.inj hk
  by_cases h:id=k
  ·rw [if_pos h] at e;exact .inl e.symm
  ·rw [if_neg h] at e;subst e;exact .inr ⟨hlt,fun e=>h e.symm⟩
 ·rintro (rfl | ⟨h1,h2⟩)
  ·exact ⟨id,by rw [zhz hid,if_pos rfl]⟩
  ·exact ⟨r,by rw [zhz h1,if_neg (fun e=>h2 e.symm)]⟩
theorem zmb {L id:Nat} (hid:id<L):(accAt L id).Nodup:=by
 refine List.pairwise_iff_getElem.2 fun i j hi hj hij=>?_
 have h1:=zhz (L:=L) (id:=id) (k:=i) (by rwa [zjb] at hi)
 have h2:=zhz (L:=L) (id:=id) (k:=j) (by rwa [zjb] at hj)
 rw [List.getElem?_eq_getElem hi] at h1
 rw [List.getElem?_eq_getElem hj] at h2
 rw [zjb] at hi hj
 rw [Option.some.inj h1,Option.some.inj h2]
 split<;>split<;>omega
theorem z1r {L id r:Nat} (hid:id<L) (hr:r<L) (hne:r≠id):(accAt L id).idxOf r=r:=by
 have h:=zp6 (zmb hid) (j:=r) (by rw [zjb];exact hr)
 have e:(accAt L id).getD r 0=r:=by rw [List.getD_eq_getElem?_getD,zhz hr,if_neg (fun e=>hne e.symm)];rfl
 rwa [e] at h
theorem zy0 {L id:Nat} (hid:id<L):(accAt L id).idxOf L=id:=by
 have h:=zp6 (zmb hid) (j:=id) (by rw [zjb];exact hid)
 have e:(accAt L id).getD id 0=L:=by rw [List.getD_eq_getElem?_getD,zhz hid,if_pos rfl];rfl
 rwa [e] at h
theorem zsz [Gl] {acc refs:List Nat}{n:Nat} (hs:Sim X w H ρ) (ha:AccOk H acc refs) (hp:acc.take n=List.range n):Evo n w H ρ w (za0 H acc) (accPl ρ acc):=by
 have hlen:n≤acc.length:=by
  have:=congrArg List.length hp
  simp at this
  omega
 have hget:∀ i,i<n→acc.getD i 0=i:=by
  intro i hi
  rw [zk8 (by omega)]
  have h1:(acc.take n)[i]?=(List.range n)[i]?:=by rw [hp]
  rw [List.getElem?_take,if_pos hi,List.getElem?_range hi,List.getElem?_eq_getElem (by omega)] at h1
  exact Option.some.inj h1
 refine ⟨rfl,rfl,rfl,Nat.le_refl _,fun _ _ _=>rfl,fun b C h=>⟨C,h,rfl⟩,fun b hb=>.inl (zfm ha hb), ?_,by rw [zjv];exact hlen,fun i hi hal=>?_⟩
 ·rcases Nat.eq_zero_or_pos n with h0 | h0
  ·omega
  ·have:=hget (n - 1) (by omega)
   have:=ha.lt _ (zjj (show n - 1<acc.length by omega))
   omega
 ·obtain ⟨x,hx,hxa⟩:=hal
  obtain ⟨h1,rfl⟩:=zju hx
  rw [zkm,hget i hi] at hxa
  refine ⟨⟨_,zjl ?_,hxa⟩, ?_⟩
  ·have:=ha.lt _ (zjj h1)
   rwa [hget i hi] at this
  ·simp only [accPl,h1,if_true,hget i hi]
theorem z89 [Gl] {s:St}{n id:Nat}{ob:Ob}{f:Nat→Dv}{w':World}{ρ':Pl}{v:Value}{a:Act}{dst:Option Tmp} (hs:StOk X w s ρ a) (hw:WF n s) (hn:n≤id) (hd:s.heap[id]?=some .dead)
  (hob:∀ r∈zfi ob,r∈zav s.tmps) (hf:∀ i,za8 (f i)=[i]∧∀ g:Nat→Nat,zd8 g (f i)=f (g i)) (hfin:Fin X w s.heap ρ w' (s.heap++[ob]) ρ' v (f s.heap.length)) :
  ∃ ρ2,Evo n w s.heap ρ w' (s.heap.set id ob) ρ2∧StOk X w' ⟨putD s.tmps dst (f id),s.heap.set id ob,s.nin⟩ ρ2 (a.put dst v):=by
 have hid:id<s.heap.length:=(List.getElem?_eq_some_iff.1 hd).1
 generalize hL:s.heap.length=L at *
 have good:∀ {r},GoodR n s.heap r→r<L∧r≠id:=by
  rintro r (h | ⟨o,ho,hl⟩)
  ·omega
  ·have:=(List.getElem?_eq_some_iff.1 ho).1
   refine ⟨by omega,fun e=>?_⟩
   subst e
   rw [hd] at ho
   obtain rfl:=Option.some.inj ho
   cases hl
 have htm:∀ {r},r∈zav s.tmps→r<L∧r≠id:=fun h=>good (hw.tmps _ h)
 have hget:∀ k,k<L→(s.heap++[ob])[k]?=s.heap[k]?:=fun k hk=>List.getElem?_append_left (by omega)
 have hgetL:(s.heap++[ob])[L]?=some ob:=by rw [List.getElem?_append_right (by omega),hL,Nat.sub_self];rfl
 have hlen:(s.heap++[ob]).length=L+1:=by rw [List.length_append,hL];rfl
 have htok:TOk w' (Mut X (s.heap++[ob]) ρ') (s.heap++[ob]) ρ' (a.put dst v).tmps (putD s.tmps dst (f L)):=(hs.tok.evo (hL ▸ hfin.evo)).put hfin.rep dst
 have hrefs:∀ r∈zav (putD s.tmps dst (f L)),r=L∨(r<L∧r≠id):=by
  intro r hr
  rcases zxa hr with hr | hr
  ·exact .inr (htm hr)
  ·rw [(hf L).1] at hr;exact .inl (by simpa using hr)
 have ha:AccOk (s.heap++[ob]) (accAt L id) (zav (putD s.tmps dst (f L))):=by
  refine ⟨zmb hid,fun r hr=>(zmr hid).2 (hrefs r hr),fun i hi=>?_,fun i hi j hj=>?_⟩
  ·rcases (zmr hid).1 hi with rfl | h<;>omega
  ·refine (zmr hid).2 ?_
   rcases (zmr hid).1 hi with rfl | ⟨h1,h2⟩
   ·rw [List.getD_eq_getElem?_getD,hgetL] at hj
    exact .inr (htm (hob j hj))
   ·rw [List.getD_eq_getElem?_getD,hget i h1,List.getElem?_eq_getElem (by omega)] at hj
    exact .inr (good (hw.obs i _ (List.getElem?_eq_getElem (by omega)) j hj))
 have hgid:∀ r,r<L∧r≠id→(accAt L id).idxOf r=r:=fun r h=>z1r hid h.1 h.2
 have e1:za0 (s.heap++[ob]) (accAt L id)=s.heap.set id ob:=by
  apply List.ext_getElem?
  intro k
  by_cases hk:k<L
  ·unfold za0
   rw [List.getElem?_map,zhz hk,List.getElem?_set]
   simp only [Option.map_some]
   by_cases h:id=k
   ·rw [if_pos h,if_pos h,if_pos (by omega),List.getD_eq_getElem?_getD,hgetL,Option.getD_some,zyf _ _ fun r hr=>hgid r (htm (hob r hr))]
   ·rw [if_neg h,if_neg h,List.getD_eq_getElem?_getD,hget k hk,List.getElem?_eq_getElem (by omega),Option.getD_some,
     zyf _ _ fun r hr=>hgid r (good (hw.obs k _ (List.getElem?_eq_getElem (by omega)) r hr))]
  ·rw [List.getElem?_eq_none (by rw [zjv,zjb];omega),List.getElem?_eq_none (by rw [List.length_set];omega)]
 have e2:zbs (accAt L id).idxOf (putD s.tmps dst (f L))=putD s.tmps dst (f id):=by
  have h0:zbs (accAt L id).idxOf s.tmps=s.tmps:=zg0 _ _ fun r hr=>hgid r (htm hr)
  cases dst with
  | none=>exact h0
  | some t =>
   simp only [putD]
   rw [zja,List.map_set,← zja,h0,(hf L).2,zy0 hid]
 have htk:(accAt L id).take n=List.range n:=by
  apply List.ext_getElem?
  intro k
  rw [List.getElem?_take]
  by_cases hk:k<n
  ·rw [if_pos hk,zhz (by omega),if_neg (by omega),List.getElem?_range hk]
  ·rw [if_neg hk,List.getElem?_eq_none (by simp;omega)]
 have hsim:=hfin.sim.take (X':=X) ha (fun b hb=>.inl hb) (fun b hb hl=>(hfin.sim.live_x (zfm ha hl)).1 hb)
 have htok':=htok.take (X':=X) ha (fun b hb=>hb.elim .inl fun h=>.inr (zfm ha h))
 have hevo:=(hfin.evo.mono (show n≤s.heap.length by omega)).trans (zsz hfin.sim ha htk)
 rw [e1] at hsim htok' hevo
 rw [e2] at htok'
 exact ⟨_,hevo,⟨hsim,htok',by rw [zlr];exact hs.defers⟩⟩
theorem StE.sound [Gl] {call:CallF} (hc:zir P call) (hN:Names P) {A:Ann}{ops:Array Oper}{pl:Nat→Option Nat}{i n:Nat}{o:Oper}{s s':St}{a:Act} (hs:StOk X w s ρ a) (hw:WF n s) (hn:n≤s.heap.length) (ho:ops[i]?=some o)
  (hpl:isNew o.op=true→∀ k,pl i=some k→n≤k) (h:StE P A call ops pl i s s')
  {K:Act→World→Prop}{Q:Exit→Act→World→Prop} (hK:∀ w' ρ' a',Evo n w s.heap ρ w' s'.heap ρ'→StOk X w' s' ρ' a'→K a' w') :
  if Region.wanted o (yielded ops a.tmps) then o.wp P a w K Q∨(o.asks P a w∧LetsOut Q) else K (a.put o.dst undef) w:=by
 cases hnew:isNew o.op with
 | false=>exact zvn hc hN hs (h.plain (q:=false) ho hnew) fun w' ρ' a' he hs'=>hK w' ρ' a' (he.mono hn) hs'
 | true =>
  obtain ⟨o',ho',hg,hp,d,u,ha,rfl⟩:=h
  rw [ho] at ho';obtain rfl:=Option.some.inj ho'
  have hwn:wantD ops s.tmps o=some true:=by unfold wantD;rw [hg]
  rw [z0w hs.tok hwn]
  simp only [if_true]
  left
  have hact:∃ id f ob,pl i=some id∧s.heap[id]?=some .dead∧newD P s.tmps o=some (f,ob)∧d=f id∧u=some ob:=by
   have e:actD P A call s.tmps o (pl i) ((pl i).bind fun k=>s.heap[k]?)=(match pl i,(pl i).bind fun k=>s.heap[k]? with
     | some i,some .dead=>(newD P s.tmps o).map fun (f,b)=>(f i,some b)
     | _,_=>none):=by
    unfold actD
    obtain ⟨dst,op,type,pos,after,guard⟩:=o
    cases op<;>first | (simp [isNew] at hnew;done) | rfl
   rw [e] at ha
   split at ha
   ·rename_i id hpi hob
    simp only [Option.map_eq_some_iff,Prod.mk.injEq] at ha
    obtain ⟨⟨f,ob⟩,h1,rfl,rfl⟩:=ha
    rw [hpi] at hob
    exact ⟨id,f,ob,hpi,hob,h1,rfl,rfl⟩
   ·cases ha
  obtain ⟨id,f,ob,hpi,hdead,h1,rfl,rfl⟩:=hact
  obtain ⟨_,k2,k3⟩:=zuq h1
  have hop:opD P A call s.tmps s.heap o=some (f s.heap.length,some (s.heap++[ob])):=by rw [zr5 hnew,h1];rfl
  refine (op_ok hc hN hs.sim hs.tok hop).wp fun v w' ρ' hfin=>?_
  obtain ⟨ρ2,he,hst⟩:=z89 (dst:=o.dst) hs hw (hpl hnew id hpi) hdead k2 k3 hfin
  have:(⟨putD s.tmps o.dst (f id),upd s.heap (pl i) (some ob),s.nin⟩:St)=⟨putD s.tmps o.dst (f id),s.heap.set id ob,s.nin⟩:=by rw [hpi];rfl
  rw [this] at hK
  exact hK w' ρ2 _ he hst
def aAnyE [Gl] (P:Program) (A:Ann) (call:CallF) (ops:Array Oper) (pl:Nat→Option Nat) (sf:St):Nat→Array Bool→St→Prop
 | 0,listed,s=>Region.ready .any ops listed=[]∧s=sf
 | fuel+1,listed,s=>(Region.ready .any ops listed=[]→s=sf)∧∀ i∈Region.ready .any ops listed,∃ s',StE P A call ops pl i s s'∧aAnyE P A call ops pl sf fuel (listed.setIfInBounds i true) s'
theorem yc1 {k:Option Nat}{u:Option Ob}:(upd H k u).length=H.length:=by
 cases k with
 | none=>rfl
 | some i=>cases u with
  | none=>rfl
  | some b=>exact List.length_set
theorem StE.len [Gl] {A:Ann}{call:CallF}{ops:Array Oper}{pl:Nat→Option Nat}{i:Nat}{s s':St} (h:StE P A call ops pl i s s'):s'.heap.length=s.heap.length:=by
 obtain ⟨o,ho,hg,hp,d,u,ha,rfl⟩:=h
 exact yc1
theorem z10 [Gl] {call:CallF} (hc:zir P call) (hN:Names P) {A:Ann}{ops:Array Oper}{pl:Nat→Option Nat}{Q:Exit→Act→World→Prop}{n:Nat}{sf:St}
  (hpl:∀ i o,ops[i]?=some o→isNew o.op=true→∀ k,pl i=some k→n≤k) :
  ∀ (fuel:Nat) (listed:Array Bool) (s:St) (w:World) (ρ:Pl) (a:Act),StOk X w s ρ a→WF n s→n≤s.heap.length→aAnyE P A call ops pl sf fuel listed s →
  (∀ w' ρ' a',Evo n w s.heap ρ w' sf.heap ρ'→StOk X w' sf ρ' a'→Q .normal a' w')→wpAny P .any ops Q fuel listed a w
 | 0,listed,s,w,ρ,a,hs,hw,hn,h,hQ=>by
  obtain ⟨h1,rfl⟩:=h
  exact ⟨h1,hQ w ρ a ((Evo.refl ..).mono hn) hs⟩
 | fuel+1,listed,s,w,ρ,a,hs,hw,hn,h,hQ=>by
  refine ⟨fun h1=>?_,fun i hi=>?_⟩
  ·obtain rfl:=h.1 h1
   exact hQ w ρ a ((Evo.refl ..).mono hn) hs
  ·obtain ⟨s1,h1,h2⟩:=h.2 i hi
   unfold wpOp
   obtain ⟨o,ho,_⟩:=id h1
   rw [ho]
   simp only []
   refine h1.sound hc hN hs hw hn ho (hpl i o ho) (fun w1 ρ1 a1 he hs1=>?_)
   exact z10 hc hN hpl fuel _ s1 w1 ρ1 a1 hs1 (h1.wf hw) (by rw [h1.len];exact hn) h2 (fun w' ρ' a' he' hs'=>hQ w' ρ' a' (he.trans he') hs')
theorem zv1 [Gl] {call:CallF}{A:Ann}{ops:Array Oper}{pl:Nat→Option Nat}{sf:St}{i:Nat}{oi:Oper} (hi:ops[i]?=some oi):∀ (fuel:Nat) (listed:Array Bool) (s s1:St),listed.size=ops.size→zyc ops listed →
  (∀ j oj,ops[j]?=some oj→j≠i→listed.getD j true=false→¬ Chain ops j i→oi.apart ops oj=true∧(neqO (pl i) (pl j)=true∨(wrK oi.op=false∧wrK oj.op=false))) →
  i∈Region.ready .any ops listed→StE P A call ops pl i s s1→aAnyE P A call ops pl sf fuel (listed.setIfInBounds i true) s1→aAnyE P A call ops pl sf (fuel+1) listed s:=by
 intro fuel
 induction fuel with
 | zero =>
  intro listed s s1 hsz hcl hfree hr hst H
  refine ⟨fun h=>(by rw [h] at hr;cases hr),fun j hj=>?_⟩
  by_cases hji:j=i
  ·subst hji
   exact ⟨s1,hst,H⟩
  ·have:=ready_mono hj hji
   rw [H.1] at this
   cases this
 | succ fuel ih =>
  intro listed s s1 hsz hcl hfree hr hst H
  refine ⟨fun h=>(by rw [h] at hr;cases hr),fun j hj=>?_⟩
  by_cases hji:j=i
  ·subst hji
   exact ⟨s1,hst,H⟩
  ·obtain ⟨s2,h1,h2⟩:=H.2 j (ready_mono hj hji)
   obtain ⟨hjun,oj,hoj,hall⟩:=mem_ready.1 hj
   have hiun:=(mem_ready.1 hr).1
   have hilt:i<ops.size:=(Array.getElem?_eq_some_iff.1 hi).1
   have hnot:¬ Chain ops j i:=fun hc=>by
    have:=zim hcl hc (.inr hj)
    simp [show i<listed.size from by omega] at this hiun
    rw [this] at hiun;cases hiun
   obtain ⟨hap,hcp⟩:=hfree j oj hoj hji hjun hnot
   obtain ⟨t,g1,g2⟩:=StE.swap hi hoj hap hcp hst h1
   refine ⟨t,g1, ?_⟩
   refine ih (listed.setIfInBounds j true) t s2 (by simp [hsz]) (fun k ok hk hl e he hb=>?_) (fun k ok hk hki hun hno=>?_) (ready_mono hr (Ne.symm hji)) g2 ?_
   ·by_cases hjk:j=k
    ·subst hjk
     rw [hoj] at hk
     obtain rfl:=Option.some.inj hk
     exact getD_set_true (hall e he hb)
    ·rw [getD_set_ne false hjk] at hl
     exact getD_set_true (hcl k ok hk hl e he hb)
   ·refine hfree k ok hk hki ?_ hno
    by_cases hjk:j=k
    ·subst hjk;exact hjun
    ·rw [getD_set_ne true hjk] at hun;exact hun
   ·rw [Array.setIfInBounds_comm _ _ hji]
    exact h2
end
section
variable {P : Program} {X M : Nat → Prop} {w : World} {H : List Ob} {ρ : Pl}
theorem znj [Gl] {pairs:List (Nat×Nat)}{opsA:Array Oper}{ws:List Nat}:∀ (l:List (Oper×Nat)),zoo pairs opsA ws l=true→∀ (a b:Nat) (x y:Oper×Nat),a<b→l[a]?=some x→l[b]?=some y →
  (ws.getD y.2 0).testBit x.2=true∨(x.1.apart opsA y.1=true∧(zih (clsOf true x.1.op) (clsOf true y.1.op)=true∨(x.2,y.2)∈pairs))
 | [],_,a,b,x,y,_,hx,_=>by simp at hx
 | (o,i) :: l,h,a,b,x,y,hab,hx,hy=>by
  simp only [zoo,Bool.and_eq_true] at h
  cases a with
  | zero =>
   obtain ⟨b',rfl⟩:∃ b',b=b'+1:=⟨b - 1,by omega⟩
   simp only [List.getElem?_cons_zero,Option.some.injEq] at hx
   simp only [List.getElem?_cons_succ] at hy
   subst hx
   have:=List.all_eq_true.1 h.1 y (List.mem_of_getElem? hy)
   simp only [Bool.or_eq_true,Bool.and_eq_true,List.contains_iff_mem] at this
   exact this
  | succ a =>
   obtain ⟨b',rfl⟩:∃ b',b=b'+1:=⟨b - 1,by omega⟩
   exact znj l h.2 a b' x y (by omega) (by simpa using hx) (by simpa using hy)
def plF [Gl] (ops:Array Oper) (n:Nat) (sf:St) (i:Nat):Option Nat:=match ops[i]? with | some o=>if isMem o.op then idOfD ops n sf.tmps i else none | none=>none
def runE [Gl] (P:Program) (A:Ann) (call:CallF) (ops:Array Oper) (pl:Nat→Option Nat) (sf:St):List Oper→Nat→St→Prop
 | [],_,s=>s=sf
 | _ :: l,k,s=>∃ s1,StE P A call ops pl k s s1∧runE P A call ops pl sf l (k+1) s1
theorem yai [Gl] {q:Bool}{o:Oper} (h:zfv o.op=true):clsOf q o.op=.n∧isMem o.op=false∧isNew o.op=false:=by
 obtain ⟨dst,op,type,pos,after,guard⟩:=o
 cases op with
 | call c =>
  obtain ⟨callee,args,ts⟩:=c
  cases callee with
  | builtin b =>
   cases b with
   | len =>
    have hm:Gl.isMap (ts.getD 0 0)=false:=by simpa [zfv] using h
    exact ⟨by simp only [clsOf,hm,Bool.false_eq_true,if_false],rfl,rfl⟩
   | _=>simp [zfv] at h
  | _=>simp [zfv] at h
 | _=>first | exact ⟨rfl,rfl,rfl⟩ | (simp [zfv] at h)
theorem z2m [Gl] {o:Oper} (h:isMem o.op=true):(clsOf true o.op=.r∧wrK o.op=false)∨clsOf true o.op=.w:=by
 obtain ⟨dst,op,type,pos,after,guard⟩:=o
 cases op<;>first | exact .inl ⟨rfl,rfl⟩ | exact .inr rfl | (simp [isMem,isNew] at h)
theorem z03 [Gl] {ops:Array Oper}{n:Nat}{pairs:List (Nat×Nat)}{sf:St} (hd:dynB ops n pairs sf=true) (hall:(ops.toList.all fun o=>o.guard.isNone && (isMem o.op || zfv o.op || isCV o.op))=true) {i j:Nat}{oi oj:Oper} (hi:ops[i]?=some oi) (hj:ops[j]?=some oj)
  (hc:zih (clsOf true oi.op) (clsOf true oj.op)=true∨(i,j)∈pairs):neqO (plF ops n sf i) (plF ops n sf j)=true∨(wrK oi.op=false∧wrK oj.op=false):=by
 have none1:∀ {k o},ops[k]?=some o→isMem o.op=false→plF ops n sf k=none:=by
  intro k o hk hm
  unfold plF
  rw [hk]
  simp only [hm,Bool.false_eq_true,if_false]
 have nl:∀ x,neqO none x=true:=fun x=>by cases x<;>rfl
 have nr:∀ x,neqO x none=true:=fun x=>by cases x<;>rfl
 by_cases hmi:isMem oi.op=true
 case neg=>left;rw [none1 hi (by simpa using hmi)];exact nl _
 by_cases hmj:isMem oj.op=true
 case neg=>left;rw [none1 hj (by simpa using hmj)];exact nr _
 rcases hc with hc | hc
 ·right
  rcases z2m hmi with ⟨e1,w1⟩ | e1<;>rcases z2m hmj with ⟨e2,w2⟩ | e2<;>rw [e1,e2] at hc<;>first | exact ⟨w1,w2⟩ | (simp [zih] at hc)
 ·left
  unfold dynB at hd
  rw [Bool.and_eq_true] at hd
  have:=List.all_eq_true.1 hd.1 (i,j) hc
  unfold plF
  rw [hi,hj]
  simp only [hmi,hmj,if_true]
  exact this
theorem zuh [Gl] {call:CallF}{A:Ann}{ops:Array Oper}{n:Nat}{pairs:List (Nat×Nat)}{sf:St} (hB:dynS ops pairs=true) (hd:dynB ops n pairs sf=true):∀ (l:List Oper) (k:Nat) (listed:Array Bool) (s:St),(∀ j,l[j]?=ops[k+j]?)→listed.size=ops.size →
  (∀ j,j<ops.size→listed.getD j true=decide (j<k))→k+l.length=ops.size→runE P A call ops (plF ops n sf) sf l k s→aAnyE P A call ops (plF ops n sf) sf l.length listed s
 | [],k,listed,s,hl,hsz,hlist,hk,h=>by
  have:s=sf:=h
  subst this
  refine ⟨zqi (fun j hj=>?_),rfl⟩
  rw [hlist j hj]
  simp only [List.length_nil,Nat.add_zero] at hk
  simp;omega
 | o :: l,k,listed,s,hl,hsz,hlist,hk,h=>by
  obtain ⟨s1,h1,h2⟩:=h
  have h0:ops[k]?=some o:=by simpa using (hl 0).symm
  have hklt:k<ops.size:=(Array.getElem?_eq_some_iff.1 h0).1
  have hlist':∀ j,j<ops.size→listed.getD j false=decide (j<k):=by
   intro j hj
   have:=hlist j hj
   simp [show j<listed.size from by omega] at this ⊢
   exact this
  have hB':=hB
  simp only [dynS,Bool.and_eq_true] at hB
  obtain ⟨⟨⟨hB1,hB2⟩,hB3⟩,hB4⟩:=hB
  have hedge:∀ (j:Nat) (oj:Oper),ops[j]?=some oj→∀ e∈oj.after,Region.binds .any e=true→e.on<j:=by
   intro j oj hj e he hb
   have hm:(oj,j)∈ops.toList.zipIdx:=by
    rw [List.mem_zipIdx_iff_getElem?]
    simpa using hj
   have:=List.all_eq_true.1 hB1 (oj,j) hm
   have:=List.all_eq_true.1 this e (by simpa using he)
   simp only [Bool.or_eq_true,Bool.not_eq_true',decide_eq_true_eq] at this
   rcases this with h3 | h3
   ·rw [hb] at h3;cases h3
   ·exact h3
  refine zv1 h0 l.length listed s s1 hsz (fun j oj hj hl' e he hb=>?_) (fun j oj hj hjk hun hno=>?_) ?_ h1 ?_
  ·have hjlt:=(Array.getElem?_eq_some_iff.1 hj).1
   rw [hlist' j hjlt] at hl'
   have:=hedge j oj hj e he hb
   rw [hlist' e.on (by omega)]
   simp only [decide_eq_true_eq] at hl' ⊢
   omega
  ·have hjlt:=(Array.getElem?_eq_some_iff.1 hj).1
   rw [hlist j hjlt] at hun
   simp only [decide_eq_false_iff_not] at hun
   have hkj:k<j:=by omega
   have hz:∀ (q:Nat) (oq:Oper),ops[q]?=some oq→ops.toList.zipIdx[q]?=some (oq,q):=by
    intro q oq hq
    rw [List.getElem?_zipIdx]
    simp [hq]
   rcases znj _ hB4 k j (o,k) (oj,j) hkj (hz k o h0) (hz j oj hj) with h3 | ⟨h3,h4⟩
   ·exact absurd (zll h3) hno
   ·exact ⟨h3,z03 hd hB2 h0 hj h4⟩
  ·rw [mem_ready]
   refine ⟨by rw [hlist k hklt];simp,o,h0,fun e he hb=>?_⟩
   have:=hedge k o h0 e he hb
   rw [hlist' e.on (by omega)]
   simp [this]
  ·refine zuh hB' hd l (k+1) _ s1 (fun j=>?_) (by simp [hsz]) (fun j hj=>?_) (by simp only [List.length_cons] at hk;omega) h2
   ·have:=hl (j+1)
    simp only [List.getElem?_cons_succ] at this
    rw [this,Nat.add_assoc,Nat.add_comm 1 j]
   ·by_cases hjk:k=j
    ·subst hjk
     simp [show k<listed.size from by omega]
    ·rw [getD_set_ne true hjk,hlist j hj]
     simp only [decide_eq_decide]
     omega
theorem zua [Gl] {A:Ann}{call:CallF}{q:Bool}{ops:Array Oper}{t:Tmp}:∀ (l:List Oper) (s sf:St),opsD P A call q ops l s=some sf→(∀ o∈l,o.dst≠some t)→evalO s.tmps (.tmp t)=evalO sf.tmps (.tmp t)
 | [],s,sf,h,_=>by simp only [opsD,Option.some.injEq] at h;rw [h]
 | o :: l,s,sf,h,hn=>by
  simp only [opsD,Option.bind_eq_some_iff] at h
  obtain ⟨s1,h1,h2⟩:=h
  rw [← zua l s1 sf h2 fun o' ho=>hn o' (List.mem_cons_of_mem _ ho)]
  obtain ⟨d,hh,e,_⟩:=zgt h1
  rw [e]
  simp only []
  rw [zf3]
  intro t' ht e'
  have:t=t':=by simpa using e'
  subst this
  exact hn o List.mem_cons_self ht
def varB (H:List Ob) (id:Nat):Bool:=match H[id]? with | some (.var _)=>true | _=>false
theorem z80 {id i:Nat} (h:varB (frzAt H i) id=true):varB H id=true:=by
 unfold frzAt at h
 cases hi:H[i]? with
 | none=>rw [hi] at h;exact h
 | some o =>
  rw [hi] at h
  simp only [varB] at h ⊢
  by_cases e:i=id
  ·subst e
   rw [List.getElem?_set_self (List.getElem?_eq_some_iff.1 hi).1] at h
   rw [hi]
   cases o with
   | var ds=>rfl
   | arr cs=>simp [frzOb] at h
   | _=>simp [frzOb] at h
  ·rw [List.getElem?_set_ne e] at h;exact h
theorem zpy {id:Nat}:∀ (l:List Nat) (H:List Ob),varB (zan H l) id=true→varB H id=true
 | [],H,h=>h
 | i :: l,H,h=>z80 (zpy l _ h)
theorem z29 {t:TypeId}{a d:Dv}{H':List Ob}{id:Nat} (h:zdf P H t a d=some H') (hv:varB H' id=true):varB H id=true:=by
 unfold zdf at h
 split at h
 ·rename_i k off n _
  split at h
  ·rename_i cs ds hk _
   split at h<;>cases h
   by_cases e:k=id
   ·subst e;simp only [varB,hk]
   ·simp only [varB,List.getElem?_set_ne e] at hv;exact hv
  ·rename_i cs ds hk _
   split at h
   ·rename_i xs l _
    split at h<;>cases h
    by_cases e:k=id
    ·subst e
     simp only [varB] at hv
     cases hq:(zan H l)[k]? with
     | none =>
      rw [List.getElem?_eq_none (by rw [List.length_set];exact List.getElem?_eq_none_iff.1 hq)] at hv
      cases hv
     | some o =>
      rw [List.getElem?_set_self (List.getElem?_eq_some_iff.1 hq).1] at hv
      cases hv
    ·refine zpy l H ?_
     simp only [varB,List.getElem?_set_ne e] at hv;exact hv
   ·cases h
  ·cases h
 ·cases h
theorem zu6 {t:TypeId}{a d:Dv}{H':List Ob} (h:zdf P H t a d=some H'):H'.length=H.length:=by
 unfold zdf at h
 split at h
 ·split at h
  ·split at h<;>cases h
   rw [List.length_set]
  ·split at h
   ·split at h<;>cases h
    rw [List.length_set,zcs]
   ·cases h
  ·cases h
 ·cases h
theorem z8b {t:TypeId}{id off:Nat}{d:Dv}{H':List Ob} (h:zdf P H t (.ptr id off) d=some H'):id<H.length:=by
 cases hob:H[id]? with
 | some o=>exact (List.getElem?_eq_some_iff.1 hob).1
 | none =>
  unfold zdf at h
  split at h
  ·rename_i id' off' n he _
   have:id'=id:=by injection he with e _;exact e.symm
   subst this
   split at h
   ·rename_i h1 _;rw [hob] at h1;cases h1
   ·rename_i h1 _;rw [hob] at h1;cases h1
   ·cases h
  ·cases h
theorem zpz [Gl] {A:Ann}{call:CallF}{q:Bool}{ops:Array Oper}{o:Oper}{s s':St} (hg:o.guard=none) (h:stepD P A call q ops o s=some s'):∃ d hh,opD P A call s.tmps s.heap o=some (d,hh)∧s'=⟨putD s.tmps o.dst d,hh.getD s.heap,s.nin⟩:=by
 have hw:wantD ops s.tmps o=some true:=by unfold wantD;rw [hg]
 unfold stepD at h
 rw [hw] at h
 simp only [Option.bind_some,if_true,Option.bind_eq_some_iff] at h
 obtain ⟨⟨d,hh⟩,h1,h2⟩:=h
 refine ⟨d,hh,h1, ?_⟩
 cases hh with
 | none=>simp only [Option.some.injEq] at h2;rw [← h2];rfl
 | some H' =>
  simp only [] at h2
  split at h2<;>cases h2
  rfl
theorem zp8 [Gl] {A:Ann}{call:CallF}{ops:Array Oper}{o:Oper}{s s':St} (hg:o.guard=none) (hk:isCV o.op=true) (h:stepD P A call true ops o s=some s'):∃ d,opD P A call s.tmps s.heap o=some (d,none)∧s'=⟨putD s.tmps o.dst d,s.heap,s.nin⟩:=by
 have hw:wantD ops s.tmps o=some true:=by unfold wantD;rw [hg]
 unfold stepD at h
 rw [hw] at h
 simp only [Option.bind_some,if_true,Option.bind_eq_some_iff] at h
 obtain ⟨⟨d,hh⟩,h1,h2⟩:=h
 cases hh with
 | none=>simp only [Option.some.injEq] at h2;exact ⟨d,h1,h2.symm⟩
 | some H' =>
  have:wrOp o.op=false:=by
   obtain ⟨dst,op,type,pos,after,guard⟩:=o
   cases op with
   | call c =>
    obtain ⟨callee,args,ts⟩:=c
    cases callee<;>first | rfl | (simp [isCV,zcj,isBS] at hk)
   | buildSlice t len parts=>rfl
   | _=>simp [isCV,zcj,isBS] at hk
  simp [this] at h2
theorem z2o [Gl] {o:Oper} (h:isCV o.op=true):isMem o.op=false∧isNew o.op=false∧zfv o.op=false:=by
 obtain ⟨dst,op,type,pos,after,guard⟩:=o
 cases op with
 | call c =>
  obtain ⟨callee,args,ts⟩:=c
  cases callee<;>first | exact ⟨rfl,rfl,rfl⟩ | (simp [isCV,zcj,isBS] at h)
 | buildSlice t len parts=>exact ⟨rfl,rfl,rfl⟩
 | _=>simp [isCV,zcj,isBS] at h
theorem z8q [Gl] {A:Ann}{call:CallF}{ops:Array Oper}{o:Oper}{s s':St}{id:Nat} (hg:o.guard=none) (hk:isMem o.op=true∨zfv o.op=true∨isCV o.op=true) (h:stepD P A call true ops o s=some s') (hid:id<s.heap.length) (hv:varB s'.heap id=true):varB s.heap id=true∧s.heap.length≤s'.heap.length:=by
 obtain ⟨d,hh,h1,rfl⟩:=zpz hg h
 rcases hk with hk | hk
 ·cases hn:isNew o.op with
  | true =>
   rw [zr5 hn] at h1
   simp only [Option.map_eq_some_iff,Prod.mk.injEq] at h1
   obtain ⟨⟨f,b⟩,_,rfl,rfl⟩:=h1
   simp only [Option.getD_some,varB] at hv ⊢
   rw [List.getElem?_append_left hid] at hv
   exact ⟨hv,by simp⟩
  | false =>
   obtain ⟨dst,op,type,pos,after,guard⟩:=o
   cases op with
   | load t x =>
    simp only [opD,Option.map_eq_some_iff,Prod.mk.injEq] at h1
    obtain ⟨_,_,rfl,rfl⟩:=h1
    exact ⟨hv,Nat.le_refl _⟩
   | store t x y =>
    simp only [opD,Option.map_eq_some_iff,Prod.mk.injEq] at h1
    obtain ⟨H',h2,rfl,rfl⟩:=h1
    refine ⟨z29 h2 hv, ?_⟩
    simp only [Option.getD_some,zu6 h2];exact Nat.le_refl _
   | _=>first | (simp [isMem,isNew] at hk;done) | (simp [isNew] at hn)
 ·rcases hk with hk | hk
  ·obtain ⟨rfl,_⟩:=zk4 hk h1
   exact ⟨hv,Nat.le_refl _⟩
  ·obtain ⟨d',_,e⟩:=zp8 hg hk h
   have e':Option.getD hh s.heap=s.heap:=congrArg St.heap e
   simp only [e'] at hv ⊢
   exact ⟨hv,Nat.le_refl _⟩
theorem zut [Gl] {A:Ann}{call:CallF}{ops:Array Oper}{o:Oper}{s s':St} (hg:o.guard=none) (hk:isMem o.op=true∨zfv o.op=true∨isCV o.op=true) (h:stepD P A call true ops o s=some s'):s'.heap.length=s.heap.length+(if isNew o.op then 1 else 0):=by
 obtain ⟨d,hh,h1,rfl⟩:=zpz hg h
 rcases hk with hk | hk
 ·cases hn:isNew o.op with
  | true =>
   rw [zr5 hn] at h1
   simp only [Option.map_eq_some_iff,Prod.mk.injEq] at h1
   obtain ⟨⟨f,b⟩,_,rfl,rfl⟩:=h1
   simp
  | false =>
   obtain ⟨dst,op,type,pos,after,guard⟩:=o
   cases op with
   | load t x =>
    simp only [opD,Option.map_eq_some_iff,Prod.mk.injEq] at h1
    obtain ⟨_,_,rfl,rfl⟩:=h1
    rfl
   | store t x y =>
    simp only [opD,Option.map_eq_some_iff,Prod.mk.injEq] at h1
    obtain ⟨H',h2,rfl,rfl⟩:=h1
    simp only [Option.getD_some,zu6 h2];rfl
   | _=>first | (simp [isMem,isNew] at hk;done) | (simp [isNew] at hn)
 ·rcases hk with hk | hk
  ·obtain ⟨rfl,_⟩:=zk4 hk h1
   rw [(yai (q:=true) hk).2.2];rfl
  ·obtain ⟨d',_,e⟩:=zp8 hg hk h
   have e':Option.getD hh s.heap=s.heap:=congrArg St.heap e
   simp only [e',(z2o hk).2.1];rfl
theorem ztn [Gl] {A:Ann}{call:CallF}{ops:Array Oper}{o:Oper}{s s':St} (hg:o.guard=none) (hk:isMem o.op=true∨zfv o.op=true∨isCV o.op=true) (h:stepD P A call true ops o s=some s'):s.heap.length≤s'.heap.length:=by
 rw [zut hg hk h];omega
theorem zx1 [Gl] {A:Ann}{call:CallF}{ops:Array Oper}{id:Nat}:∀ (l:List Oper) (s sf:St),(∀ o∈l,o.guard=none∧(isMem o.op=true∨zfv o.op=true∨isCV o.op=true))→opsD P A call true ops l s=some sf→id<s.heap.length→varB sf.heap id=true→varB s.heap id=true
 | [],s,sf,_,h,_,hv=>by simp only [opsD,Option.some.injEq] at h;rw [h];exact hv
 | o :: l,s,sf,ha,h,hid,hv=>by
  simp only [opsD,Option.bind_eq_some_iff] at h
  obtain ⟨s1,h1,h2⟩:=h
  obtain ⟨g1,g2⟩:=ha o List.mem_cons_self
  have hlen:=ztn g1 g2 h1
  exact (z8q g1 g2 h1 hid (zx1 l s1 sf (fun o' ho=>ha o' (List.mem_cons_of_mem _ ho)) h2 (by omega) hv)).1
def padS (l:List Oper) (s:St):St:=⟨s.tmps,s.heap++List.replicate (l.countP fun o=>isNew o.op) .dead,s.nin⟩
theorem zud:∀ (l:List Oper) (k:Nat) (o:Oper),l[k]?=some o→rankN l (k+1)=rankN l k+(if isNew o.op then 1 else 0)
 | [],k,o,h=>by simp at h
 | o' :: l,0,o,h=>by
  simp only [List.getElem?_cons_zero,Option.some.injEq] at h
  subst h
  simp only [rankN]
  cases l<;>simp [rankN]
 | o' :: l,k+1,o,h=>by
  simp only [List.getElem?_cons_succ] at h
  have:=zud l k o h
  simp only [rankN] at this ⊢
  omega
theorem z00 [Gl] {A:Ann}{call:CallF}{ops:Array Oper}{n:Nat}{sf:St}:∀ (l:List Oper) (k:Nat) (s:St),(∀ j,l[j]?=ops[k+j]?)→(∀ o∈l,o.guard=none∧(isMem o.op=true∨zfv o.op=true∨isCV o.op=true))→zs2 l=true→(∀ o∈l,zmc sf o=true) →
  s.heap.length=n+rankN ops.toList k→opsD P A call true ops l s=some sf→runE P A call ops (plF ops n sf) sf l k (padS l s)
 | [],k,s,hl,ha,hst,hso,hlen,h=>by
  simp only [opsD,Option.some.injEq] at h
  subst h
  show padS [] s=s
  simp [padS]
 | o :: l,k,s,hl,ha,hst,hso,hlen,h=>by
  have h00:=h
  simp only [opsD,Option.bind_eq_some_iff] at h
  obtain ⟨s1,h1,h2⟩:=h
  have h0:ops[k]?=some o:=by simpa using (hl 0).symm
  have h0':ops.toList[k]?=some o:=by simpa using h0
  obtain ⟨hg,hk⟩:=ha o List.mem_cons_self
  obtain ⟨d,hh,hop,he⟩:=zpz hg h1
  simp only [zs2,Bool.and_eq_true] at hst
  obtain ⟨hst1,hst2⟩:=hst
  have hsto:=hso o List.mem_cons_self
  have hstab:∀ x∈zn6 o.op,evalO s.tmps x=evalO sf.tmps x:=by
   intro x hx
   have:=List.all_eq_true.1 hst1 x hx
   cases x with
   | tmp t =>
    refine zua (o :: l) s sf h00 fun o' ho e=>?_
    have:=List.all_eq_true.1 this o' ho
    simp [e] at this
   | _=>rfl
  have hpl:plF ops n sf k=if isMem o.op then idOfD ops n sf.tmps k else none:=by unfold plF;rw [h0]
  have hid:idOfD ops n sf.tmps k=match o.op with | .load _ x=>ptrId (evalO sf.tmps x) | .store _ x _=>ptrId (evalO sf.tmps x) | op=>if isNew op then some (n+rankN ops.toList k) else none:=by
   unfold idOfD;rw [h0]
   obtain ⟨dst,op,type,pos,after,guard⟩:=o
   cases op<;>rfl
  have hrank:=zud ops.toList k o h0'
  have hlen1:=ztn hg hk h1
  have hrest:=z00 (n:=n) l (k+1) s1 (fun j=>by
   have:=hl (j+1)
   simp only [List.getElem?_cons_succ] at this
   rw [this,Nat.add_assoc,Nat.add_comm 1 j]) (fun o' ho=>ha o' (List.mem_cons_of_mem _ ho)) hst2 (fun o' ho=>hso o' (List.mem_cons_of_mem _ ho)) (by rw [hrank,zut hg hk h1];omega) h2
  refine ⟨padS l s1,⟨o,h0,hg, ?_⟩,hrest⟩
  generalize hq:plF ops n sf k=pk at *
  rcases hk with hk | hk
  ·rw [if_pos hk] at hpl
   cases hn:isNew o.op with
   | true =>
    have hop':=hop
    rw [zr5 hn] at hop'
    simp only [Option.map_eq_some_iff,Prod.mk.injEq] at hop'
    obtain ⟨⟨f,b⟩,hnd,rfl,rfl⟩:=hop'
    have hpk:pk=some s.heap.length:=by
     rw [hpl,hid,hlen]
     obtain ⟨dst,op,type,pos,after,guard⟩:=o
     cases op<;>first | rfl | (simp [isNew] at hn)
    subst hpk
    refine ⟨?_,f s.heap.length,some b, ?_, ?_⟩
    ·obtain ⟨dst,op,type,pos,after,guard⟩:=o
     cases op<;>first | rfl | (simp [isNew] at hn)
    ·have hc:(o :: l).countP (fun o=>isNew o.op)=l.countP (fun o=>isNew o.op)+1:=by rw [List.countP_cons_of_pos];exact hn
     have hob:((some s.heap.length:Option Nat).bind fun k=>(padS (o :: l) s).heap[k]?)=some .dead:=by
      simp only [Option.bind_some,padS]
      rw [List.getElem?_append_right (Nat.le_refl _),Nat.sub_self,hc,List.replicate_succ];rfl
     rw [hob]
     have e:actD P A call (padS (o :: l) s).tmps o (some s.heap.length) (some .dead)=(newD P s.tmps o).map fun (f,b)=>(f s.heap.length,some b):=by
      unfold actD
      obtain ⟨dst,op,type,pos,after,guard⟩:=o
      cases op<;>first | (simp [isNew] at hn;done) | rfl
     rw [e,hnd];rfl
    ·have hc:(o :: l).countP (fun o=>isNew o.op)=l.countP (fun o=>isNew o.op)+1:=by rw [List.countP_cons_of_pos];exact hn
     rw [he]
     simp only [padS,Option.getD_some,upd,St.mk.injEq,true_and,and_true]
     rw [hc,List.replicate_succ,List.set_append_right _ _ (Nat.le_refl _),Nat.sub_self,List.set_cons_zero,List.append_assoc];rfl
   | false =>
    have hc:(o :: l).countP (fun o=>isNew o.op)=l.countP (fun o=>isNew o.op):=by rw [List.countP_cons_of_neg];simp [hn]
    obtain ⟨dst,op,type,pos,after,guard⟩:=o
    cases op with
    | load t x =>
     have hx:=hstab x (by simp [zn6,addrs])
     simp only [] at hid
     rw [← hx] at hid
     have e0:opD P A call s.tmps s.heap ⟨dst,.load t x,type,pos,after,guard⟩=(loadD P s.heap t (evalO s.tmps x)).map fun d=>(d,none):=rfl
     rw [e0] at hop
     simp only [Option.map_eq_some_iff,Prod.mk.injEq] at hop
     obtain ⟨d',hl1,rfl,rfl⟩:=hop
     refine ⟨by rw [hpl,hid];rfl,d',none, ?_, ?_⟩
     ·simp only [actD,padS]
      cases hxe:evalO s.tmps x with
      | ptr id off =>
       rw [hxe] at hl1 hid
       rw [zui] at hl1
       obtain ⟨ob,hob,hl2⟩:=Option.bind_eq_some_iff.1 hl1
       rw [hpl,hid]
       simp only [ptrId,Option.bind_some]
       rw [List.getElem?_append_left (List.getElem?_eq_some_iff.1 hob).1,hob,Option.bind_some,hl2];rfl
      | _ =>
       rw [hxe,zqt (H':=[]) rfl] at hl1
       simp only [hl1];rfl
     ·rw [he]
      simp only [padS,hc,Option.getD_none]
      cases pk<;>rfl
    | store t x y =>
     have hx:=hstab x (by simp [zn6,addrs])
     have hy:=hstab y (by simp [zn6,addrs])
     simp only [] at hid
     rw [← hx] at hid
     have e0:opD P A call s.tmps s.heap ⟨dst,.store t x y,type,pos,after,guard⟩=(zdf P s.heap t (evalO s.tmps x) (evalO s.tmps y)).map fun h=>(ze1,some h):=rfl
     rw [e0] at hop
     simp only [Option.map_eq_some_iff,Prod.mk.injEq] at hop
     obtain ⟨H',hs1,rfl,rfl⟩:=hop
     obtain ⟨id,off,hxe⟩:∃ id off,evalO s.tmps x=.ptr id off:=by
      unfold zdf at hs1
      split at hs1
      ·rename_i id off n' hxe _;exact ⟨id,off,hxe⟩
      ·cases hs1
     have hidl:id<s.heap.length:=z8b (hxe ▸ hs1)
     have hcond:isP (evalO s.tmps y)=true∨varAt s.heap (.ptr id off)=true:=by
      simp only [zmc,Bool.or_eq_true] at hsto
      rw [← hx,← hy,hxe] at hsto
      rcases hsto with h | h
      ·exact .inl h
      ·exact .inr (zx1 (⟨dst,.store t x y,type,pos,after,guard⟩ :: l) s sf ha h00 hidl h)
     rw [hxe,zrw hcond] at hs1
     simp only [Option.map_eq_some_iff,Option.bind_eq_some_iff] at hs1
     obtain ⟨b,⟨ob,hob,hs2⟩,rfl⟩:=hs1
     have hpk:pk=some id:=by rw [hpl,hid,hxe];rfl
     subst hpk
     refine ⟨by simp only [ziq,padS];rw [hxe];rfl,ze1,some b, ?_, ?_⟩
     ·simp only [actD,padS,hxe,Option.bind_some]
      rw [List.getElem?_append_left hidl,hob,Option.bind_some,hs2];rfl
     ·rw [he]
      simp only [padS,hc,Option.getD_some,upd]
      rw [List.set_append_left _ _ hidl]
    | _=>first | (simp [isMem,isNew] at hk;done) | (simp [isNew] at hn)
  ·rcases hk with hk | hk
   ·obtain ⟨hcn,hm,hn⟩:=yai (q:=true) hk
    have hc:(o :: l).countP (fun o=>isNew o.op)=l.countP (fun o=>isNew o.op):=by rw [List.countP_cons_of_neg];simp [hn]
    rw [hm] at hpl
    simp only [Bool.false_eq_true,if_false] at hpl
    subst hpl
    obtain ⟨rfl,_⟩:=zk4 hk hop
    refine ⟨?_,d,none, ?_, ?_⟩
    ·obtain ⟨dst,op,type,pos,after,guard⟩:=o
     cases op<;>first | rfl | (simp [zfv] at hk;done)
    ·have e:actD P A call s.tmps o none none=(opD P A call s.tmps [] o).map fun r=>(r.1,none):=by
      unfold actD
      obtain ⟨dst,op,type,pos,after,guard⟩:=o
      simp only [] at hk hn
      cases op<;>first | (simp [zfv] at hk;done) | (simp only [hn,hk,Bool.false_eq_true,if_false,if_true])
     show actD P A call s.tmps o none none=_
     rw [e,(cls_n (P:=P) (A:=A) (call:=call) (tm:=s.tmps) (H:=[]) (H':=s.heap) hcn).1,hop];rfl
    ·rw [he];simp only [padS,hc,Option.getD_none,upd]
   ·obtain ⟨hm,hn,htm⟩:=z2o hk
    have hc:(o :: l).countP (fun o=>isNew o.op)=l.countP (fun o=>isNew o.op):=by rw [List.countP_cons_of_neg];simp [hn]
    rw [hm] at hpl
    simp only [Bool.false_eq_true,if_false] at hpl
    subst hpl
    obtain ⟨d',hop',e1⟩:=zp8 hg hk h1
    have hpa:zcw s.tmps o=true:=by
     have h3:zcw sf.tmps o=true:=by
      obtain ⟨dst,op,type,pos,after,guard⟩:=o
      simp only [] at hk
      cases op with
      | call c =>
       simp only [zmc,hk,Bool.not_true,Bool.false_or] at hsto
       exact hsto
      | buildSlice t len parts =>
       simp only [zmc,hk,Bool.not_true,Bool.false_or] at hsto
       exact hsto
      | _=>simp [isCV,zcj,isBS] at hk
     rw [← h3]
     obtain ⟨dst,op,type,pos,after,guard⟩:=o
     simp only [] at hk
     cases op with
     | call c =>
      obtain ⟨callee,args,ts⟩:=c
      cases callee with
      | value f =>
       have g1:=hstab f (by simp [zn6,addrs])
       have g2:∀ x∈args.toList,evalO s.tmps x=evalO sf.tmps x:=fun x hx=>hstab x (by simp only [zn6,addrs];exact List.mem_append_left _ (List.mem_cons_of_mem _ hx))
       simp only [zcw,g1]
       congr 1
       rw [Bool.eq_iff_iff,List.all_eq_true,List.all_eq_true]
       exact ⟨fun k x hx=>by rw [← g2 x hx];exact k x hx,fun k x hx=>by rw [g2 x hx];exact k x hx⟩
      | _=>simp [isCV,zcj,isBS] at hk
     | buildSlice t len parts =>
      have g2:∀ p∈parts.toList,evalO s.tmps p.2=evalO sf.tmps p.2:=fun p hp=>hstab p.2 (by simp only [zn6];exact List.mem_append_right _ (List.mem_map.2 ⟨p,hp,rfl⟩))
      simp only [zcw]
      rw [Bool.eq_iff_iff,List.all_eq_true,List.all_eq_true]
      exact ⟨fun k x hx=>by rw [← g2 x hx];exact k x hx,fun k x hx=>by rw [g2 x hx];exact k x hx⟩
     | _=>simp [isCV,zcj,isBS] at hk
    refine ⟨?_,d',none, ?_, ?_⟩
    ·obtain ⟨dst,op,type,pos,after,guard⟩:=o
     cases op<;>first | rfl | (simp [isCV,zcj,isBS] at hk;done)
    ·have e:actD P A call s.tmps o none none=(match opD P A call s.tmps [] o with | some (d,none)=>some (d,none) | _=>none):=by
      unfold actD
      obtain ⟨dst,op,type,pos,after,guard⟩:=o
      simp only [] at hk hn htm
      cases op<;>first | (simp [isCV,zcj,isBS] at hk;done) | (simp only [hn,htm,hpa,Bool.false_eq_true,if_false,if_true];done) | (simp only [hn,htm,hpa,Bool.false_eq_true,if_false,if_true];rfl)
     show actD P A call s.tmps o none none=_
     rw [e,(znw hpa hop').2 []]
    ·rw [e1];simp only [padS,hc,upd]
end
section
variable {P : Program} {X M : Nat → Prop} {w : World} {H : List Ob} {ρ : Pl}
theorem RepD.refs_lt {v:Value}{d:Dv} (h:RepD w M H ρ v d):∀ r∈za8 d,r<H.length:=by
 have lst:∀ (cs:List Dv),(∀ j (hj:j<cs.length),∀ r∈za8 cs[j],r<H.length)→∀ r∈zav cs,r<H.length:=by
  intro cs h r hr
  obtain ⟨x,hx,hr⟩:=zbr.1 hr
  obtain ⟨j,hj,rfl⟩:=List.getElem_of_mem hx
  exact h j hj r hr
 induction h with
 | junk x=>intro r hr;simp [za8] at hr
 | p x y hp=>intro r hr;simp [za8] at hr
 | ref id off len esz A cap hid hn ha=>intro r hr;simp [za8] at hr;omega
 | ptr id off a hid ha=>intro r hr;simp [za8] at hr;omega
 | agg vs cs hl h1 hr ih=>intro r h;exact lst cs (fun j hj=>ih j hj) r (by simpa [za8] using h)
 | tup vs cs hl hr ih=>intro r h;exact lst cs (fun j hj=>ih j hj) r (by simpa [za8] using h)
 | fn f vs cs hl hr ih=>intro r h;exact lst cs (fun j hj=>ih j hj) r (by simpa [za8] using h)
 | mp id b hid ha=>intro r hr;simp [za8] at hr;omega
 | ifc t v d hr ih=>intro r h;exact ih r (by simpa [za8] using h)
theorem TOk.refs_lt {vs:Array Value}{ds:List Dv} (h:TOk w M H ρ vs ds):∀ r∈zav ds,r<H.length:=by
 intro r hr
 obtain ⟨x,hx,hr⟩:=zbr.1 hr
 obtain ⟨j,hj,rfl⟩:=List.getElem_of_mem hx
 exact (h.2 j hj).refs_lt r hr
theorem CellsD.refs_lt {C:Array Value}{bs:Nat}{ds:List Dv} (h:CellsD w M H ρ C bs ds):∀ r∈zav ds,r<H.length:=by
 intro r hr
 obtain ⟨x,hx,hr⟩:=zbr.1 hr
 obtain ⟨j,hj,rfl⟩:=List.getElem_of_mem hx
 exact (h.2 j hj).2.refs_lt r hr
theorem Sim.refs_lt [Gl] (hs:Sim X w H ρ) {k:Nat}{o:Ob} (hk:H[k]?=some o):∀ r∈zfi o,r<H.length:=by
 have h:=hs.obs k o hk
 cases o with
 | var ds=>obtain ⟨b,bs,C,_,_,_,h⟩:=h;exact h.refs_lt
 | ro ds=>obtain ⟨b,bs,C,_,_,_,h⟩:=h;exact h.refs_lt
 | mp es =>
  obtain ⟨b,E,c,_,_,_,h⟩:=h
  intro r hr
  obtain ⟨x,hx,hr⟩:=zbr.1 hr
  obtain ⟨j,hj,rfl⟩:=List.getElem_of_mem hx
  have hj':j<es.length:=by simpa using hj
  exact (h.2 j hj' (by rw [h.1];exact hj')).2.refs_lt r (by simpa using hr)
 | rmp es =>
  obtain ⟨b,E,c,_,_,_,h⟩:=h
  intro r hr
  obtain ⟨x,hx,hr⟩:=zbr.1 hr
  obtain ⟨j,hj,rfl⟩:=List.getElem_of_mem hx
  have hj':j<es.length:=by simpa using hj
  exact (h.2 j hj' (by rw [h.1];exact hj')).2.refs_lt r (by simpa using hr)
 | _=>intro r hr;simp [zfi] at hr
theorem yad [Gl] {s:St}{a:Act}:∀ (k:Nat),StOk X w s ρ a→∃ ρ',StOk X w ⟨s.tmps,s.heap++List.replicate k .dead,s.nin⟩ ρ' a∧Evo s.heap.length w s.heap ρ w (s.heap++List.replicate k .dead) ρ'
 | 0,hs=>by
  refine ⟨ρ, ?_, ?_⟩
  ·simp only [List.replicate_zero,List.append_nil];exact hs
  ·simp only [List.replicate_zero,List.append_nil];exact Evo.refl ..
 | k+1,hs=>by
  obtain ⟨ρ',h1,h2⟩:=yad k hs
  have e:s.heap++List.replicate (k+1) Ob.dead=(s.heap++List.replicate k .dead)++[.dead]:=by rw [List.replicate_succ',List.append_assoc]
  have he:Evo (s.heap++List.replicate k Ob.dead).length w (s.heap++List.replicate k .dead) ρ' w ((s.heap++List.replicate k .dead)++[.dead]) (updPl ρ' (s.heap++List.replicate k Ob.dead).length none) :=
   Evo.addOb rfl rfl rfl (Nat.le_refl _) (fun _ _=>rfl) (fun b bs e _=>by simp at e)
  have hsim:=h1.sim.addOb (o:=.dead) (pl:=none) rfl rfl rfl (Nat.le_refl _) (fun _ _=>rfl) (fun b bs e _=>by simp at e) trivial
  refine ⟨updPl ρ' (s.heap++List.replicate k Ob.dead).length none, ?_, ?_⟩
  ·rw [e]
   exact ⟨hsim,h1.tok.evo he,hs.defers⟩
  ·rw [e]
   exact h2.trans (he.mono (by simp))
theorem yhb [Gl] {l:List Oper}{s:St}{a:Act} (hs:StOk X w s ρ a):WF s.heap.length (padS l s):=by
 refine ⟨fun r hr=>.inl (hs.tok.refs_lt r hr),fun k o hk r hr=>?_⟩
 simp only [padS] at hk
 by_cases hlt:k<s.heap.length
 ·rw [List.getElem?_append_left hlt] at hk
  exact .inl (hs.sim.refs_lt hk r hr)
 ·rw [List.getElem?_append_right (by omega)] at hk
  have:o=.dead:=List.eq_of_mem_replicate (List.mem_of_getElem? hk)
  subst this
  simp [zfi] at hr
theorem zzc [Gl] {call:CallF} (hc:zir P call) (hN:Names P) (hm:P.follows .mixedOrders=true) {A:Ann}{id:Nat}{ops:Array Oper}{pairs:List (Nat×Nat)} (hB:dynS ops pairs=true) {Q:Exit→Act→World→Prop}{n:Nat}{s s':St}{a:Act}
  (hs:StOk X w s ρ a) (h:opsD P A call true ops ops.toList s=some s') (hd:dynB ops s.heap.length pairs s'=true) (hn:n≤s.heap.length)
  (hQ:∀ w' ρ' a',Evo n w s.heap ρ w' s'.heap ρ'→StOk X w' s' ρ' a'→Q .normal a' w'):(Code.region id ops true).wp P Q a w:=by
 refine wp_region_any hm ?_
 have hs1:StOk X { w with drawn:=w.drawn+1 } s ρ a:=⟨hs.sim.drew,hs.tok.evo (Evo.drew w s.heap ρ),hs.defers⟩
 have hB':=hB
 simp only [dynS,Bool.and_eq_true] at hB
 obtain ⟨⟨⟨hB1,hB2⟩,hB3⟩,hB4⟩:=hB
 have hall:∀ o∈ops.toList,o.guard=none∧(isMem o.op=true∨zfv o.op=true∨isCV o.op=true):=by
  intro o ho
  have:=List.all_eq_true.1 hB2 o ho
  simp only [Bool.and_eq_true,Option.isNone_iff_eq_none,Bool.or_eq_true,or_assoc] at this
  exact this
 have hso:∀ o∈ops.toList,zmc s' o=true:=by
  intro o ho
  unfold dynB at hd
  rw [Bool.and_eq_true] at hd
  exact List.all_eq_true.1 hd.2 o ho
 have hrun:=z00 (P:=P) (A:=A) (call:=call) (ops:=ops) (n:=s.heap.length) (sf:=s') ops.toList 0 s (fun j=>by simp) hall hB3 hso (by cases ops.toList<;>rfl) h
 have hany:=zuh hB' hd ops.toList 0 (Array.replicate ops.size false) (padS ops.toList s) (fun j=>by simp) (by simp) (fun j hj=>by simp [hj]) (by simp) hrun
 simp only [Array.length_toList] at hany
 obtain ⟨ρ2,hs2,he2⟩:=yad (ops.toList.countP fun o=>isNew o.op) hs1
 refine z10 hc hN (n:=s.heap.length) (fun i o ho hnew k hk=>?_) _ _ (padS ops.toList s) _ ρ2 a hs2 (yhb hs1) (by simp [padS]) hany (fun w' ρ' a' he hs'=>hQ w' ρ' a' ?_ hs')
 ·unfold plF at hk
  rw [ho] at hk
  have hmem:isMem o.op=true:=by
   obtain ⟨dst,op,type,pos,after,guard⟩:=o
   cases op<;>first | rfl | (simp [isNew] at hnew)
  simp only [hmem,if_true] at hk
  unfold idOfD at hk
  rw [ho] at hk
  obtain ⟨dst,op,type,pos,after,guard⟩:=o
  cases op<;>first | (simp [isNew] at hnew;done) | (simp only [isNew,if_true,Option.some.injEq] at hk;omega)
 ·exact (((Evo.drew w s.heap ρ).trans he2).trans he).mono hn
end
end Go.Ev

