/- A part of the proof: E5. No conditions of its own. -/
import Derived.Test.YtcpenhffpgajoaaE4
import Derived.Laws.StructEq
import Derived.LaidMore
import Derived.MakeChecks
import Derived.Stop.Joined
set_option linter.unusedVariables false
set_option linter.unusedSimpArgs false
namespace Go.Ev
section
variable {T : Type} {en : T → List Pv} {sz : Nat}
def encL (en:T→List Pv) (l:List T):List Pv:=l.flatMap en
theorem zkp (hs:∀ x,(en x).length=sz):∀ (l:List T),(encL en l).length=l.length*sz
 | []=>by simp [encL]
 | x :: l=>by
  have:=zkp hs l
  simp only [encL,List.flatMap_cons,List.length_append,hs,List.length_cons] at this ⊢
  rw [this,Nat.succ_mul,Nat.add_comm]
theorem z9m (l m:List T):encL en (l++m)=encL en l++encL en m:=List.flatMap_append
theorem z6w (x:T):encL en [x]=en x:=by simp [encL]
theorem zbe (x:T) (l:List T):encL en (x :: l)=en x++encL en l:=by simp [encL]
theorem zun (z:T):∀ n,repl n (en z)=encL en (List.replicate n z)
 | 0=>rfl
 | n+1=>by rw [repl,zun z n,List.replicate_succ,zbe]
theorem znr:∀ (a b:List Pv),wks (a++b)=wks a++wks b
 | [],b=>by simp [wks]
 | x :: a,b=>by simp only [List.cons_append,wks,znr a b]
theorem zko (h:∀ x,wks (en x)=en x):∀ (l:List T),wks (encL en l)=encL en l
 | []=>by simp [encL,wks]
 | x :: l=>by rw [zbe,znr,h,zko h l]
def rd (l:List T) (i:Int):Option T:=if 0≤i then l[i.toNat]? else none
theorem zhr {l:List T}{i:Int}{v:T} (h:rd l i=some v):0≤i∧i<(l.length:Int)∧l[i.toNat]?=some v:=by
 unfold rd at h
 split at h
 ·rename_i h0
  have:=(List.getElem?_eq_some_iff.1 h).1
  exact ⟨h0,by omega,h⟩
 ·cases h
theorem zb2 {l:List T}{i:Nat}:rd l (i:Int)=l[i]?:=by
 unfold rd
 rw [if_pos (by omega)];rfl
theorem rd_lt {l:List T}{i:Int} (h0:0≤i) (h1:i<(l.length:Int)):rd l i=some (l[i.toNat]'(by omega)):=by
 unfold rd
 rw [if_pos h0,List.getElem?_eq_getElem]
theorem zm1 (hs:∀ x,(en x).length=sz):∀ (l:List T) (j:Nat) (v:T),l[j]?=some v→((encL en l).drop (j*sz)).take sz=en v∧j*sz+sz≤(encL en l).length
 | [],j,v,h=>by simp at h
 | x :: l,0,v,h=>by
  obtain rfl:x=v:=by simpa using h
  rw [zbe]
  have:=hs x
  simp only [Nat.zero_mul,List.drop_zero,List.length_append]
  exact ⟨by rw [List.take_append_of_le_length (by omega),List.take_of_length_le (by omega)],by omega⟩
 | x :: l,j+1,v,h=>by
  obtain ⟨h1,h2⟩:=zm1 hs l j v (by simpa using h)
  rw [zbe]
  have:=hs x
  have e:(j+1)*sz=(en x).length+j*sz:=by rw [this,Nat.succ_mul,Nat.add_comm]
  rw [e,List.drop_append]
  refine ⟨by rw [List.drop_of_length_le (by omega),List.nil_append,show (en x).length+j*sz - (en x).length=j*sz by omega];exact h1, ?_⟩
  rw [List.length_append];omega
theorem zhx (hs:∀ x,(en x).length=sz) {l:List T}{i:Int}{v:T} (h:rd l i=some v) {k:Nat} (hk:k<sz):(encL en l)[i.toNat*sz+k]?=(en v)[k]?:=by
 obtain ⟨h1,h2⟩:=zm1 hs l i.toNat v (zhr h).2.2
 rw [← h1,List.getElem?_take,if_pos hk,List.getElem?_drop]
theorem zx4 (hs:∀ x,(en x).length=sz) {k:Nat}{p:Pv}{v':T}:∀ (l:List T) (j:Nat) (v:T),l[j]?=some v→k<sz→en v'=(en v).set k p→(encL en l).set (j*sz+k) p=encL en (l.set j v')
 | [],j,v,h,_,_=>by simp at h
 | x :: l,0,v,h,hk,he=>by
  obtain rfl:x=v:=by simpa using h
  have:=hs x
  rw [List.set_cons_zero,zbe,zbe,he,Nat.zero_mul,Nat.zero_add,List.set_append_left _ _ (by omega)]
 | x :: l,j+1,v,h,hk,he=>by
  have:=hs x
  have e:(j+1)*sz=(en x).length+j*sz:=by rw [this,Nat.succ_mul,Nat.add_comm]
  rw [List.set_cons_succ,zbe,zbe,List.set_append_right _ _ (by omega),← zx4 hs l j v (by simpa using h) hk he]
  congr 2
  omega
theorem zpu {α:Type}:∀ (ds:List α) (a b:List α) (off:Nat),a.length≤off→setAt (a++b) off ds=a++setAt b (off - a.length) ds
 | [],a,b,off,h=>rfl
 | d :: ds,a,b,off,h=>by
  rw [setAt,setAt,List.set_append_right _ _ h,zpu ds a _ (off+1) (by omega),show off+1 - a.length=off - a.length+1 by omega]
theorem zrq {α:Type}:∀ (ds a b:List α),a.length=ds.length→setAt (a++b) 0 ds=ds++b
 | [],a,b,h=>by
  obtain rfl:a=[]:=List.length_eq_zero_iff.1 h
  rfl
 | d :: ds,[],b,h=>by simp at h
 | d :: ds,x :: a,b,h=>by
  rw [setAt,List.cons_append,List.set_cons_zero]
  have:=zpu ds [d] (a++b) 1 (by simp)
  simp only [List.cons_append,List.nil_append,List.length_cons,List.length_nil,Nat.zero_add] at this
  rw [show (0+1:Nat)=1 from rfl,this,Nat.sub_self,zrq ds a b (by simpa using h)]
  rfl
theorem zqp (hs:∀ x,(en x).length=sz) {v':T}:∀ (l:List T) (j:Nat),j<l.length→setAt (encL en l) (j*sz) (en v')=encL en (l.set j v')
 | [],j,h=>by simp at h
 | x :: l,0,h=>by
  have:=hs x
  have:=hs v'
  rw [List.set_cons_zero,zbe,zbe,Nat.zero_mul,zrq _ _ _ (by omega)]
 | x :: l,j+1,h=>by
  have:=hs x
  have e:(j+1)*sz=(en x).length+j*sz:=by rw [this,Nat.succ_mul,Nat.add_comm]
  rw [List.set_cons_succ,zbe,zbe,e,zpu _ _ _ _ (by omega),show (en x).length+j*sz - (en x).length=j*sz by omega,zqp hs l j (by simpa using h)]
end
inductive Out (σ ρ:Type) where
 | next (s:σ)
 | jmp (n:Nat) (s:σ)
 | ret (r:ρ)
section
variable {σ ρ : Type}
def iterN (step:σ→Option (Out σ ρ)):Nat→σ→Option (Out σ ρ)
 | 0,_=>none
 | k+1,s=>match step s with | some (.next s')=>iterN step k s' | r=>r
theorem zrv {step:σ→Option (Out σ ρ)}:∀ k k' s r,k≤k'→iterN step k s=some r→iterN step k' s=some r
 | 0,_,_,_,_,h=>by simp [iterN] at h
 | k+1,0,_,_,hk,_=>by omega
 | k+1,k'+1,s,r,hk,h=>by
  simp only [iterN] at h ⊢
  split at h
  ·exact zrv k k' _ r (by omega) h
  ·exact h
noncomputable def iter (step:σ→Option (Out σ ρ)) (s:σ):Option (Out σ ρ):=lim fun k=>iterN step k s
theorem zg7 {step:σ→Option (Out σ ρ)}{s:σ}{r:Out σ ρ}:iter step s=some r↔∃ k,iterN step k s=some r:=zsc fun k k' r h=>zrv k k' s r h
theorem z27 {step:σ→Option (Out σ ρ)} (I:σ→Prop) (μ:σ→Nat) (Q:Out σ ρ→Prop)
  (h:∀ s,I s→∃ o,step s=some o∧match o with | .next s'=>I s'∧μ s'<μ s | o=>Q o) (s:σ) (hs:I s):∃ o,iter step s=some o∧Q o:=by
 have key:∀ n s,μ s<n→I s→∃ o,iterN step n s=some o∧Q o:=by
  intro n
  induction n with
  | zero=>intro s h;omega
  | succ n ih =>
   intro s hn hs
   obtain ⟨o,h1,h2⟩:=h s hs
   simp only [iterN,h1]
   cases o with
   | next s' =>
    obtain ⟨o,h3,h4⟩:=ih s' (by have:=h2.2;omega) h2.1
    exact ⟨o,h3,h4⟩
   | jmp n s'=>exact ⟨_,rfl,h2⟩
   | ret r=>exact ⟨_,rfl,h2⟩
 obtain ⟨o,h1,h2⟩:=key (μ s+1) s (by omega) hs
 exact ⟨o,zg7.2 ⟨_,h1⟩,h2⟩
def OutQ (F:σ→St) (G:List Ghost) (QJ:Nat→σ→St→Prop) (QR:ρ→St→Prop):Out σ ρ→Ex→St→Prop
 | .next s,e,st=>e=.normal∧zaj G st=some (F s)
 | .jmp n s,e,st=>e=.exit n∧QJ n s st
 | .ret r,e,st=>e=.ret∧QR r st
theorem Wp.iter [Gl] {P:Program}{A:Ann}{f:FuncId}{b:Code}{step:σ→Option (Out σ ρ)}{F:σ→St}{G:List Ghost}{QJ:Nat→σ→St→Prop}{QR:ρ→St→Prop}
  (h:∀ s st o,zaj G st=some (F s)→step s=some o→Wp (evW P A f b st) (OutQ F G QJ QR o)) :
  ∀ s st o,zaj G st=some (F s)→Ev.iter step s=some o→Wp (evW P A f (.loop b) st) (OutQ F G QJ QR o):=by
 intro s st o hg hi
 obtain ⟨k,hk⟩:=zg7.1 hi
 clear hi
 induction k generalizing s st with
 | zero=>simp [iterN] at hk
 | succ k ih =>
  simp only [iterN] at hk
  split at hk
  ·rename_i s' hs
   obtain ⟨e,st',h1,h2⟩:=h s st _ hg hs
   obtain ⟨rfl,h3⟩:=h2
   rw [zis,h1]
   exact ih s' st' h3 hk
  ·rename_i hne
   obtain ⟨e,st',h1,h2⟩:=h s st _ hg hk
   rw [zis,h1]
   cases o with
   | next s'=>exact absurd hk (hne s')
   | jmp n s'=>obtain ⟨rfl,h3⟩:=h2;exact .intro ⟨rfl,h3⟩
   | ret r=>obtain ⟨rfl,h3⟩:=h2;exact .intro ⟨rfl,h3⟩
end
section
variable {P : Program} {A : Ann} {f : FuncId} {c : CallF} {q : Bool} {ops : Array Oper} {l : List Oper} {tm : List Dv} {H : List Ob} {n t ty : Nat} {pos : String} {af : Array Edge}
def znc (x:Dv) (i:Nat):Option Dv:=match x with | .p (.tup cs)=>(cs[i]?).map .p | .tup ds=>ds[i]? | _=>none
theorem zv7 [Gl] {x:Operand}{i:Nat}:opsD P A c q ops (⟨some t,.extract x i,ty,pos,af,none⟩ :: l) ⟨tm,H,n⟩=opsP P A c q ops l tm H n t (znc (evalO tm x) i):=zil rfl
def zge (P:Program) (t:TypeId) (x:Dv) (i:Nat):Option Dv:=(zj3 P t i).bind fun f=>(szOf P f.type).bind fun n =>
   if n=0 then none else
   match x with
   | .ptr id off=>some (.ptr id (off+f.offset))
   | .p (.iptr cs off)=>some (.p (.iptr cs (off+f.offset)))
   | _=>none
theorem zta [Gl] {xt:TypeId}{x:Operand}{i:Nat}:opsD P A c q ops (⟨some t,.fieldAddr xt x i,ty,pos,af,none⟩ :: l) ⟨tm,H,n⟩=opsP P A c q ops l tm H n t (zge P xt (evalO tm x) i):=zil rfl
def yjp (P:Program) (t:TypeId) (x:Dv) (i:Nat):Option Dv:=(zj3 P t i).bind fun f=>partD P f.type x f.offset
theorem z1t [Gl] {xt:TypeId}{x:Operand}{i:Nat}:opsD P A c q ops (⟨some t,.field xt x i,ty,pos,af,none⟩ :: l) ⟨tm,H,n⟩=opsP P A c q ops l tm H n t (yjp P xt (evalO tm x) i):=zil rfl
def ztx (P:Program) (t:TypeId) (parts:List (Nat×Dv)):Option Dv:=(zux P t).bind fun pl=>(zey P t).bind fun z=>(fillD pl (z.map .p) parts).map mkAgg
theorem z1m [Gl] {xt:TypeId}{parts:Array (Nat×Operand)}:opsD P A c q ops (⟨some t,.build xt parts,ty,pos,af,none⟩ :: l) ⟨tm,H,n⟩=opsP P A c q ops l tm H n t (ztx P xt (parts.toList.map fun (i,x)=>(i,evalO tm x))):=zil rfl
def zl3 (P:Program) (e:TypeId) (H:List Ob):Option (Dv×Option (List Ob)):=(zey P e).map fun cs=>(.ptr H.length 0,some (H++[.var (cs.map .p)]))
theorem z4k [Gl] {e:TypeId}:opsD P A c q ops (⟨some t,.alloc e,ty,pos,af,none⟩ :: l) ⟨tm,H,n⟩=opsQ P A c q ops l tm H n t true (zl3 P e H):=by
 rw [zj4];rfl
def boxD (H:List Ob) (x:Dv):Option (Dv×Option (List Ob)):=(cellsD x).map fun ds=>(.ptr H.length 0,some (H++[.var ds]))
theorem yc7 [Gl] {e:TypeId}{x:Operand}:opsD P A c q ops (⟨some t,.box e x,ty,pos,af,none⟩ :: l) ⟨tm,H,n⟩=opsQ P A c q ops l tm H n t true (boxD H (evalO tm x)):=by
 rw [zj4];rfl
def zo6 (x:Dv):Option Dv:=match x with
  | .ptr id off=>some (.ptr id off)
  | .p (.iptr cs off)=>some (.p (.iptr cs off))
  | .p (.fn (.func f) cs)=>some (.p (.fn (.func f) cs))
  | .fn (.func f) cs=>some (.fn (.func f) cs)
  | _=>none
theorem zob [Gl] {x:Operand}:opsD P A c q ops (⟨some t,.nilCheck x,ty,pos,af,none⟩ :: l) ⟨tm,H,n⟩=opsP P A c q ops l tm H n t (zo6 (evalO tm x)):=by
 rw [zj4]
 simp only [opD,zo6]
 generalize evalO tm x=y
 match y with
 | .ptr id off=>rfl
 | .p (.iptr cs off)=>rfl
 | .p (.fn (.func f) cs)=>rfl
 | .fn (.func f) cs=>rfl
 | .junk=>rfl
 | .ref ..=>rfl
 | .agg ..=>rfl
 | .tup ..=>rfl
 | .mp _=>rfl
 | .ifc _ _=>rfl
 | .p (.v _)=>rfl
 | .p (.lst ..)=>rfl
 | .p (.agg ..)=>rfl
 | .p (.tup ..)=>rfl
 | .p (.fn f _)=>cases f<;>rfl
 | .fn f _=>cases f<;>rfl
def convD (P:Program) (s d:TypeId) (x:Dv):Option Dv:=(concD x).bind fun a=>(zaq P (convert s d a)).map fun r=>.p (.v r)
theorem yab [Gl] {s d:TypeId}{x:Operand}:opsD P A c q ops (⟨some t,.convert s d x,ty,pos,af,none⟩ :: l) ⟨tm,H,n⟩=opsP P A c q ops l tm H n t (convD P s d (evalO tm x)):=zil rfl
theorem zuv [Gl] {fn:Fn}{first:Array Operand}{caps:Array Operand} (h:first.size=0):opsD P A c q ops (⟨some t,.makeFunc fn first caps,ty,pos,af,none⟩ :: l) ⟨tm,H,n⟩=opsD P A c q ops l ⟨tm.set t (mkFn fn (caps.toList.map (evalO tm))),H,n⟩:=by
 rw [zil (x:=some (mkFn fn (caps.toList.map (evalO tm)))) (by simp [opD,h])];rfl
def zrm (P:Program) (t:TypeId) (x ix:Dv):Option Dv:=match P.underlying t with
   | some .string=>(concD x).bind fun a=>(concD ix).bind fun b=>(zaq P (Instr.index t a b)).map fun r=>.p (.v r)
   | some (.array n e)=>(intD ix).bind fun i=>(szOf P e).bind fun sz=>if 0≤i∧i<n then partD P e x (i.toNat*sz) else none
   | _=>none
theorem z2z [Gl] {xt:TypeId}{x y:Operand}:opsD P A c q ops (⟨some t,.index xt x y,ty,pos,af,none⟩ :: l) ⟨tm,H,n⟩=opsP P A c q ops l tm H n t (zrm P xt (evalO tm x) (evalO tm y)):=zil rfl
def lkOb (x:Option Ob) (off n:Nat):Option Dv:=x.bind fun o=>o.cells? off n
theorem zag {t:TypeId}{id off n:Nat} (h:aggT P t=some true) (hs:szOf P t=some n):loadD P H t (.ptr id off)=lkOb H[id]? off n:=by
 simp only [loadD,h,hs,lkOb]
 cases H[id]?<;>rfl
theorem zai {t:TypeId}{cells:List Pv}{off n:Nat} (h:aggT P t=some true) (hs:szOf P t=some n):loadD P H t (.p (.iptr cells off))=lkOb (some (.frz cells)) off n:=by
 simp only [loadD,h,hs,lkOb]
 rfl
theorem zsu {T:Type}{en:T→List Pv}{sz:Nat} (hs:∀ x,(en x).length=sz) {l:List T}{i:Int}{v:T} (h:rd l i=some v):lkOb (some (.arr (encL en l))) (i.toNat*sz) sz=some (.p (.agg (en v))):=by
 obtain ⟨h1,h2⟩:=zm1 hs l i.toNat v (zhr h).2.2
 simp only [lkOb,Option.bind_some,Ob.cells?]
 rw [if_pos h2,h1]
theorem zr8 {T:Type}{en:T→List Pv}{sz:Nat} (hs:∀ x,(en x).length=sz) {l:List T}{i:Int}{v:T} (h:rd l i=some v):lkOb (some (.frz (encL en l))) (i.toNat*sz) sz=some (.p (.agg (en v))):=by
 obtain ⟨h1,h2⟩:=zm1 hs l i.toNat v (zhr h).2.2
 simp only [lkOb,Option.bind_some,Ob.cells?]
 rw [if_pos h2,h1]
theorem znz {t e sz:Nat}{full:Bool}{T:Type}{en:T→List Pv}{l:List T}{i:Int} (h:P.underlying t=some (.slice e)) (hs:szOf P e=some sz) (hz:sz≠0) (he:∀ x,(en x).length=sz) (h0:0≤i) (h1:i<(l.length:Int)) :
  idxD P t (.p (.lst full l.length (encL en l))) (iv i)=some (.p (.iptr (encL en l) (i.toNat*sz))):=z9k h hs hz h0 h1 (zkp he l)
theorem zf0 {t e sz:Nat}{id m:Nat}{i:Int} (h:P.underlying t=some (.slice e)) (hs:szOf P e=some sz) (hz:sz≠0) (h0:0≤i) (h1:i<(m:Int)) :
  idxD P t (.ref id 0 m sz) (iv i)=some (.ptr id (i.toNat*sz)):=by
 rw [z9x h hs hz h0 h1,Nat.zero_add]
theorem yb2 {id sz b:Nat}{T:Type}{en:T→List Pv}{x y:List T} (he:∀ x,(en x).length=sz) (hl:(x.length+y.length)*b≤140737488355328) :
  appOb H id 0 x.length y.length sz sz b (encL en y) (some (.arr (encL en x)))=some (.ref H.length 0 (x++y).length sz,H.set id .dead++[.arr (encL en (x++y))]):=by
 rw [z34 (zkp he x) hl,List.length_append,z9m]
theorem ybj {id sz k:Nat}{T:Type}{en:T→List Pv}{x:List T}{i:Int}{v v':T}{p:Pv} (he:∀ x,(en x).length=sz) (h:rd x i=some v) (hk:k<sz) (hv:en v'=(en v).set k p) :
  stOb H id (i.toNat*sz+k) p (some (.arr (encL en x)))=some (H.set id (.arr (encL en (x.set i.toNat v')))):=by
 obtain ⟨h0,h1,h2⟩:=zhr h
 have:=(zm1 he x i.toNat v h2).2
 rw [z7k (by omega),zx4 he x i.toNat v h2 hk hv]
def staOb (H:List Ob) (id off n:Nat) (ps:List Pv) (o:Option Ob):Option (List Ob) :=
 match o with
 | some (.arr cs)=>if ps.length=n∧off+n≤cs.length then some (H.set id (.arr (setAt cs off ps))) else none
 | some (.var cs)=>if ps.length=n∧off+n≤cs.length then some (H.set id (.var (setAt cs off (ps.map .p)))) else none
 | _=>none
theorem zu0:∀ (ps:List Pv),zfh H (ps.map .p)=some (ps,[])
 | []=>rfl
 | p :: ps=>by simp [zfh,zk2,zu0 ps]
theorem zcm {t:TypeId}{id off n:Nat}{ps:List Pv} (hs:szOf P t=some n):zdf P H t (.ptr id off) (.p (.agg ps))=staOb H id off n ps H[id]?:=by
 simp only [zdf,hs,cellsD]
 cases hid:H[id]? with
 | none=>rfl
 | some o =>
  cases o with
  | arr cs =>
   simp only [zu0,staOb]
   by_cases h:ps.length=n∧off+n≤cs.length
   ·rw [if_pos (by simp [h]),if_pos h];simp [zan]
   ·rw [if_neg (by simpa using h),if_neg h]
  | var cs =>
   simp only [staOb,List.length_map]
  | _=>rfl
theorem z09 {id sz:Nat}{T:Type}{en:T→List Pv}{x:List T}{i:Int}{v:T} (he:∀ x,(en x).length=sz) (h0:0≤i) (h1:i<(x.length:Int)) :
  staOb H id (i.toNat*sz) sz (en v) (some (.arr (encL en x)))=some (H.set id (.arr (encL en (x.set i.toNat v)))):=by
 have hl:=zkp he x
 have h2:i.toNat*sz+sz≤x.length*sz:=by
  rw [← Nat.succ_mul];exact Nat.mul_le_mul_right _ (by omega)
 rw [staOb,if_pos ⟨he v,by omega⟩,zqp he x i.toNat (by omega)]
theorem zxg {sz b:Nat}{T:Type}{en:T→List Pv}{st e:TypeId}{z:T}{n:Int} (h:P.underlying st=some (.slice e)) (hs:szOf P e=some sz) (hb:bytesOf P e=some b) (hz:zey P e=some (en z)) (h3:sz≠0∧b≠0∧(en z).length=sz)
  (h0:0≤n) (hm:n*b≤140737488355328):makeD P H st (iv n) (iv n)=some (.ref H.length 0 (List.replicate n.toNat z).length sz,H++[.arr (encL en (List.replicate n.toNat z))]):=by
 obtain ⟨m,rfl⟩:∃ m:Nat,n=m:=⟨n.toNat,by omega⟩
 have hm':b*m≤281474976710656:=by
  rw [← Int.natCast_mul] at hm;rw [Nat.mul_comm];omega
 rw [z7q h hs hb hz h3 hm',Int.toNat_natCast,zun,List.length_replicate]
theorem zbi {c:CallF}{A:Ann}{H:List Ob}{f:FuncId}{args:List Pv}{ds:List Dv}{x:Pv} (hd:ds=args.map .p) (hm:A.muts f=false) (hr:A.ros f=false) (h:c f (args.map fun x=>.p (wk x)) []=some (.p x,[])) :
  callD c A H f ds=some (.p x,none):=by
 subst hd;exact zzk hm hr h
theorem zhu {fn:Func}{s:St}{ds:List Dv}{x y:Pv}{l:List Nat} (hk:A.keeps f=false) (hn:s.nin=0) (h1:resD P s fn.results.toList=some ds) (h2:zk9 s.heap (oneD ds)=some (x,l)) (hy:wk x=y) :
  zap P A f fn s=some (.p y,[]):=by
 rw [zvj hk hn h1 h2,hy]
theorem zy6 {id sz n:Nat}{T:Type}{en:T→List Pv}{x:List T} (he:∀ x,(en x).length=sz) (hid:H[id]?=some (.arr (encL en x))) (hn:n=x.length):zk2 H (.ref id 0 n sz)=some (.lst false x.length (encL en x),[id]):=by
 subst hn
 have hl:=zkp he x
 simp only [zk2,hid]
 rw [if_pos (by omega),List.drop_zero,List.take_of_length_le (by omega)]
end
end Go.Ev

set_option linter.unusedVariables false
set_option linter.unusedSimpArgs false
namespace Go.Ev
section
variable {P : Program} {A : Ann} {f : FuncId} {c : CallF} {q : Bool} {ops : Array Oper} {l : List Oper} {tm : List Dv} {H : List Ob} {n t ty : Nat} {pos : String} {af : Array Edge}
theorem z3j {s:ByteArray}:ofVal (.string s)=.v (.string s):=rfl
theorem zdq {T:Type}{en:T→List Pv}:encL en ([]:List T)=[]:=rfl
theorem z2g {k:IntKind}{x:Int}:boxD H (.p (.v (.int k x)))=some (.ptr H.length 0,some (H++[.var [.p (.v (.int k x))]])):=rfl
theorem z5d {b:Bool}:boxD H (.p (.v (.bool b)))=some (.ptr H.length 0,some (H++[.var [.p (.v (.bool b))]])):=rfl
theorem z7s {s:ByteArray}:boxD H (.p (.v (.string s)))=some (.ptr H.length 0,some (H++[.var [.p (.v (.string s))]])):=rfl
theorem z9p {b:Bool}{m:Nat}{cs:List Pv}:boxD H (.p (.lst b m cs))=some (.ptr H.length 0,some (H++[.var [.p (.lst b m cs)]])):=rfl
theorem z9f {cs:List Pv}:boxD H (.p (.agg cs))=some (.ptr H.length 0,some (H++[.var (cs.map .p)])):=rfl
theorem z6d {id off m sz:Nat}:boxD H (.ref id off m sz)=some (.ptr H.length 0,some (H++[.var [.ref id off m sz]])):=rfl
def stdOb (H:List Ob) (id off:Nat) (d:Dv) (o:Option Ob):Option (List Ob) :=
 match o with
 | some (.var cs)=>if off<cs.length then some (H.set id (.var (cs.set off d))) else none
 | some (.arr cs)=>match d with
  | .p x=>if off<cs.length then some (H.set id (.arr (cs.set off x))) else none
  | _=>none
 | _=>none
theorem zjg {t:TypeId}{id off:Nat}{x:Pv} (hs:szOf P t=some 1) (hx:cellsD (.p x)=some [.p x]) :
  zdf P H t (.ptr id off) (.p x)=stdOb H id off (.p x) H[id]?:=by
 rw [zzj hs hx]
 cases H[id]? with
 | none=>rfl
 | some o=>cases o<;>rfl
theorem ycm {id sz k:Nat}{T:Type}{en:T→List Pv}{x:List T}{i:Int}{v v':T}{p:Pv} (he:∀ x,(en x).length=sz) (h:rd x i=some v) (hk:k<sz) (hv:en v'=(en v).set k p) :
  stdOb H id (i.toNat*sz+k) (.p p) (some (.arr (encL en x)))=some (H.set id (.arr (encL en (x.set i.toNat v')))):=by
 have:=ybj (H:=H) (id:=id) he h hk hv
 simpa [stOb,stdOb] using this
theorem zlw {id sz:Nat}{T:Type}{en:T→List Pv}{x:List T}{i:Int}{v v':T}{p:Pv} (he:∀ x,(en x).length=sz) (h:rd x i=some v) (hk:0<sz) (hv:en v'=(en v).set 0 p) :
  stdOb H id (i.toNat*sz) (.p p) (some (.arr (encL en x)))=some (H.set id (.arr (encL en (x.set i.toNat v')))):=ycm (k:=0) he h hk hv
theorem zf9 {t:TypeId}{s:ByteArray} (h:P.underlying t=some .string):lenD P t (.p (.v (.string s)))=some (iv s.size):=by
 simp only [lenD,h];rfl
theorem zvd {e e2 t1 t2:TypeId}{sz b:Nat}{z:List Pv}{m:Nat}{full:Bool}{new:List Pv} (h:P.underlying t1=some (.slice e)) (h2:P.underlying t2=some (.slice e2)) (hs:szOf P e=some sz) (hb:bytesOf P e=some b) (hz:zey P e=some z)
  (h3:sz≠0∧b≠0∧z.length=sz) (hn:new.length=m*sz) (hl:m*b≤140737488355328) :
  zer P H #[t1,t2] (.p (.lst true 0 [])) (.p (.lst full m new))=some (.ref H.length 0 m sz,H++[.arr new]):=by
 have e1:(#[t1,t2]:Array TypeId)[0]?=some t1:=rfl
 have e3:srcT P #[t1,t2]=true:=by simp [srcT,h2]
 simp only [zer,e1,Option.bind_some,h,hs,hb,hz,e3]
 rw [if_neg (by simp [h3])]
 simp only [ziz,if_pos hn,Option.bind_some]
 rw [if_pos ⟨by simp,by rw [Nat.zero_add];exact hl⟩,if_pos (.inl trivial)]
 simp
end
end Go.Ev

set_option linter.unusedVariables false
set_option linter.unusedSimpArgs false
namespace Go.Ev
section
variable {P : Program}
theorem zep {α β:Type} (x:Sem α) (g:α→Sem β):zaq P (x >>= g)=(zaq P x).bind fun a=>zaq P (g a):=by
 induction x with
 | pure a=>rfl
 | program k ih=>exact ih P
 | mark _ k ih=>exact ih
 | _=>rfl
theorem zpt {α:Type}{p:Prop} [Decidable p] (x y:Sem α):zaq P (if p then x else y)=if p then zaq P x else zaq P y:=by
 split<;>rfl
theorem zfs {α:Type} (a:α):zaq P (pure a:Sem α)=some a:=rfl
theorem zrs:zaq P (program:Sem Program)=some P:=rfl
theorem zkj {t:TypeId}{x:TypeDesc} (h:P.underlying t=some x):zaq P (underlying t)=some x:=by
 show zaq P (match P.underlying t with | some d=>pure d | none=>stuck _)=some x
 rw [h];rfl
theorem zp3 {d:Nat}{t:TypeId}{xs ys:Array Value}{fs:Array Field} (ht:P.underlying t=some (.struct fs)) (hp:P.stoodInHeld t=false) :
  zaq P (Op.equalIn (d+1) t (.agg xs) (.agg ys))=zaq P (Op.eqFields d xs ys fs.toList):=by
 simp only [Op.equalIn,zep,zkj ht,Option.bind_some,zrs,hp,Bool.false_eq_true,if_false]
 rw [← Array.forIn_toList]
 generalize fs.toList=l
 clear ht
 induction l with
 | nil=>rfl
 | cons f l ih =>
  simp only [List.forIn_cons,Op.eqFields,zep,zpt]
  split
  ·cases zaq P (part f.type xs f.offset) with
   | none=>rfl
   | some a =>
    simp only [Option.bind_some]
    cases zaq P (part f.type ys f.offset) with
    | none=>rfl
    | some b =>
     simp only [Option.bind_some]
     cases zaq P (Op.equalIn d f.type a b) with
     | none=>rfl
     | some r =>
      cases r
      ·rfl
      ·simp only [Option.bind_some,Bool.not_true,Bool.false_eq_true,if_false,zfs]
       exact ih
  ·simp only [zfs,Option.bind_some]
   exact ih
theorem yhx {d:Nat}{xs ys:Array Value}:zaq P (Op.eqFields d xs ys [])=some true:=rfl
theorem z1d {d:Nat}{xs ys:Array Value}{f:Field}{fs:List Field}{a b:Value}{r s:Bool} (hn:(f.name == "_")=false) (ha:zaq P (part f.type xs f.offset)=some a) (hb:zaq P (part f.type ys f.offset)=some b)
  (he:zaq P (Op.equalIn d f.type a b)=some r) (hs:zaq P (Op.eqFields d xs ys fs)=some s):zaq P (Op.eqFields d xs ys (f :: fs))=some (r && s):=by
 have hn':f.name≠"_":=by simpa using hn
 rw [Op.eqFields]
 simp only [if_pos hn',zep,ha,hb,he,Option.bind_some]
 cases r
 ·rfl
 ·simpa using hs
theorem zn3 {d:Nat}{t:TypeId}{k k':IntKind}{a b:Int} (h:P.underlying t=some (.int k')):zaq P (Op.equalIn (d+1) t (.int k a) (.int k b))=some (decide (a=b)):=by
 simp only [Op.equalIn,zep,zkj h,Option.bind_some,if_true,zfs]
 rfl
theorem z0d (a b:ByteArray):(a.toList == b.toList)=decide (a=b):=by
 rw [ByteArray.toList_eq,ByteArray.toList_eq]
 obtain ⟨⟨x⟩⟩:=a
 obtain ⟨⟨y⟩⟩:=b
 by_cases h:x=y
 ·subst h;simp
 ·simp [h]
theorem ztu {t:TypeId}{xo yo:Operand}{A B:List Pv}{va vb:List Value}{r:Bool} (ha:concs A=some va) (hb:concs B=some vb) (hg:P.eqGuardType P.depth t=false) (he:zaq P (Op.equalIn 10000 t (.agg va.toArray) (.agg vb.toArray))=some r) :
  binD P .neq t xo yo (.p (.agg A)) (.p (.agg B))=some (.p (.v (.bool (!r)))):=by
 simp only [binD,concD,conc,ha,hb,Option.map_some,zep]
 have h1:zaq P (eqGuard .neq t xo yo (.agg va.toArray) (.agg vb.toArray))=some ():=by
  unfold eqGuard
  simp only [zep,zrs,Option.bind_some,hg,Bool.not_false,if_true,zfs,zpt]
  rfl
 rw [h1]
 simp only [Option.bind_some,binOp,zep,Op.equal,Op.maxDepth,he,zfs,Option.map_some]
theorem zc7 {xt:TypeId}{x y:Operand}{a b:ByteArray}:binD P .neq xt x y (.p (.v (.string a))) (.p (.v (.string b)))=some (.p (.v (.bool (!decide (a=b))))):=by
 rw [← z0d];rfl
end
end Go.Ev
namespace Go.Ev
section
variable {P : Program} {H : List Ob}
def apOb (H:List Ob) (id off n m esz sz b:Nat) (new:List Pv) (o:Option Ob):Option (Dv×List Ob):=if new.length=m*sz then appOb H id off n m esz sz b new o else none
theorem zi7 {e e2 t1 t2:TypeId}{sz b:Nat}{z:List Pv}{id off esz n m:Nat}{full:Bool}{new:List Pv} (h:P.underlying t1=some (.slice e)) (h2:P.underlying t2=some (.slice e2)) (hs:szOf P e=some sz) (hb:bytesOf P e=some b) (hz:zey P e=some z)
  (h3:sz≠0∧b≠0∧z.length=sz):zer P H #[t1,t2] (.ref id off n esz) (.p (.lst full m new))=apOb H id off n m esz sz b new H[id]?:=by
 by_cases hn:new.length=m*sz
 ·rw [zvz h h2 hs hb hz h3 hn,apOb,if_pos hn]
 ·have e1:(#[t1,t2]:Array TypeId)[0]?=some t1:=rfl
  simp only [zer,e1,Option.bind_some,h,hs,hb,hz,ziz,if_neg hn,Option.bind_none,apOb]
  split<;>rfl
theorem zjk {id sz b m n:Nat}{T:Type}{en:T→List Pv}{x y:List T}{new:List Pv} (he:∀ x,(en x).length=sz) (hn:n=x.length) (hm:m=y.length) (hnew:new=encL en y) (hl:(x.length+m)*b≤140737488355328) :
  apOb H id 0 n m sz sz b new (some (.arr (encL en x)))=some (.ref H.length 0 (x++y).length sz,H.set id .dead++[.arr (encL en (x++y))]):=by
 subst hn hm hnew
 rw [apOb,if_pos (zkp he y),yb2 he hl]
def apN (H:List Ob) (m sz b:Nat) (new:List Pv):Option (Dv×List Ob):=if new.length=m*sz∧m*b≤140737488355328 then some (.ref H.length 0 m sz,H++[.arr new]) else none
theorem zvm {e e2 t1 t2:TypeId}{sz b:Nat}{z:List Pv}{m:Nat}{full:Bool}{new:List Pv} (h:P.underlying t1=some (.slice e)) (h2:P.underlying t2=some (.slice e2)) (hs:szOf P e=some sz) (hb:bytesOf P e=some b) (hz:zey P e=some z)
  (h3:sz≠0∧b≠0∧z.length=sz):zer P H #[t1,t2] (.p (.lst true 0 [])) (.p (.lst full m new))=apN H m sz b new:=by
 by_cases hn:new.length=m*sz
 ·by_cases hl:m*b≤140737488355328
  ·rw [zvd h h2 hs hb hz h3 hn hl,apN,if_pos ⟨hn,hl⟩]
  ·have e1:(#[t1,t2]:Array TypeId)[0]?=some t1:=rfl
   simp only [zer,e1,Option.bind_some,h,hs,hb,hz,ziz,if_pos hn,Option.bind_none,apN]
   rw [if_neg (by omega:¬ (new.length=m*sz∧m*b≤140737488355328))]
   split
   ·rfl
   ·rw [if_neg (by rw [Nat.zero_add];omega)]
 ·have e1:(#[t1,t2]:Array TypeId)[0]?=some t1:=rfl
  simp only [zer,e1,Option.bind_some,h,hs,hb,hz,ziz,if_neg hn,Option.bind_none,apN]
  rw [if_neg (by omega:¬ (new.length=m*sz∧m*b≤140737488355328))]
  split<;>rfl
end
end Go.Ev
namespace Go.Ev
section
variable {P : Program} {H : List Ob} {t : TypeId} {id off : Nat}
theorem zdx {k:IntKind}{x:Int} (hs:szOf P t=some 1):zdf P H t (.ptr id off) (.p (.v (.int k x)))=stdOb H id off (.p (.v (.int k x))) H[id]?:=zjg hs rfl
theorem zvp {x:Bool} (hs:szOf P t=some 1):zdf P H t (.ptr id off) (.p (.v (.bool x)))=stdOb H id off (.p (.v (.bool x))) H[id]?:=zjg hs rfl
theorem zzh {b:Bool}{n:Nat}{c:List Pv} (hs:szOf P t=some 1):zdf P H t (.ptr id off) (.p (.lst b n c))=stdOb H id off (.p (.lst b n c)) H[id]?:=zjg hs rfl
end
end Go.Ev
namespace Go.Ev
theorem zhg {H:List Ob}{id sz n:Nat}{T:Type}{en:T→List Pv}{x:List T} (he:∀ x,(en x).length=sz) (hid:H[id]?=some (.arr (encL en x))) (hn:n=x.length):zk9 H (oneD [.ref id 0 n sz])=some (.lst false x.length (encL en x),[id]):=by
 simp only [oneD,zk9];exact zy6 he hid hn
end Go.Ev
namespace Go.Ev
section
variable {P : Program} {A : Ann} {H : List Ob} {c : CallF} {f : FuncId}
theorem z5w:giveD H []=([],[]):=rfl
theorem z1f {id sz n:Nat}{T:Type}{en:T→List Pv}{x:List T}{ds:List Dv} (he:∀ x,(en x).length=sz) (hid:H[id]?=some (.arr (encL en x))) (hn:n=x.length) :
  giveD H (.ref id 0 n sz :: ds)=(.p (.lst false x.length (encL en x)) :: (giveD H ds).1,id :: (giveD H ds).2):=by
 subst hn
 have hl:=zkp he x
 simp only [giveD,hid]
 rw [if_pos (by omega),List.drop_zero,List.take_of_length_le (by omega)]
theorem z0p {ds:List Dv}{args:List Pv}{ids:List Nat}{x:Pv} (hm:A.muts f=false) (hr:A.ros f=false) (hg:giveD H ds=(args.map .p,ids)) (h:c f (args.map .p) []=some (.p x,[])) :
  callD c A H f ds=some (.p x,zk6 (!ids.isEmpty) (zan H ids)):=by
 simp only [callD,hm,hr,Bool.or_self,Bool.false_eq_true,if_false,hg,zj6]
 have e2:∀ H',zen H' 64 [] []=[]:=fun _=>rfl
 rw [e2,if_pos (show accOk (zan H ids) [] []=true from rfl),zgq]
 have e3:lentD A f (zan H ids) []=[]:=by simp only [lentD,hm];rfl
 rw [e3,h]
 rfl
theorem zwb {H:List Ob}{id k:Nat}{o:Ob} (hid:H[id]?=some o) (ho:zfi o=[]):zen H (k+2) [id] []=[id]:=by
 simp only [zen,List.contains_nil,Bool.false_eq_true,if_false,List.nil_append,hid,ho]
theorem z05 {H:List Ob}{id:Nat}{o:Ob} (hid:H[id]?=some o) (ho:zfi o=[]):accOk H [id] [id]=true:=by
 have hlt:id<H.length:=(List.getElem?_eq_some_iff.1 hid).1
 have:H[id]=o:=(List.getElem?_eq_some_iff.1 hid).2
 simp [accOk,hlt,this,ho]
theorem zw8 {H:List Ob}{id:Nat}{o:Ob} (hid:H[id]?=some o):za0 H [id]=[obMap (fun i=>[id].idxOf i) o]:=by
 simp [za0,List.getD_eq_getElem?_getD,hid]
theorem zzl {id n sz:Nat} (args:List Pv):zav (.ref id 0 n sz :: args.map .p)=[id]:=by
 simp [zav,za8,zj6]
section
variable {id n sz n' sz' : Nat} {cs cs' : List Pv} {args : List Pv} {ds : List Dv}
theorem zu5 {A:Ann}{f:Nat} (h:A.full f=false):wkA A f=wkDv:=by funext d;unfold wkA;rw [h];rfl
theorem zt3 {r:Dv×List Ob} (hd:ds.map wkDv=args.map .p) (hm:A.muts f=true) (hid:H[id]?=some (.arr cs)) (h:c f (.ref 0 0 n sz :: args.map .p) [.arr cs]=some r) (o:Ob) (h':List Ob) (hr:r.2=o :: h') (hb:zh0 [.arr cs] r.2=true) (hfl:A.full f=false:=by rfl) :
  callD c A H f (.ref id 0 n sz :: ds)=some (zd8 (backD H.length [id]) r.1,some (zdh (backD H.length [id]) H [id] r.2)):=by
 have e0:(Dv.ref id 0 n sz :: ds).map wkDv=.ref id 0 n sz :: args.map .p:=by
  rw [List.map_cons,hd];rfl
 have e1:zen H 64 [id] []=[id]:=zwb (k:=62) hid rfl
 have e2:=z05 hid (show zfi (.arr cs)=[] from rfl)
 simp only [callD,hm,zu5 hfl,Bool.true_or,if_true,zan,e0,zzl,e1,e2]
 have e3:zbs (List.idxOf · [id]) (.ref id 0 n sz :: args.map .p)=.ref 0 0 n sz :: args.map .p:=by
  simp only [zbs,zd8,zgq,List.idxOf_cons_self]
 have e4:lentD A f H [id]=[.arr cs]:=by simp only [lentD,hm,if_true,zw8 hid,obMap]
 change (c f (zbs (List.idxOf · [id]) (.ref id 0 n sz :: args.map .p)) (lentD A f H [id])).bind _=_
 rw [e3,e4,h]
 obtain ⟨r1,r2⟩:=r
 simp only at hr hb
 subst hr
 simp only [Option.bind_some]
 have e5:zh0 (za0 H [id]) (o :: h')=true:=by rw [zw8 hid];exact hb
 have e6:(true && decide ([id].length≤(o :: h').length) && zh0 (za0 H [id]) (o :: h'))=true:=by rw [e5];simp
 rw [if_pos e6]
theorem zrb (hd:ds.map wkDv=args.map .p) (hm:A.muts f=true) (hid:H[id]?=some (.arr cs)) (h:c f (.ref 0 0 n sz :: args.map .p) [.arr cs]=some (.ref 1 0 n' sz',[.dead,.arr cs'])) (hfl:A.full f=false:=by rfl) :
  callD c A H f (.ref id 0 n sz :: ds)=some (.ref H.length 0 n' sz',some (H.set id .dead++[.arr cs'])):=by
 rw [zt3 hd hm hid h _ _ rfl rfl hfl]
 simp [zd8,backD,zdh,obMap]
theorem zrd (hd:ds.map wkDv=args.map .p) (hm:A.muts f=true) (h:c f (args.map .p) []=some (.ref 0 0 n' sz',[.arr cs'])) (hfl:A.full f=false:=by rfl) :
  callD c A H f ds=some (.ref H.length 0 n' sz',some (H++[.arr cs'])):=by
 have e2:∀ H',zen H' 64 [] []=[]:=fun _=>rfl
 simp only [callD,hm,zu5 hfl,Bool.true_or,if_true,zan,hd,zj6,e2]
 rw [if_pos (show accOk H [] []=true from rfl),zgq]
 have e3:lentD A f H []=[]:=by simp only [lentD,hm];rfl
 rw [e3,h]
 simp only [Option.bind_some]
 have e6:((true || ([]:List Nat).isEmpty) && decide (([]:List Nat).length≤[Ob.arr cs'].length) && zh0 (za0 H []) [.arr cs'])=true:=rfl
 rw [if_pos e6]
 simp [zd8,backD,zdh,obMap]
end
def cpL {T:Type} (x y:List T):List T:=y.take x.length++x.drop y.length
theorem zbv {T:Type} (x y:List T):(cpL x y).length=x.length:=by simp [cpL];omega
theorem z70 {g:FuncId}{args ds:List Dv}:callV c A H (.fn (.func g) ds) args=callD c A H g (args++ds):=by simp [callV]
end
theorem zgh {e a b c' d n:Nat}{tm:List Dv}{H:List Ob}:zaj [.own 0 e] ⟨.ref a b c' d :: tm,H,n⟩=some ⟨.ref a b c' d :: tm,H,n⟩:=rfl
end Go.Ev
namespace Go.Ev
theorem ziw [Gl] {P:Program}{A:Ann}{c:CallF}{q:Bool}{ops:Array Oper}{l:List Oper}{tm:List Dv}{H:List Ob}{n t ty:Nat}{pos:String}{af:Array Edge}{fn:Fn}{caps:Array Operand} :
  opsD P A c q ops (⟨some t,.makeFunc fn #[] caps,ty,pos,af,none⟩ :: l) ⟨tm,H,n⟩=opsD P A c q ops l ⟨tm.set t (mkFn fn (caps.toList.map (evalO tm))),H,n⟩:=zuv rfl
end Go.Ev
namespace Go.Ev
theorem z6j [Gl] {P:Program}{A:Ann}{f:FuncId}{args:List Dv}{H:List Ob}{fn:Func}{c:Code}{r:Dv×List Ob} (hcl:((A.outer f).isSome || (A.clone f).isSome && zjm args H)=false) (ho:A.okf f=true) (hf:P.funcs[f]?=some fn) (hb:fn.body=some c)
  (h:Wp (evW P A f c (initS fn args H)) fun e s=>(e=.normal∨e=.ret)∧zap P A f fn s=some r):callW P A f args H=some r:=by
 obtain ⟨e,s,h1,he,h2⟩:=h
 rw [zxw hcl ho hf hb,h1]
 rcases he with rfl | rfl<;>exact h2
end Go.Ev
namespace Go.Ev
theorem zcl:wks []=[]:=by simp [wks]
end Go.Ev
namespace Go.Ev
theorem zse {T:Type}{en:T→List Pv}{x:List T} (hx:x=[]) (e:Nat):∀ (tm:List Dv) (H:List Ob) (n:Nat),zaj [.own 0 e] ⟨.p (.lst true 0 []) :: tm,H,n⟩=some ⟨.ref H.length 0 x.length e :: tm,H++[.arr (encL en x)],n⟩:=by
 subst hx;intros;rfl
end Go.Ev

set_option linter.unusedVariables false
set_option linter.unusedSimpArgs false
namespace Go.Ev
section
variable {P : Program} {A : Ann} {H : List Ob} {c : CallF} {f : FuncId} {xt : TypeId} {x y : Operand} {k : IntKind} {a b : Int}
abbrev kv (k:IntKind) (x:Int):Dv:=.p (.v (.int k x))
theorem z0f:binD P .geq xt x y (kv k a) (kv k b)=some (bv (decide (b≤a))):=by cases k<;>rfl
theorem zls:binD P .sub xt x y (kv k a) (kv k b)=some (kv k (k.wrap (a - b))):=by cases k<;>rfl
theorem zrh:binD P .mul xt x y (kv k a) (kv k b)=some (kv k (k.wrap (a*b))):=by cases k<;>rfl
def andK (k:IntKind) (a b:Int):Int:=k.wrap (BitVec.ofInt k.bits a &&& BitVec.ofInt k.bits b).toNat
def xorK (k:IntKind) (a b:Int):Int:=k.wrap (BitVec.ofInt k.bits a ^^^ BitVec.ofInt k.bits b).toNat
def quoK (k:IntKind) (a b:Int):Option Int:=if b=0 then none else some (k.wrap (a.tdiv b))
def shlK (k:IntKind) (a b:Int):Option Int:=if b<0 then none else some (k.wrap (a*2 ^ (min b.toNat k.bits)))
def shrK (k:IntKind) (a b:Int):Option Int:=if b<0 then none else some (a.fdiv (2 ^ (min b.toNat k.bits)))
theorem zlq:binD P .and xt x y (kv k a) (kv k b)=some (kv k (andK k a b)):=by cases k<;>rfl
theorem zny:binD P .xor xt x y (kv k a) (kv k b)=some (kv k (xorK k a b)):=by cases k<;>rfl
theorem ybw {op:BinOp}{r:Int} (hop:op≠.eql∧op≠.neq) (h:zaq P (binOp op xt (.int k a) (.int k b))=some (.int k r)):binD P op xt x y (kv k a) (kv k b)=some (kv k r):=by
 simp only [binD,concD,conc,zep]
 have:zaq P (eqGuard op xt x y (.int k a) (.int k b))=some ():=by
  cases op<;>first | rfl | simp at hop
 rw [this,Option.bind_some,h];rfl
theorem zfc {r:Int} (h:quoK k a b=some r):binD P .quo xt x y (kv k a) (kv k b)=some (kv k r):=by
 unfold quoK at h
 split at h
 ·cases h
 ·rename_i h0
  obtain rfl:=Option.some.inj h
  refine ybw (by simp) ?_
  simp only [binOp,ne_eq,not_true_eq_false,if_false,Op.intDiv,if_neg h0,zfs]
theorem zqu {k':IntKind}{r:Int} (h:shlK k a b=some r):binD P .shl xt x y (kv k a) (kv k' b)=some (kv k r):=by
 unfold shlK at h
 split at h
 ·cases h
 ·rename_i h0
  obtain rfl:=Option.some.inj h
  simp only [binD,concD,conc,zep]
  rw [show zaq P (eqGuard .shl xt x y (.int k a) (.int k' b))=some () from rfl]
  simp only [Option.bind_some,binOp,Op.shift,if_neg h0,zfs,Option.map_some]
theorem zbu {k':IntKind}{r:Int} (h:shrK k a b=some r):binD P .shr xt x y (kv k a) (kv k' b)=some (kv k r):=by
 unfold shrK at h
 split at h
 ·cases h
 ·rename_i h0
  obtain rfl:=Option.some.inj h
  simp only [binD,concD,conc,zep]
  rw [show zaq P (eqGuard .shr xt x y (.int k a) (.int k' b))=some () from rfl]
  simp only [Option.bind_some,binOp,Op.shift,if_neg h0,zfs,Option.map_some]
theorem znk {id off:Nat}:zo6 (.ptr id off)=some (.ptr id off):=rfl
def bt (s:ByteArray) (i:Int):Option Int:=(if 0≤i then s[i.toNat]? else none).map fun b=>(b.toNat:Int)
theorem zh3 {t:TypeId}{s:ByteArray}{k:IntKind}{i v:Int} (hu:P.underlying t=some .string) (h:bt s i=some v):zrm P t (.p (.v (.string s))) (kv k i)=some (kv .u8 v):=by
 unfold bt at h
 simp only [Option.map_eq_some_iff] at h
 obtain ⟨b,h1,rfl⟩:=h
 simp only [zrm,hu,concD,conc,Option.bind_some,Instr.index,zep,zkj hu,asIntOf,zfs,h1,Option.map_some]
theorem zbd {ds dsw ds':List Dv}{i:Nat}{ids:List Nat}{o o':Ob}{os os':List Ob}{x:Pv} (hm:A.muts f=true) (hw:ds.map wkDv=dsw) (hacc:zen H 64 (zav dsw) []=i :: ids) (hok:accOk H (i :: ids) (zav dsw)=true)
  (hds:zbs (List.idxOf · (i :: ids)) dsw=ds') (hos:za0 H (i :: ids)=o :: os) (h:c f ds' (o :: os)=some (.p x,o' :: os')) (hl:decide ((i :: ids).length≤(o' :: os').length)=true) (hb:zh0 (o :: os) (o' :: os')=true) (hfl:A.full f=false:=by rfl) :
  callD c A H f ds=some (.p x,some (zdh (backD H.length (i :: ids)) H (i :: ids) (o' :: os'))):=by
 simp only [callD,hm,zu5 hfl,Bool.true_or,if_true,zan,hw,hacc,hok]
 have e4:lentD A f H (i :: ids)=o :: os:=by simp only [lentD,hm,if_true,hos]
 change (c f (zbs (List.idxOf · (i :: ids)) dsw) (lentD A f H (i :: ids))).bind _=_
 rw [hds,e4,h]
 simp only [Option.bind_some]
 have e6:(true && decide ((i :: ids).length≤(o' :: os').length) && zh0 (za0 H (i :: ids)) (o' :: os'))=true:=by rw [hos,hb,hl];rfl
 rw [if_pos e6]
 rfl
end
end Go.Ev
namespace Go.Ev
theorem Wp.gh (C:Option St→Option (Ex×St)) {G:List Ghost}{s:St} (S:St) {Q:Ex→St→Prop} (h:zaj G s=some S) (k:Wp (C (some S)) Q):Wp (C (zaj G s)) Q:=by rw [h];exact k
end Go.Ev
namespace Go.Ev
theorem zi5:∀ {a b:List Ghost}{s s1 s2:St},zaj a s=some s1→zaj b s1=some s2→zaj (a++b) s=some s2
 | [],b,s,s1,s2,h1,h2=>by
  simp only [zaj,Option.some.injEq] at h1
  subst h1;exact h2
 | g :: a,b,s,s1,s2,h1,h2=>by
  simp only [zaj,List.cons_append,Option.bind_eq_some_iff] at h1 ⊢
  obtain ⟨t,h3,h4⟩:=h1
  exact ⟨t,h3,zi5 h4 h2⟩
end Go.Ev

namespace Go.Ev
section
variable {σ ρ : Type} {step : σ → Option (Out σ ρ)}
theorem zat {s s':σ} (h:step s=some (.next s')):iter step s=iter step s':=by
 apply zmm
 intro r
 rw [zg7,zg7]
 constructor
 ·intro ⟨k,hk⟩
  cases k with
  | zero=>simp [iterN] at hk
  | succ k=>simp only [iterN,h] at hk;exact ⟨k,hk⟩
 ·intro ⟨k,hk⟩
  exact ⟨k+1,by simp only [iterN,h];exact hk⟩
theorem zau {s s':σ}{n:Nat} (h:step s=some (.jmp n s')):iter step s=some (.jmp n s'):=zg7.2 ⟨1,by simp only [iterN,h]⟩
theorem zj0 {s:σ}{r:ρ} (h:step s=some (.ret r)):iter step s=some (.ret r):=zg7.2 ⟨1,by simp only [iterN,h]⟩
theorem zj2 (st:Nat→σ):∀ (m:Nat),(∀ i,i<m→step (st i)=some (.next (st (i+1))))→iter step (st 0)=iter step (st m)
 | 0,_=>rfl
 | m+1,h=>by rw [zj2 st m fun i hi=>h i (by omega),zat (h m (by omega))]
end
theorem zsl {n:Nat} (h:n<2 ^ 62):w64 (n:Int)=n:=zdn (by omega) (by omega)
theorem zbb {n:Nat} (h:n<2 ^ 62):w64 ((n:Int)+1)=((n+1:Nat):Int):=by
 rw [zdn (by omega) (by omega)];omega
end Go.Ev

set_option linter.unusedVariables false
namespace Go.Ev
section
variable {T σ ρ : Type}
variable {step : σ → Option (Out σ ρ)}
open Classical in
theorem z83 (g:Nat→σ) (good:Nat→Prop) (r:ρ) (k:Nat) (e:σ) (n:Nat) (hs:∀ i,i<n→(∀ j,j<i→good j)→step (g i)=if good i then some (.next (g (i+1))) else some (.ret r))
  (he:(∀ j,j<n→good j)→step (g n)=some (.jmp k e)):iter step (g 0)=if (∀ i,i<n→good i) then some (.jmp k e) else some (.ret r):=by
 have key:∀ d i,i+d=n→(∀ j,j<i→good j)→iter step (g i)=if (∀ i,i<n→good i) then some (.jmp k e) else some (.ret r):=by
  intro d
  induction d with
  | zero =>
   intro i hi hg
   obtain rfl:i=n:=by omega
   rw [if_pos hg];exact zau (he hg)
  | succ d ih =>
   intro i hi hg
   have h1:=hs i (by omega) hg
   by_cases hgi:good i
   ·rw [if_pos hgi] at h1
    rw [zat h1]
    exact ih (i+1) (by omega) (fun j hj=>by
     by_cases hji:j=i
     ·subst hji;exact hgi
     ·exact hg j (by omega))
   ·rw [if_neg hgi] at h1
    rw [zj0 h1,if_neg (fun h=>hgi (h i (by omega)))]
 exact key n 0 (by omega) (fun j hj=>by omega)
end
end Go.Ev

set_option linter.unusedVariables false
namespace Go.Ev
section
variable {P : Program} {A : Ann} {H : List Ob} {c : CallF} {f : FuncId}
def stgOb (H:List Ob) (id off n:Nat) (ds:List Dv) (o:Option Ob):Option (List Ob) :=
 match o with
 | some (.var cs)=>if ds.length=n∧off+n≤cs.length then some (H.set id (.var (setAt cs off ds))) else none
 | some (.arr cs) =>
  match zfh H ds with
  | some (xs,l)=>if xs.length=n∧off+n≤cs.length∧¬ id∈l then some ((zan H l).set id (.arr (setAt cs off xs))) else none
  | none=>none
 | _=>none
theorem zpg {t:TypeId}{id off n:Nat}{ds:List Dv} (hs:szOf P t=some n):zdf P H t (.ptr id off) (.agg ds)=stgOb H id off n ds H[id]?:=by
 simp only [zdf,hs,cellsD]
 cases H[id]? with
 | none=>rfl
 | some o=>cases o<;>rfl
theorem zp9 {t:TypeId}{id off j o m e:Nat} (hs:szOf P t=some 1):zdf P H t (.ptr id off) (.ref j o m e)=stgOb H id off 1 [.ref j o m e] H[id]?:=by
 simp only [zdf,hs,cellsD]
 cases H[id]? with
 | none=>rfl
 | some o=>cases o<;>rfl
end
end Go.Ev
namespace Go.Ev
theorem bsm {α β:Type}{x:Option α}{f:α→Option β}{b:β} (h:x.bind f=some b):∃ a,x=some a∧f a=some b:=Option.bind_eq_some_iff.1 h
end Go.Ev

set_option linter.unusedVariables false
set_option linter.unusedSimpArgs false

set_option linter.unusedVariables false
set_option linter.unusedSimpArgs false

namespace Go.Ev
open Go
def swapL {T:Type} (i j:Int) (l:List T):Option (List T):=(rd l i).bind fun x=>(rd l j).bind fun y=>some ((l.set i.toNat y).set j.toNat x)
section
variable [Gl] {P : Program} {A : Ann} {H : List Ob} {f : FuncId}
theorem zz7 {T:Type}{en:T→List Pv}{l t:List T}{n sz e:Nat}{hd:Value}{i j:Int} (ho:A.outer f=some .swap) (hh:zaq P (Extern.Rtype.ofHandle hd)=some e) (hs:szOf P e=some sz) (ha:aggT P e=some true)
  (he:∀ x,(en x).length=sz) (hn:n=l.length) (h:swapL i j l=some t) :
  callW P A f [.p (.v (.int .i64 i)),.p (.v (.int .i64 j)),.ref 0 0 n sz,.p (.v hd)] [.arr (encL en l)]=some (.p (.tup []),[.arr (encL en t)]):=by
 subst hn
 unfold swapL at h
 obtain ⟨x,hx,h⟩:=bsm h
 obtain ⟨y,hy,h⟩:=bsm h
 cases h
 obtain ⟨x0,x1,_⟩:=zhr hx
 obtain ⟨y0,y1,_⟩:=zhr hy
 refine zee.2 ⟨1, ?_⟩
 simp only [callN,ho,extD,hh,hs,Option.bind_some]
 rw [if_pos ⟨trivial,x0,x1,y0,y1⟩]
 rw [Nat.zero_add,Nat.zero_add,zag ha hs,zag ha hs]
 rw [show ([Ob.arr (encL en l)]:List Ob)[0]?=some (.arr (encL en l)) from rfl,zsu he hx,zsu he hy]
 simp only [Option.bind_some]
 rw [zcm hs,show ([Ob.arr (encL en l)]:List Ob)[0]?=some (.arr (encL en l)) from rfl]
 have s1:=z09 (H:=[Ob.arr (encL en l)]) (id:=0) (v:=y) he x0 x1
 rw [s1]
 simp only [Option.bind_some,List.set_cons_zero]
 rw [zcm hs,show ([Ob.arr (encL en (l.set i.toNat y))]:List Ob)[0]?=some (.arr (encL en (l.set i.toNat y))) from rfl]
 have s2:=z09 (H:=[Ob.arr (encL en (l.set i.toNat y))]) (id:=0) (v:=x) (x:=l.set i.toNat y) (i:=j) he y0 (by rw [List.length_set];exact y1)
 rw [s2]
 rfl
theorem zng {n sz t:Nat}{o:Ob} (ho:A.outer f=some .valueOf) (hk:zaq P (Extern.Rtype.kind t)=some 23) :
  callW P A f [.ifc t (.ref 0 0 n sz)] [o]=some (.agg [.p (.v (typeHandle P t)),.ptr 1 0,.p (.v (.int .u64 151))],[o,.var [.ref 0 0 n sz]]):=by
 refine zee.2 ⟨1, ?_⟩
 simp only [callN,ho,extD,hk]
 rfl
theorem zne {n sz t f0 f1 f2 e:Nat}{o:Ob}{l:List (TypeId×Nat×Nat×Nat×TypeId)} (ho:A.outer f=some (.swapper l)) (hl:l.lookup t=some (f0,f1,f2,e)) (hn:2≤n) :
  callW P A f [.ifc t (.ref 0 0 n sz)] [o]=some (.fn (.func f2) [.ref 0 0 n sz,.p (.v (typeHandle P e))],[o]):=by
 refine zee.2 ⟨1, ?_⟩
 simp only [callN,ho,extD,hl,Option.map_some]
 rw [if_neg (by omega),if_neg (by omega)]
theorem zn4 {n sz t e:Nat}{o:Ob} (ho:A.outer f=some .valLen) (h1:zaq P (Extern.Rtype.ofHandle (typeHandle P t))=some t) (h2:(zaq P (Extern.Rtype.noPack "a Value asked or handed on" t)).isSome=true) (h3:((zaq P (Extern.Rtype.under t)).map fun u=>match u.2.desc with | .slice _=>true | _=>false)=some true) (hu:P.underlying t=some (.slice e)) :
  callW P A f [.agg [.p (.v (typeHandle P t)),.ptr 0 0,.p (.v (.int .u64 151))]] [.var [.ref 1 0 n sz],o]=some (.p (.v (.int .i64 (n:Int))),[.var [.ref 1 0 n sz],o]):=by
 obtain ⟨u,h2⟩:=Option.isSome_iff_exists.1 h2
 obtain ⟨v,h3,h4⟩:=Option.map_eq_some_iff.1 h3
 obtain ⟨d,h4⟩:∃ d,v.2.desc=.slice d:=by
  cases hv:v.2.desc<;>rw [hv] at h4<;>first | exact ⟨_,rfl⟩ | cases h4
 have ha:aggT P t=some false:=by simp only [aggT,hu]
 have hl:loadD P [.var [.ref 1 0 n sz],o] t (.ptr 0 0)=some (.ref 1 0 n sz):=by simp only [loadD,ha];rfl
 refine zee.2 ⟨1, ?_⟩
 simp only [callN,ho,extD,h1,h2,h3,h4,hu,hl,Option.bind_some]
 rfl
end
section
variable {P : Program} {A : Ann} {H : List Ob} {f : FuncId}
theorem zka {c:CallF}{ds dsw ds':List Dv}{i:Nat}{ids:List Nat}{o o':Ob}{os os':List Ob}{x:Dv} (hm:A.muts f=true) (hw:ds.map wkDv=dsw) (hacc:zen H 64 (zav dsw) []=i :: ids) (hok:accOk H (i :: ids) (zav dsw)=true)
  (hds:zbs (List.idxOf · (i :: ids)) dsw=ds') (hos:za0 H (i :: ids)=o :: os) (h:c f ds' (o :: os)=some (x,o' :: os')) (hl:decide ((i :: ids).length≤(o' :: os').length)=true) (hb:zh0 (o :: os) (o' :: os')=true) (hfl:A.full f=false:=by rfl) :
  callD c A H f ds=some (zd8 (backD H.length (i :: ids)) x,some (zdh (backD H.length (i :: ids)) H (i :: ids) (o' :: os'))):=by
 simp only [callD,hm,zu5 hfl,Bool.true_or,if_true,zan,hw,hacc,hok]
 have e4:lentD A f H (i :: ids)=o :: os:=by simp only [lentD,hm,if_true,hos]
 change (c f (zbs (List.idxOf · (i :: ids)) dsw) (lentD A f H (i :: ids))).bind _=_
 rw [hds,e4,h]
 simp only [Option.bind_some]
 have e6:(true && decide ((i :: ids).length≤(o' :: os').length) && zh0 (za0 H (i :: ids)) (o' :: os'))=true:=by rw [hos,hb,hl];rfl
 cases x<;>(rw [if_pos e6];try rfl)
theorem zah {ds:List Dv}:boxD H (.agg ds)=some (.ptr H.length 0,some (H++[.var ds])):=rfl
end
section
variable [Gl] {P : Program} {A : Ann}
theorem zdl {c:CallF}{q:Bool}{ops:Array Oper}{l:List Oper}{tm:List Dv}{H:List Ob}{n t ty xt e:Nat}{pos:String}{af:Array Edge}{x:Operand} (hu:P.underlying xt=some (.slice e)) :
  opsD P A c q ops (⟨some t,.makeInterface xt x,ty,pos,af,none⟩ :: l) ⟨tm,H,n⟩=opsD P A c q ops l ⟨tm.set t (.ifc xt (evalO tm x)),H,n⟩:=by
 have e1:opD P A c tm H ⟨some t,.makeInterface xt x,ty,pos,af,none⟩=some (.ifc xt (evalO tm x),none):=by
  show (match P.underlying xt with | some (.slice _)=>some (Dv.ifc xt (evalO tm x),none) | _=>none)=_
  rw [hu]
 rw [zj4,e1]
 rfl
end
section
variable {α : Type} {r : α}
theorem itc {p:Prop} [Decidable p] {a b:Option α} (h:(if p then a else b)=some r):(p∧decide p=true∧a=some r)∨(¬ p∧decide p=false∧b=some r):=by
 by_cases hp:p
 ·rw [if_pos hp] at h;exact .inl ⟨hp,decide_eq_true hp,h⟩
 ·rw [if_neg hp] at h;exact .inr ⟨hp,decide_eq_false hp,h⟩
end
theorem zdk {P:Program}{A:Ann}{f:FuncId}{fn:Func}{s:St}{x:Pv} (hk:A.keeps f=false) (hn:s.nin=0) (h1:resD P s fn.results.toList=some [.p x]) (hw:wk x=x):zap P A f fn s=some (.p x,[]) :=
 zhu (ds:=[.p x]) (x:=x) (y:=x) (l:=[]) hk hn h1 rfl hw
end Go.Ev

set_option linter.unusedVariables false
namespace Go.Ev
open Go
def ato (i:Int) (sz:Nat):Nat:=i.toNat*sz
structure Kn (b c:Bool):Prop where
 h:b=c
section
variable {P : Program} {A : Ann} {f : FuncId} {c : CallF} {q : Bool} {ops : Array Oper} {l : List Oper} {o : Oper} {s : St} {t e : Code} {b d : Bool}
theorem ycd [Gl] (h:Kn b true):condW P A f t e s (some b)=evW P A f t s:=by rw [h.h];rfl
theorem ycu [Gl] (h:Kn b false):condW P A f t e s (some b)=evW P A f e s:=by rw [h.h];rfl
theorem z6o [Gl] (h:Kn b true):condW P A f t e s (some (!b))=evW P A f e s:=by rw [h.h];rfl
theorem z9n [Gl] (h:Kn b false):condW P A f t e s (some (!b))=evW P A f t s:=by rw [h.h];rfl
theorem yeo [Gl] (h:Kn b true):opsG P A c q ops o l s (some b)=opsD P A c q ops (o :: l) s:=by rw [h.h];rfl
theorem yis [Gl] (h:Kn b false):opsG P A c q ops o l s (some b)=opsD P A c q ops l { s with tmps:=putD s.tmps o.dst ze1 }:=by rw [h.h];rfl
theorem yb7 [Gl] (h:Kn b true):opsG P A c q ops o l s (some (!b))=opsD P A c q ops l { s with tmps:=putD s.tmps o.dst ze1 }:=by rw [h.h];rfl
theorem ydi [Gl] (h:Kn b false):opsG P A c q ops o l s (some (!b))=opsD P A c q ops (o :: l) s:=by rw [h.h];rfl
theorem ydh {x y:Dv} (h:Kn b true):pickD (some b) x y=some x:=by rw [h.h];rfl
theorem ycq {x y:Dv} (h:Kn b false):pickD (some b) x y=some y:=by rw [h.h];rfl
theorem z77 {x y:Dv} (h:Kn b true):pickD (some (!b)) x y=some y:=by rw [h.h];rfl
theorem z7f {x y:Dv} (h:Kn b false):pickD (some (!b)) x y=some x:=by rw [h.h];rfl
theorem zax [Gl] {args:List Dv}{H:List Ob}{fn:Func}{c:Code}{r:Dv×List Ob} (k:Nat) (hcl:((A.outer f).isSome || (A.clone f).isSome && zjm args H)=false) (ho:A.okf f=true) (hf:P.funcs[f]?=some fn) (hb:fn.body=some c) (hk:(fn.ntmps - args.length == k)=true)
  (h:Wp (evW P A f c ⟨args++List.replicate k ze1,H,H.length⟩) fun e s=>(e=.normal∨e=.ret)∧zap P A f fn s=some r):callW P A f args H=some r:=by
 refine z6j hcl ho hf hb ?_
 rw [initS,beq_iff_eq.1 hk];exact h
end
theorem z44 {c:CallF}{A:Ann}{H:List Ob}{g:FuncId}{x:Pv}{cs:List Pv}{args:List Dv}:callV c A H (.p (.fn (.func g) (x :: cs))) args=callD c A H g (args++.p x :: cs.map .p):=rfl
section
variable {A : Ann} {H : List Ob} {c : CallF} {f : FuncId} {id n sz n' sz' : Nat} {args ps : List Pv} {ds : List Dv} {cs cs' : List Pv}
theorem zvo (hd:ds.map wkDv=args.map .p) (hm:A.muts f=true) (hid:H[id]?=some (.arr cs)) (h:c f (.ref 0 0 n sz :: args.map .p) [.arr cs]=some (.tup (.ref 1 0 n' sz' :: ps.map .p),[.dead,.arr cs'])) (hfl:A.full f=false:=by rfl) :
  callD c A H f (.ref id 0 n sz :: ds)=some (.tup (.ref H.length 0 n' sz' :: ps.map .p),some (H.set id .dead++[.arr cs'])):=by
 rw [zt3 hd hm hid h _ _ rfl rfl hfl]
 simp [zd8,zbs,zgq,backD,zdh,obMap]
theorem zv3 (hd:ds.map wkDv=args.map .p) (hm:A.muts f=true) (h:c f (args.map .p) []=some (.tup (.ref 0 0 n' sz' :: ps.map .p),[.arr cs'])) (hfl:A.full f=false:=by rfl) :
  callD c A H f ds=some (.tup (.ref H.length 0 n' sz' :: ps.map .p),some (H++[.arr cs'])):=by
 have e2:∀ H',zen H' 64 [] []=[]:=fun _=>rfl
 simp only [callD,hm,zu5 hfl,Bool.true_or,if_true,zan,hd,zj6,e2]
 rw [if_pos (show accOk H [] []=true from rfl),zgq]
 have e3:lentD A f H []=[]:=by simp only [lentD,hm];rfl
 rw [e3,h]
 simp only [Option.bind_some]
 have e6:((true || ([]:List Nat).isEmpty) && decide (([]:List Nat).length≤[Ob.arr cs'].length) && zh0 (za0 H []) [.arr cs'])=true:=rfl
 rw [if_pos e6]
 simp [zd8,zbs,zgq,backD,zdh,obMap]
end
theorem rd_lo {T:Type}{l:List T}{i:Int}{v:T} (h:rd l i=some v):0≤i∧i<(l.length:Int):=⟨(zhr h).1,(zhr h).2.1⟩
section
variable {α β : Type} {r : β} {G : Prop}
theorem gB {x:Option α}{f:α→Option β} (h:∀ a,x=some a→f a=some r→G):x.bind f=some r→G:=fun e=>by
 obtain ⟨a,h1,h2⟩:=Option.bind_eq_some_iff.1 e
 exact h a h1 h2
theorem gR {T:Type}{l:List T}{i:Int}{f:T→Option β} (h:∀ a,rd l i=some a→0≤i→i<(l.length:Int)→f a=some r→G):(rd l i).bind f=some r→G:=gB fun a h1=>h a h1 (rd_lo h1).1 (rd_lo h1).2
theorem gW {p:Prop} [Decidable p] {a:Option β} (h:p→a=some r→G):(if p then a else none)=some r→G:=fun e=>by
 by_cases hp:p
 ·rw [if_pos hp] at e;exact h hp e
 ·rw [if_neg hp] at e;cases e
theorem gT {p:Bool}{a b:Option β} (h1:p=true→Kn p true→a=some r→G) (h2:p=false→Kn p false→b=some r→G):(if p=true then a else b)=some r→G:=by
 cases p
 ·exact h2 rfl ⟨rfl⟩
 ·exact h1 rfl ⟨rfl⟩
theorem gI {p:Prop} [Decidable p] {a b:Option β} (h1:p→Kn (decide p) true→a=some r→G) (h2:¬ p→Kn (decide p) false→b=some r→G):(if p then a else b)=some r→G:=fun e=>by
 by_cases hp:p
 ·rw [if_pos hp] at e;exact h1 hp ⟨decide_eq_true hp⟩ e
 ·rw [if_neg hp] at e;exact h2 hp ⟨decide_eq_false hp⟩ e
end
end Go.Ev

set_option linter.unusedVariables false

set_option linter.unusedVariables false
namespace Go.Ev
open Go
inductive Tr where
 | leaf (d:Dv)
 | node (a b:Tr)
namespace Tr
def get:Tr→Nat→Dv
 | .leaf d,_=>d
 | .node a b,k=>match k % 2 with | 0=>a.get (k / 2) | _=>b.get (k / 2)
def put:Tr→Nat→Dv→Tr
 | .leaf _,_,d=>.leaf d
 | .node a b,k,d=>match k % 2 with | 0=>.node (a.put (k / 2) d) b | _=>.node a (b.put (k / 2) d)
def full:Nat→Tr→Prop
 | 0,.leaf _=>True
 | D+1,.node a b=>full D a∧full D b
 | _,_=>False
def evs:List Dv→List Dv
 | []=>[]
 | [a]=>[a]
 | a :: _ :: l=>a :: evs l
def ods:List Dv→List Dv
 | []=>[]
 | [_]=>[]
 | _ :: b :: l=>b :: ods l
def ofL:Nat→List Dv→Tr
 | 0,l=>.leaf (l.headD .junk)
 | D+1,l=>.node (ofL D (evs l)) (ofL D (ods l))
def toL (n:Nat) (t:Tr):List Dv:=(List.range n).map t.get
theorem full_put:∀ (D:Nat) (t:Tr),t.full D→∀ k d,(t.put k d).full D
 | 0,.leaf _,_,_,_=>trivial
 | 0,.node _ _,h,_,_=>by cases h
 | D+1,.leaf _,h,_,_=>by cases h
 | D+1,.node a b,h,k,d=>by
  unfold put
  split
  ·exact ⟨full_put D a h.1 _ _,h.2⟩
  ·exact ⟨h.1,full_put D b h.2 _ _⟩
theorem zvh:∀ (D:Nat) (t:Tr),t.full D→∀ j k d,j<2 ^ D→k<2 ^ D→(t.put k d).get j=if j=k then d else t.get j
 | 0,.leaf _,_,j,k,d,hj,hk=>by
  have:j=k:=by simp at hj hk;omega
  rw [if_pos this];rfl
 | 0,.node _ _,h,_,_,_,_,_=>by cases h
 | D+1,.leaf _,h,_,_,_,_,_=>by cases h
 | D+1,.node a b,h,j,k,d,hj,hk=>by
  have hj2:j / 2<2 ^ D:=by rw [Nat.pow_succ] at hj;omega
  have hk2:k / 2<2 ^ D:=by rw [Nat.pow_succ] at hk;omega
  have ea:=zvh D a h.1 (j / 2) (k / 2) d hj2 hk2
  have eb:=zvh D b h.2 (j / 2) (k / 2) d hj2 hk2
  rcases Nat.mod_two_eq_zero_or_one k with hk0 | hk0<;>rcases Nat.mod_two_eq_zero_or_one j with hj0 | hj0
  ·simp only [put,hk0,get,hj0,ea]
   by_cases e:j=k
   ·subst e;simp
   ·rw [if_neg e,if_neg (by omega)]
  ·simp only [put,hk0,get,hj0]
   rw [if_neg (by intro e;subst e;omega)]
  ·simp only [put,hk0,get,hj0]
   rw [if_neg (by intro e;subst e;omega)]
  ·simp only [put,hk0,get,hj0,eb]
   by_cases e:j=k
   ·subst e;simp
   ·rw [if_neg e,if_neg (by omega)]
theorem z1k:∀ (l:List Dv) (i:Nat),(evs l).getD i .junk=l.getD (2*i) .junk
 | [],i=>by simp [evs]
 | [a],i=>by
  cases i with
  | zero=>rfl
  | succ i=>simp [evs,show 2*(i+1)=2*i+1+1 from by omega]
 | a :: b :: l,i=>by
  cases i with
  | zero=>rfl
  | succ i =>
   simp only [evs,show 2*(i+1)=2*i+1+1 from by omega,List.getD_cons_succ]
   exact z1k l i
theorem z3l:∀ (l:List Dv) (i:Nat),(ods l).getD i .junk=l.getD (2*i+1) .junk
 | [],i=>by simp [ods]
 | [a],i=>by simp [ods]
 | a :: b :: l,i=>by
  cases i with
  | zero=>rfl
  | succ i =>
   simp only [ods,show 2*(i+1)+1=(2*i+1)+1+1 from by omega,List.getD_cons_succ]
   exact z3l l i
theorem full_ofL:∀ (D:Nat) (l:List Dv),(ofL D l).full D
 | 0,_=>trivial
 | D+1,l=>⟨full_ofL D _,full_ofL D _⟩
theorem zwt:∀ (D:Nat) (l:List Dv) (k:Nat),k<2 ^ D→(ofL D l).get k=l.getD k .junk
 | 0,l,k,h=>by
  obtain rfl:k=0:=by simpa using h
  cases l<;>rfl
 | D+1,l,k,h=>by
  have h2:k / 2<2 ^ D:=by rw [Nat.pow_succ] at h;omega
  rcases Nat.mod_two_eq_zero_or_one k with hk | hk
  ·simp only [ofL,get,hk]
   rw [zwt D _ _ h2,z1k,show 2*(k / 2)=k from by omega]
  ·simp only [ofL,get,hk]
   rw [zwt D _ _ h2,z3l,show 2*(k / 2)+1=k from by omega]
theorem toL_len (n:Nat) (t:Tr):(toL n t).length=n:=by simp [toL]
theorem toL_get {n:Nat}{t:Tr}{k:Nat}{x:Dv}:(toL n t).getD k x=if k<n then t.get k else x:=by
 unfold toL
 rw [List.getD_eq_getElem?_getD]
 split
 ·rename_i h;simp [h]
 ·rename_i h;simp [h]
theorem toL_put {n D:Nat}{t:Tr} (h:t.full D) (hn:n≤2 ^ D) {k:Nat} (hk:k<n) (d:Dv):toL n (t.put k d)=(toL n t).set k d:=by
 apply List.ext_getElem
 ·simp [toL]
 ·intro i h1 h2
  have hi:i<n:=by simpa [toL] using h1
  simp only [toL,List.getElem_map,List.getElem_range,List.getElem_set]
  rw [zvh D t h i k d (by omega) (by omega)]
  by_cases e:i=k
  ·subst e;simp
  ·rw [if_neg e,if_neg (fun e'=>e e'.symm)]
theorem toL_ofL {n D:Nat} (hn:n≤2 ^ D) {l:List Dv} (hl:l.length=n):toL n (ofL D l)=l:=by
 apply List.ext_getElem
 ·simp [toL,hl]
 ·intro i h1 h2
  simp only [toL,List.getElem_map,List.getElem_range]
  rw [zwt D l i (by omega),List.getD_eq_getElem?_getD,List.getElem?_eq_getElem h2]
  rfl
end Tr
theorem blt_t {k n:Nat} (h:k<n):Nat.blt k n=true:=Nat.ble_eq_true_of_le h
theorem blt_f {k n:Nat} (h:¬ k<n):Nat.blt k n=false:=by
 cases e:Nat.blt k n with
 | false=>rfl
 | true=>exact absurd (Nat.le_of_ble_eq_true e) h
structure FS where
 tr:Tr
 heap:List Ob
 nin:Nat
def FS.st (n:Nat) (s:FS):St:=⟨s.tr.toL n,s.heap,s.nin⟩
def evalT [Gl] (n:Nat) (t:Tr):Operand→Dv
 | .tmp k=>bif Nat.blt k n then t.get k else .junk
 | .const x=>.p (ofVal x)
 | .global g=>match Gl.glob g with | some cells=>.p (.iptr cells 0) | none=>.junk
 | .func f=>.p (.fn (.func f) [])
theorem zxr [Gl] {n:Nat}{t:Tr} (x:Operand):evalT n t x=evalO (t.toL n) x:=by
 cases x with
 | tmp k =>
  show (bif Nat.blt k n then t.get k else .junk)=(t.toL n).getD k .junk
  rw [Tr.toL_get]
  by_cases h:k<n
  ·rw [if_pos h,blt_t h];rfl
  ·rw [if_neg h,blt_f h];rfl
 | _=>rfl
abbrev Rv:=Option (Dv×Option (List Ob))
def rN1 (r:Option Dv):Rv:=r.map fun d=>(d,none)
def rPick (c a b:Dv):Rv:=(boolD c).map fun t=>(if t then a else b,none)
def rBox (x:Dv) (H:List Ob):Rv:=(cellsD x).map fun ds=>(.ptr H.length 0,some (H++[.var ds]))
def yhm (P:Program) (t:TypeId) (parts:List (Nat×Dv)):Rv:=rN1 ((zux P t).bind fun pl=>(zey P t).bind fun z=>(fillD pl (z.map .p) parts).map mkAgg)
def rBS (P:Program) (H:List Ob) (t:TypeId) (len:Nat) (parts:List (Nat×Dv)):Rv :=
 match P.underlying t with
 | some (.slice e) =>
  (szOf P e).bind fun sz=>(zey P e).bind fun z =>
  if sz=0∨z.length≠sz∨len*sz > 2 ^ 24 then none else
  (fillD (fun i=>some (i*sz,sz)) ((repl len z).map .p) parts).bind fun ds =>
  (zfh H ds).map fun (cs,l)=>(.p (.lst true len (wkE P e cs)),if l.isEmpty then none else some (zan H l))
 | _=>none
def ykc (P:Program) (H:List Ob) (t:TypeId) (a x:Dv):Rv:=(zdf P H t a x).map fun h=>(ze1,some h)
def rNil (x:Dv):Rv :=
 match x with
 | .ptr id off=>some (.ptr id off,none)
 | .p (.iptr cs off)=>some (.p (.iptr cs off),none)
 | .p (.fn (.func f) cs)=>some (.p (.fn (.func f) cs),none)
 | .fn (.func f) cs=>some (.fn (.func f) cs,none)
 | _=>none
def rUn (P:Program) (op:UnOp) (x:Dv):Rv:=rN1 ((concD x).bind fun a=>(zaq P (Op.unary op a)).map fun r=>.p (.v r))
def rConv (P:Program) (src dst:TypeId) (x:Dv):Rv:=rN1 ((concD x).bind fun a=>(zaq P (convert src dst a)).map fun r=>.p (.v r))
def zz2 (P:Program) (t:TypeId) (x:Dv) (i:Nat):Rv :=
 rN1 ((zj3 P t i).bind fun f=>(szOf P f.type).bind fun n =>
  if n=0 then none else
  match x with
  | .ptr id off=>some (.ptr id (off+f.offset))
  | .p (.iptr cs off)=>some (.p (.iptr cs (off+f.offset)))
  | _=>none)
def yg0 (P:Program) (t:TypeId) (x:Dv) (i:Nat):Rv:=rN1 ((zj3 P t i).bind fun f=>partD P f.type x f.offset)
def z7b (P:Program) (t:TypeId) (x ix:Dv):Rv :=
 rN1 ((intD ix).bind fun i =>
  match P.underlying t,x with
  | some (.slice e),.p (.lst _ n cells)=>(szOf P e).bind fun sz=>if 0≤i∧i<n∧sz≠0∧cells.length=n*sz then some (.p (.iptr cells (i.toNat*sz))) else none
  | some (.slice e),.ref id off n esz=>(szOf P e).bind fun sz=>if 0≤i∧i<n∧sz=esz∧sz≠0 then some (.ptr id (off+i.toNat*sz)) else none
  | some (.array n e),.ptr id off=>(szOf P e).bind fun sz=>if 0≤i∧i<n∧sz≠0 then some (.ptr id (off+i.toNat*sz)) else none
  | some (.array n e),.p (.iptr cells off)=>(szOf P e).bind fun sz=>if 0≤i∧i<n∧sz≠0 then some (.p (.iptr cells (off+i.toNat*sz))) else none
  | _,_=>none)
def yht (P:Program) (t:TypeId) (x ix:Dv):Rv :=
 rN1 (match P.underlying t with
  | some .string=>(concD x).bind fun a=>(concD ix).bind fun b=>(zaq P (Instr.index t a b)).map fun r=>.p (.v r)
  | some (.array n e)=>(intD ix).bind fun i=>(szOf P e).bind fun sz=>if 0≤i∧i<n then partD P e x (i.toNat*sz) else none
  | _=>none)
def z94 (x:Dv) (i:Nat):Rv :=
 rN1 (match x with
  | .p (.tup cs)=>(cs[i]?).map .p
  | .tup ds=>ds[i]?
  | _=>none)
def ygx (P:Program) (t:TypeId) (x:Dv):Rv :=
 match P.underlying t with
 | some (.slice _)=>some (.ifc t x,none)
 | _=>none
def rCall (call:CallF) (A:Ann) (H:List Ob) (f:Dv) (args:List Dv):Rv :=
 match f with
 | .p (.fn (.func g) cs)=>callD call A H g (args++cs.map .p)
 | .fn (.func g) ds=>callD call A H g (args++ds)
 | _=>none
def ycv [Gl] (P:Program) (A:Ann) (call:CallF) (ρ:Operand→Dv) (H:List Ob) (ty:TypeId) (c:Call):Rv :=
 match c.callee with
 | .builtin b=>zgj P H b c.argTypes ty (c.args.toList.map ρ)
 | .value f=>rCall call A H (ρ f) (c.args.toList.map ρ)
 | _=>none
def opR [Gl] (P:Program) (A:Ann) (call:CallF) (ρ:Operand→Dv) (H:List Ob) (ty:TypeId) (op:Op):Rv :=
 match op with
 | .move x=>some (ρ x,none)
 | .assign x=>some (ρ x,none)
 | .pick c a b=>rPick (ρ c) (ρ a) (ρ b)
 | .alloc e=>(zey P e).map fun cs=>(.ptr H.length 0,some (H++[.var (cs.map .p)]))
 | .box _ x=>rBox (ρ x) H
 | .build t parts=>yhm P t (parts.toList.map fun (i,x)=>(i,ρ x))
 | .buildSlice t len parts=>rBS P H t len (parts.toList.map fun (i,x)=>(i,ρ x))
 | .load t a=>rN1 (loadD P H t (ρ a))
 | .store t a x=>ykc P H t (ρ a) (ρ x)
 | .nilCheck x=>rNil (ρ x)
 | .binOp op t x y _=>rN1 (binN P op t x y (ρ x) (ρ y))
 | .unOp op _ x=>rUn P op (ρ x)
 | .convert src dst x=>rConv P src dst (ρ x)
 | .makeFunc fn first caps=>if first.size=0 then rN1 (some (mkFn fn (caps.toList.map ρ))) else none
 | .makeSlice t l c=>(makeD P H t (ρ l) (ρ c)).map fun (r,h)=>(r,some h)
 | .slice t x lo hi mx=>if mx.isSome && hi.isNone then none else rN1 (zt1 P H t (ρ x) (lo.map ρ) (hi.map ρ) (mx.map ρ))
 | .fieldAddr t x i=>zz2 P t (ρ x) i
 | .field t x i=>yg0 P t (ρ x) i
 | .indexAddr t x ix=>z7b P t (ρ x) (ρ ix)
 | .index t x ix=>yht P t (ρ x) (ρ ix)
 | .extract x i=>z94 (ρ x) i
 | .makeMap _ none=>some (.mp H.length,some (H++[.mp []]))
 | .lookup t x ix ok=>rN1 (zia P H t (ρ x) (ρ ix) ok)
 | .mapUpdate t m k x=>(zfa P H t (ρ m) (ρ k) (ρ x)).map fun h=>(ze1,some h)
 | .makeInterface t x=>ygx P t (ρ x)
 | .call c=>ycv P A call ρ H ty c
 | _=>none
theorem yga [Gl] {P:Program}{A:Ann}{call:CallF}{tm:List Dv}{H:List Ob}{o:Oper}:opR P A call (evalO tm) H o.type o.op=opD P A call tm H o:=by
 obtain ⟨dst,op,type,pos,after,guard⟩:=o
 cases op with
 | call c =>
  obtain ⟨callee,args,ts⟩:=c
  cases callee<;>rfl
 | makeMap t r=>cases r<;>rfl
 | _=>rfl
def putF (n:Nat) (t:Tr) (dst:Option Tmp) (d:Dv):Tr :=
 match dst with
 | some k=>bif Nat.blt k n then t.put k d else t
 | none=>t
def wantF (ops:Array Oper) (n:Nat) (t:Tr) (o:Oper):Option Bool :=
 match o.guard with
 | none=>some true
 | some (j,want) =>
  match (ops[j]?).bind (·.dst) with
  | none=>some false
  | some k=>(zms (bif Nat.blt k n then t.get k else ze1)).map (· == some want)
def doneF (quiet:Bool) (n:Nat) (o:Oper) (s:FS) (d:Dv) (h:Option (List Ob)):Option FS :=
 match h with
 | none=>some ⟨putF n s.tr o.dst d,s.heap,s.nin⟩
 | some h=>if quiet && !wrOp o.op then none else some ⟨putF n s.tr o.dst d,h,s.nin⟩
def stepF [Gl] (P:Program) (A:Ann) (call:CallF) (quiet:Bool) (ops:Array Oper) (n:Nat) (o:Oper) (s:FS):Option FS :=
 match wantF ops n s.tr o with
 | some true=>match opR P A call (evalT n s.tr) s.heap o.type o.op with | some (d,h)=>doneF quiet n o s d h | none=>none
 | some false=>some ⟨putF n s.tr o.dst ze1,s.heap,s.nin⟩
 | none=>none
def opsF [Gl] (P:Program) (A:Ann) (call:CallF) (quiet:Bool) (ops:Array Oper) (n:Nat):List Oper→FS→Option FS
 | [],s=>some s
 | o :: rest,s=>match stepF P A call quiet ops n o s with | some s=>opsF P A call quiet ops n rest s | none=>none
section
variable {P : Program} {A : Ann} {call : CallF} {quiet : Bool} {ops : Array Oper} {n D : Nat}
theorem z5e {t:Tr} (h:t.full D) (hn:n≤2 ^ D) (dst:Option Tmp) (d:Dv):(putF n t dst d).toL n=putD (t.toL n) dst d∧(putF n t dst d).full D:=by
 cases dst with
 | none=>exact ⟨rfl,h⟩
 | some k =>
  show (bif Nat.blt k n then t.put k d else t).toL n=(t.toL n).set k d∧(bif Nat.blt k n then t.put k d else t).full D
  by_cases hk:k<n
  ·rw [blt_t hk]
   exact ⟨Tr.toL_put h hn hk d,Tr.full_put D t h k d⟩
  ·rw [blt_f hk]
   exact ⟨(List.set_eq_of_length_le (by rw [Tr.toL_len];exact Nat.le_of_not_lt hk)).symm,h⟩
theorem z6q {t:Tr}{o:Oper}:wantF ops n t o=wantD ops (t.toL n) o:=by
 unfold wantF wantD
 cases o.guard with
 | none=>rfl
 | some g =>
  obtain ⟨j,w⟩:=g
  simp only []
  cases (ops[j]?).bind (·.dst) with
  | none=>rfl
  | some k =>
   simp only []
   rw [Tr.toL_get]
   by_cases hk:k<n
   ·rw [if_pos hk,blt_t hk];rfl
   ·rw [if_neg hk,blt_f hk];rfl
theorem z6k [Gl] {o:Oper}{s s':FS} (hf:s.tr.full D) (hn:n≤2 ^ D) (h:stepF P A call quiet ops n o s=some s'):stepD P A call quiet ops o (s.st n)=some (s'.st n)∧s'.tr.full D:=by
 have ev:evalT n s.tr=evalO (s.tr.toL n):=funext fun x=>zxr x
 unfold stepF at h
 rw [z6q,ev,yga] at h
 unfold stepD
 show ((wantD ops (s.tr.toL n) o).bind fun w=>_)=_∧_
 split at h
 ·rename_i hw
  rw [hw]
  simp only [Option.bind_some,if_true]
  show ((opD P A call (s.tr.toL n) s.heap o).bind fun x=>_)=_∧_
  split at h
  ·rename_i d hh ho
   rw [ho]
   simp only [Option.bind_some]
   obtain ⟨e1,e2⟩:=z5e hf hn o.dst d
   unfold doneF at h
   cases hh with
   | none =>
    simp only [Option.some.injEq] at h
    subst h
    exact ⟨congrArg some (by unfold FS.st;rw [← e1]),e2⟩
   | some H' =>
    simp only [] at h ⊢
    split at h
    ·cases h
    ·rename_i hq
     simp only [Option.some.injEq] at h
     subst h
     rw [if_neg hq]
     exact ⟨congrArg some (by unfold FS.st;rw [← e1]),e2⟩
  ·cases h
 ·rename_i hw
  rw [hw]
  simp only [Option.bind_some,Bool.false_eq_true,if_false]
  simp only [Option.some.injEq] at h
  subst h
  obtain ⟨e1,e2⟩:=z5e hf hn o.dst ze1
  exact ⟨congrArg some (by unfold FS.st;rw [← e1]),e2⟩
 ·cases h
theorem z4x [Gl] (hn:n≤2 ^ D):∀ (l:List Oper) {s s':FS},s.tr.full D→opsF P A call quiet ops n l s=some s'→opsD P A call quiet ops l (s.st n)=some (s'.st n)∧s'.tr.full D
 | [],s,s',hf,h=>by
  simp only [opsF,Option.some.injEq] at h
  subst h;exact ⟨rfl,hf⟩
 | o :: l,s,s',hf,h=>by
  simp only [opsF] at h
  split at h
  ·rename_i s1 h1
   obtain ⟨e1,f1⟩:=z6k hf hn h1
   obtain ⟨e2,f2⟩:=z4x hn l f1 h
   simp only [opsD,e1,Option.bind_some]
   exact ⟨e2,f2⟩
  ·cases h
end
def preF (A:Ann) (fid id n D:Nat) (s:FS):Option FS :=
 match A.pre fid id with
 | []=>some s
 | g :: l=>match zaj (g :: l) (s.st n) with | some s'=>if s'.tmps.length=n then some ⟨Tr.ofL D s'.tmps,s'.heap,s'.nin⟩ else none | none=>none
def endF [Gl] (A:Ann) (fid id:Nat) (ops:Array Oper) (draw:Bool) (n:Nat) (H0:List Ob) (s:FS):Bool :=
 match A.lp fid id with
 | some pairs=>!draw || zro A ops pairs H0 (s.tr.toL n)
 | none =>
 match A.dyn fid id with
 | none=>true
 | some pairs=>!draw || dynB ops H0.length pairs (s.st n)
def regF [Gl] (P:Program) (A:Ann) (call:CallF) (fid n D id:Nat) (ops:Array Oper) (draw:Bool) (s:FS):Option (Ex×FS) :=
 match preF A fid id n D s with
 | some s1=>match opsF P A call (draw && !A.loud fid id) ops n ops.toList s1 with | some s2=>if endF A fid id ops draw n s1.heap s2 then some (.normal,s2) else none | none=>none
 | none=>none
def loopG (f:FS→Option (Ex×FS)):Nat→FS→Option (Ex×FS)
 | 0,_=>none
 | k+1,s =>
  match f s with
  | some (.normal,s')=>loopG f k s'
  | r=>r
def evF [Gl] (P:Program) (A:Ann) (call:CallF) (k:Nat) (fid n D:Nat):Code→FS→Option (Ex×FS)
 | .skip,s=>some (.normal,s)
 | .label _,s=>some (.normal,s)
 | .region id ops draw,s=>regF P A call fid n D id ops draw s
 | .seq a b,s =>
  match evF P A call k fid n D a s with
  | some (.normal,s')=>evF P A call k fid n D b s'
  | r=>r
 | .cond c t e,s =>
  match boolD (evalT n s.tr c) with
  | some true=>evF P A call k fid n D t s
  | some false=>evF P A call k fid n D e s
  | none=>none
 | .block id body,s =>
  match evF P A call k fid n D body s with
  | some (.exit id',s')=>if id'=id then some (.normal,s') else some (.exit id',s')
  | r=>r
 | .loop body,s=>loopG (evF P A call k fid n D body) k s
 | .exit id,s=>some (.exit id,s)
 | .ret,s=>some (.ret,s)
 | _,_=>none
section
variable {P : Program} {A : Ann} {call : CallF} {k fid n D : Nat}
theorem ydu (hn:n≤2 ^ D) {id:Nat}{s s':FS} (hf:s.tr.full D) (h:preF A fid id n D s=some s'):zaj (A.pre fid id) (s.st n)=some (s'.st n)∧s'.tr.full D:=by
 unfold preF at h
 split at h
 ·rename_i e
  simp only [Option.some.injEq] at h
  subst h;rw [e];exact ⟨rfl,hf⟩
 ·rename_i g l e
  rw [e]
  split at h
  ·rename_i s1 h1
   split at h
   ·rename_i hl
    simp only [Option.some.injEq] at h
    subst h
    rw [h1]
    refine ⟨congrArg some ?_,Tr.full_ofL D _⟩
    unfold FS.st
    rw [Tr.toL_ofL hn hl]
   ·cases h
  ·cases h
theorem ydl [Gl] {id:Nat}{ops:Array Oper}{draw:Bool}{s0:FS}{s:FS} (h:endF A fid id ops draw n s0.heap s=true):endR A fid id ops draw (s0.st n) (s.st n)=some (.normal,s.st n):=by
 unfold endF at h
 unfold endR
 cases hx:A.lp fid id with
 | some pairs=>rw [hx] at h;simp only [] at h ⊢;exact if_pos h
 | none =>
  rw [hx] at h;simp only [] at h ⊢
  cases hy:A.dyn fid id with
  | none=>rfl
  | some pairs=>rw [hy] at h;simp only [] at h ⊢;exact if_pos h
theorem zlg [Gl] (hn:n≤2 ^ D):∀ (c:Code) {s s':FS}{ex:Ex},s.tr.full D→evF P A call k fid n D c s=some (ex,s')→evC P A call k fid c (s.st n)=some (ex,s'.st n)∧s'.tr.full D
 | .skip,s,s',ex,hf,h=>by
  simp only [evF,Option.some.injEq,Prod.mk.injEq] at h
  obtain ⟨rfl,rfl⟩:=h;exact ⟨rfl,hf⟩
 | .label _,s,s',ex,hf,h=>by
  simp only [evF,Option.some.injEq,Prod.mk.injEq] at h
  obtain ⟨rfl,rfl⟩:=h;exact ⟨rfl,hf⟩
 | .exit _,s,s',ex,hf,h=>by
  simp only [evF,Option.some.injEq,Prod.mk.injEq] at h
  obtain ⟨rfl,rfl⟩:=h;exact ⟨rfl,hf⟩
 | .ret,s,s',ex,hf,h=>by
  simp only [evF,Option.some.injEq,Prod.mk.injEq] at h
  obtain ⟨rfl,rfl⟩:=h;exact ⟨rfl,hf⟩
 | .region id ops draw,s,s',ex,hf,h=>by
  simp only [evF,regF] at h
  split at h
  ·rename_i s1 h1
   obtain ⟨e1,f1⟩:=ydu hn hf h1
   split at h
   ·rename_i s2 h2
    obtain ⟨e2,f2⟩:=z4x hn _ f1 h2
    split at h
    ·rename_i he
     simp only [Option.some.injEq,Prod.mk.injEq] at h
     obtain ⟨rfl,rfl⟩:=h
     simp only [evC,e1,Option.bind_some,e2]
     exact ⟨ydl he,f2⟩
    ·cases h
   ·cases h
  ·cases h
 | .seq a b,s,s',ex,hf,h=>by
  simp only [evF] at h
  split at h
  ·rename_i s1 h1
   obtain ⟨e1,f1⟩:=zlg hn a hf h1
   obtain ⟨e2,f2⟩:=zlg hn b f1 h
   simp only [evC,e1]
   exact ⟨e2,f2⟩
  ·rename_i hne
   obtain ⟨e1,f1⟩:=zlg hn a hf h
   simp only [evC,e1]
   refine ⟨?_,f1⟩
   cases ex with
   | normal=>exact absurd h (hne s')
   | exit i=>rfl
   | ret=>rfl
 | .cond c t e,s,s',ex,hf,h=>by
  simp only [evF,zxr] at h
  simp only [evC]
  show (match boolD (evalO (s.tr.toL n) c) with | some b=>_ | none=>_)=_∧_
  split at h
  ·rename_i hb
   rw [hb]
   exact zlg hn t hf h
  ·rename_i hb
   rw [hb]
   exact zlg hn e hf h
  ·cases h
 | .block id b,s,s',ex,hf,h=>by
  simp only [evF] at h
  split at h
  ·rename_i i s1 h1
   obtain ⟨e1,f1⟩:=zlg hn b hf h1
   simp only [evC,e1]
   split at h
   ·rename_i hi
    simp only [Option.some.injEq,Prod.mk.injEq] at h
    obtain ⟨rfl,rfl⟩:=h
    exact ⟨if_pos hi,f1⟩
   ·rename_i hi
    simp only [Option.some.injEq,Prod.mk.injEq] at h
    obtain ⟨rfl,rfl⟩:=h
    exact ⟨if_neg hi,f1⟩
  ·rename_i hne
   obtain ⟨e1,f1⟩:=zlg hn b hf h
   simp only [evC,e1]
   refine ⟨?_,f1⟩
   cases ex with
   | exit i=>exact absurd h (hne i s')
   | normal=>rfl
   | ret=>rfl
 | .loop b,s,s',ex,hf,h=>by
  simp only [evF] at h
  simp only [evC]
  have key:∀ (j:Nat) (s:FS),s.tr.full D→loopG (evF P A call k fid n D b) j s=some (ex,s')→loopD (evC P A call k fid b) j (s.st n)=some (ex,s'.st n)∧s'.tr.full D:=by
   intro j
   induction j with
   | zero=>intro s _ h;simp [loopG] at h
   | succ j ih =>
    intro s hf h
    simp only [loopG] at h
    simp only [loopD]
    split at h
    ·rename_i s1 h1
     obtain ⟨e1,f1⟩:=zlg hn b hf h1
     rw [e1]
     exact ih s1 f1 h
    ·rename_i hne
     obtain ⟨e1,f1⟩:=zlg hn b hf h
     rw [e1]
     refine ⟨?_,f1⟩
     cases ex with
     | normal=>exact absurd h (hne s')
     | exit i=>rfl
     | ret=>rfl
  exact key k s hf h
 | .goto _,s,s',ex,hf,h=>by simp only [evF] at h;cases h
 | .rangeFunc ..,s,s',ex,hf,h=>by simp only [evF] at h;cases h
 | .scope _,s,s',ex,hf,h=>by simp only [evF] at h;cases h
 | .refuse _,s,s',ex,hf,h=>by simp only [evF] at h;cases h
end
def outF (P:Program) (A:Ann) (f:FuncId) (fn:Func) (n:Nat) (r:Option (Ex×FS)):Option (Dv×List Ob) :=
 match r with
 | some (.normal,s)=>zap P A f fn (s.st n)
 | some (.ret,s)=>zap P A f fn (s.st n)
 | _=>none
def bodyF [Gl] (P:Program) (A:Ann) (call:CallF) (k:Nat) (f:FuncId) (fn:Func) (c:Code) (n D:Nat) (l:List Dv) (H:List Ob):Option (Dv×List Ob) :=
 if l.length=n∧n<2 ^ D then outF P A f fn n (evF P A call k f n D c ⟨Tr.ofL D l,H,H.length⟩) else none
def runF [Gl] (P:Program) (A:Ann) (call:CallF) (k:Nat) (f:FuncId) (args:List Dv) (H:List Ob):Option (Dv×List Ob) :=
 if A.okf f then
 match P.funcs[f]? with
 | some fn =>
  match fn.body with
  | some c=>bodyF P A call k f fn c fn.ntmps (Nat.log2 fn.ntmps+1) (args++List.replicate (fn.ntmps - args.length) ze1) H
  | none=>none
 | none=>none
 else none
theorem z2a [Gl] {P:Program}{A:Ann}{call:CallF}{k:Nat}{f:FuncId}{args:List Dv}{H:List Ob}{r:Dv×List Ob} (h:runF P A call k f args H=some r):runD P A call k f args H=some r:=by
 unfold runF at h
 unfold runD
 split at h
 ·rename_i ho
  rw [if_pos ho]
  split at h
  ·rename_i fn hfn
   simp only [hfn]
   split at h
   ·rename_i c hc
    simp only [hc]
    unfold bodyF at h
    split at h
    ·rename_i hl
     obtain ⟨hl,hn⟩:=hl
     unfold outF at h
     generalize hl0:args++List.replicate (fn.ntmps - args.length) ze1=l at *
     have e0:(⟨l,H,H.length⟩:St)=FS.st fn.ntmps ⟨Tr.ofL (Nat.log2 fn.ntmps+1) l,H,H.length⟩:=by
      unfold FS.st;rw [Tr.toL_ofL (Nat.le_of_lt hn) hl]
     rw [e0]
     split at h
     ·rename_i s hs
      obtain ⟨e1,_⟩:=zlg (Nat.le_of_lt hn) c (Tr.full_ofL _ _) hs
      rw [e1];exact h
     ·rename_i s hs
      obtain ⟨e1,_⟩:=zlg (Nat.le_of_lt hn) c (Tr.full_ofL _ _) hs
      rw [e1];exact h
     ·cases h
    ·cases h
   ·cases h
  ·cases h
 ·cases h
end Go.Ev

set_option linter.unusedVariables false
namespace Go.Ev
open Go
section
variable {P : Program} {A : Ann} {c : CallF} {q : Bool} {ops : Array Oper} {l : List Oper} {tm : List Dv} {H : List Ob} {n t ty : Nat} {pos : String} {af : Array Edge}
theorem zrj [Gl] {xt:TypeId}{x y:Operand}{ok:Bool}:opsD P A c q ops (⟨some t,.lookup xt x y ok,ty,pos,af,none⟩ :: l) ⟨tm,H,n⟩ =
  opsP P A c q ops l tm H n t (zia P H xt (evalO tm x) (evalO tm y) ok):=zil rfl
theorem zkn [Gl] {mt:TypeId}:opsD P A c q ops (⟨some t,.makeMap mt none,ty,pos,af,none⟩ :: l) ⟨tm,H,n⟩=opsD P A c q ops l ⟨tm.set t (.mp H.length),H++[.mp []],n⟩:=by
 rw [zj4]
 show opsQ P A c q ops l tm H n t true (some (.mp H.length,some (H++[.mp []])))=_
 rw [ztg]
theorem zsi [Gl] {xt:TypeId}{m k x:Operand}:opsD P A c q ops (⟨none,.mapUpdate xt m k x,ty,pos,af,none⟩ :: l) ⟨tm,H,n⟩ =
  (match zfa P H xt (evalO tm m) (evalO tm k) (evalO tm x) with | some h=>opsD P A c q ops l ⟨tm,h,n⟩ | none=>none):=by
 simp only [opsD,stepD,wantD,Option.bind_some,if_true,opD]
 cases zfa P H xt (evalO tm m) (evalO tm k) (evalO tm x) with
 | none=>rfl
 | some h=>simp [wrOp,putD]
end
theorem getC {H:List Ob}{x:Ob}:(H++[x])[H.length]?=some x:=by simp
end Go.Ev

