/- A part of the proof: Pl. No conditions of its own. -/
import Derived.Test.YtcpenhffpgajoaaT
set_option linter.unusedVariables false
set_option linter.unusedSimpArgs false
namespace Xr
open Go Go.Ev
mutual
def hsP (q:Node→ByteArray):Node→List Int
 | ⟨k,t,g,ks⟩=>mixI (hsF q ks (mixI (IntKind.wrap .u64 k) (sumI (q ⟨k,t,g,ks⟩)))) (IntKind.wrap .u64 (ks.length:Int)) :: hsK q ks
def hsK (q:Node→ByteArray):List Node→List Int
 | []=>[]
 | n :: ks=>hsP q n++hsK q ks
def hsF (q:Node→ByteArray):List Node→Int→Int
 | [],d=>d
 | n :: ks,d=>hsF q ks (mixI d ((hsP q n).headD 0))
end
mutual
theorem znm (q:Node→ByteArray):∀ n:Node,(hsP q n).length=size n
 | ⟨k,t,g,ks⟩=>by simp only [hsP,size,List.length_cons,z2h q ks];omega
theorem z2h (q:Node→ByteArray):∀ l:List Node,(hsK q l).length=sizes l
 | []=>by simp only [hsK,sizes,List.length_nil]
 | n :: ks=>by simp only [hsK,sizes,List.length_append,znm q n,z2h q ks]
end
def bareQ (b:Bool) (n:Node):ByteArray:=if b then ByteArray.mk #[] else n.Text
theorem zzb (b:Bool) (n:Node):(bareQ b n).size≤n.Text.size:=by
 unfold bareQ
 cases b
 ·exact Nat.le_refl _
 ·exact Nat.zero_le _
mutual
theorem yar {p:Node→Option ByteArray}{b:Bool} (hp:∀ n,p n=some (bareQ b n)):∀ n:Node,zho n<2 ^ 40→hsO p n=some (hsP (bareQ b) n)
 | ⟨k,t,g,ks⟩,h=>by
  have hw:=zuz ⟨k,t,g,ks⟩
  simp only at hw
  have hq:=zzb b ⟨k,t,g,ks⟩
  simp only at hq
  simp only [hsO,hp,Option.bind_some,ybf hp ks _ (show weights ks<2 ^ 40 by omega),hsP,Option.map_some]
  rw [if_pos (by omega)]
theorem ybf {p:Node→Option ByteArray}{b:Bool} (hp:∀ n,p n=some (bareQ b n)):∀ (l:List Node) (d:Int),weights l<2 ^ 40→hsL p l d=some (hsF (bareQ b) l d,hsK (bareQ b) l)
 | [],d,h=>by simp only [hsL,hsF,hsK]
 | n :: ks,d,h=>by
  simp only [weights] at h
  simp only [hsL,hsF,hsK,yar hp n (by omega),Option.bind_some,ybf hp ks _ (show weights ks<2 ^ 40 by omega),Option.map_some]
end
theorem ybl {p:Node→Option ByteArray}{b:Bool} (hp:∀ n,p n=some (bareQ b n)) {n:Node} (hs:size n<2 ^ 30) (hw:zho n<2 ^ 40):(zdw p ([]:List Int) n).bind (fun r=>some r.1)=some (hsP (bareQ b) n):=by
 unfold zdw
 rw [if_pos (by simpa using hs),yar hp n hw]
 rfl
theorem zw3 {n:Node} (hs:size n<2 ^ 30) (hw:zho n<2 ^ 40):zi3 n=some (hsP (bareQ false) n):=ybl (p:=zbt) (b:=false) (fun n=>rfl) hs hw
theorem zxm {n:Node}{a b c:Int} (ha:0≤a) (ha2:a<2 ^ 30) (hb:0≤b) (hb2:b<2 ^ 30) (hc:0≤c) (hc2:c<2 ^ 30):∃ r,zjd n a b c=some r∧(r=true→(size n:Int)≤a∧(zoj n:Int)≤b∧(zho n:Int)≤c):=by
 unfold zjd zm4 zgn
 rw [if_pos (by omega)]
 simp only [Option.bind_some]
 by_cases hf:(size n:Int)≤a∧(zoj n:Int)≤b
 ·have e:leftV n a b=a - size n:=if_pos hf
  rw [e,if_pos (by simp only [decide_eq_true_eq];omega)]
  unfold zfj
  rw [if_pos (by omega)]
  simp only [Option.bind_some]
  refine ⟨_,rfl,fun h=>⟨hf.1,hf.2, ?_⟩⟩
  by_cases hw:(zho n:Int)≤c
  ·exact hw
  ·rw [if_neg hw] at h;simp at h
 ·have e:leftV n a b=-1:=if_neg hf
  rw [e,if_neg (by decide)]
  exact ⟨_,rfl,fun h=>by cases h⟩
end Xr

set_option linter.unusedVariables false
set_option linter.unusedSimpArgs false
namespace Xr
open Go Go.Ev
mutual
theorem zr2 (b:Bool):∀ n:Node,hsP (bareQ b) (barV n)=hsP (bareQ b) n
 | ⟨k,t,g,ks⟩=>by
  simp only [barV,hsP,z0s b ks,z5x b ks]
  rw [zp1,List.length_map]
  rfl
theorem z5x (b:Bool):∀ l:List Node,hsK (bareQ b) (barVs l)=hsK (bareQ b) l
 | []=>by simp only [barVs]
 | n :: ks=>by simp only [barVs,hsK,zr2 b n,z5x b ks]
theorem z0s (b:Bool):∀ (l:List Node) (d:Int),hsF (bareQ b) (barVs l) d=hsF (bareQ b) l d
 | [],d=>by simp only [barVs]
 | n :: ks,d=>by simp only [barVs,hsF,zr2 b n,z0s b ks]
end
mutual
theorem zwe (q:Node→ByteArray):∀ (n:Node) (i:Nat) (v:Node),(subs n)[i]?=some v→(hsP q n)[i]?=(hsP q v)[0]?
 | ⟨k,t,g,ks⟩,i,v,h=>by
  simp only [subs] at h
  cases i with
  | zero =>
   simp only [List.getElem?_cons_zero,Option.some.injEq] at h
   subst h;rfl
  | succ i =>
   simp only [List.getElem?_cons_succ] at h
   have:=z4n q ks i v h
   simp only [hsP,List.getElem?_cons_succ]
   exact this
theorem z4n (q:Node→ByteArray):∀ (l:List Node) (i:Nat) (v:Node),(subss l)[i]?=some v→(hsK q l)[i]?=(hsP q v)[0]?
 | [],i,v,h=>by simp [subss] at h
 | n :: ks,i,v,h=>by
  simp only [subss] at h
  simp only [hsK]
  by_cases hi:i<(subs n).length
  ·rw [List.getElem?_append_left hi] at h
   rw [List.getElem?_append_left (by rw [znm,← zez];exact hi)]
   exact zwe q n i v h
  ·rw [List.getElem?_append_right (by omega)] at h
   rw [List.getElem?_append_right (by rw [znm,← zez];omega),znm,← zez]
   exact z4n q ks _ v h
end
end Xr

set_option linter.unusedVariables false
set_option linter.unusedSimpArgs false
namespace Xr
open Go Go.Ev
section
variable (w : List Int)
abbrev W2z (s:Int×List Int):Int×List Int×List Int:=(s.1,w,s.2)
theorem st2Z (s1 s4:Int) (s):zdv s1 s4 (W3 w s)=(gSt2 (symS (ltT w) (keyT w) id) s1 s4 s).map (omp (W3 w) (Wp2 w)):=by
 obtain ⟨i,j,y⟩:=s
 simp only [zdv,gSt2,symF,zgp,zcu,bind_map,Option.map_some,Option.map_none,omp,id,Wp2,W3]
theorem st1Z (s1:Int) (s):zdz s1 (W2z w s)=(gSt1 (symS (ltT w) (keyT w) id) s1 s).map (omp (W2z w) (Wp2 w)):=by
 obtain ⟨i,y⟩:=s
 simp only [zdz,gSt1,zgp,zcu,Option.map_some,Option.map_none,omp,W2z]
 rw [show iter (zdv s1 i) ((0:Int),w64 (2*i),w,y)=_ from zg2 (f:=W3 w) (st2Z w s1 i) ((0:Int),w64 (2*i),y),bind_map]
 congr 1
 refine bnd fun o=>?_
 cases o with
 | next s=>rfl
 | ret r=>rfl
 | jmp n s =>
  simp only [omp,W3,symF,zgp,zcu,bind_map,Option.map_some,Option.map_none,Wp2,W2z]
theorem st0Z (s1 s4:Int) (s):zdu s1 s4 (W3 w s)=(gSt0 (ltT w) s1 s4 s).map (omp (W3 w) (Wp2 w)):=by
 obtain ⟨i,j,y⟩:=s
 simp only [zdu,gSt0,insZ,zgp,zcu,bind_map,Option.map_some,Option.map_none,omp,id,Wp2,W3]
theorem stabZ (x1:Int) (y:List Int):zfb x1 w y=(gStab (ltT w) (symS (ltT w) (keyT w) id) x1 y).map (Wp2 w):=by
 unfold zfb gStab
 rw [show iter (zdu x1 20) ((0:Int),(20:Int),w,y)=_ from zg2 (f:=W3 w) (st0Z w x1 20) ((0:Int),(20:Int),y),bind_map,zcu]
 refine bnd fun o=>?_
 cases o with
 | next s=>rfl
 | ret r=>rfl
 | jmp n s =>
  simp only [omp,W3,insZ,bind_map,zcu,Wp2,zgp,Option.map_none]
  refine bnd fun z=>?_
  split
  ·rw [show iter (zdz x1) ((20:Int),w,z)=_ from zg2 (f:=W2z w) (st1Z w x1) ((20:Int),z),bind_map]
   exact bnd fun o=>by cases o<;>rfl
  ·rfl
end
def zl8 (w:List Int) (i j:Nat):Prop:=w.getD j 0<w.getD i 0∨(w.getD i 0=w.getD j 0∧i<j)
theorem z9h {w:List Int} (hN:w.length<2 ^ 20) (hw:∀ v∈w,0≤v∧v<2 ^ 40):∃ od:List Nat,zew ((List.range w.length).map fun (k:Nat)=>(k:Int)) w=some (od.map (fun (k:Nat)=>(k:Int)),w)∧od.Perm (List.range w.length)∧od.Pairwise (zl8 w):=by
 unfold zew
 by_cases h2:((List.range w.length).map fun (k:Nat)=>(k:Int)).length<2
 ·rw [if_pos h2]
  rw [List.length_map,List.length_range] at h2
  refine ⟨List.range w.length,rfl,List.Perm.refl _, ?_⟩
  rw [List.pairwise_iff_getElem]
  intro i j hi hj hij
  rw [List.length_range] at hi hj
  omega
 ·rw [if_neg h2]
  have hlen:((List.range w.length).map fun (k:Nat)=>(k:Int)).length=w.length:=by simp
  have hget:∀ i:Nat,i<w.length→rd w (i:Int)=some (w.getD i 0):=fun i hi=>by
   rw [zb2,List.getElem?_eq_getElem hi,List.getD_eq_getElem?_getD,List.getElem?_eq_getElem hi];rfl
  have hwb:∀ i:Nat,i<w.length→0≤w.getD i 0∧w.getD i 0<2 ^ 40:=fun i hi=>by
   rw [List.getD_eq_getElem?_getD,List.getElem?_eq_getElem hi]
   exact hw _ (List.getElem_mem hi)
  have hmem:∀ x∈(List.range w.length).map (fun (k:Nat)=>(k:Int)),∃ i:Nat,x=i∧i<w.length:=fun x hx=>by
   obtain ⟨i,hi,rfl⟩:=List.mem_map.1 hx
   exact ⟨i,rfl,List.mem_range.1 hi⟩
  have hkey:∀ i:Nat,keyT w (i:Int)=(i:Int) - w.getD i 0*1099511627776:=fun i=>by unfold keyT;rw [Int.toNat_natCast]
  obtain ⟨t,ht,hs,ha⟩:=z61 (lt:=ltT w) (key:=keyT w) (rk:=id) (l:=(List.range w.length).map fun (k:Nat)=>(k:Int)) (by
   intro x hx z hz hlt
   obtain ⟨i,rfl,hi⟩:=hmem x hx
   obtain ⟨j,rfl,hj⟩:=hmem z hz
   refine ⟨_,by unfold ltT;rw [hget i hi,hget j hj];rfl, ?_⟩
   have:=hwb i hi;have:=hwb j hj
   rw [decide_eq_true_eq,hkey,hkey]
   simp only [id] at hlt
   omega) (by
   intro x hx z hz e
   obtain ⟨i,rfl,hi⟩:=hmem x hx
   obtain ⟨j,rfl,hj⟩:=hmem z hz
   have:=hwb i hi;have:=hwb j hj
   rw [hkey,hkey] at e
   omega) (by
   intro i j h0 hij hj
   rw [hlen] at hj
   rw [zbq (x:=(i:Int)) (by rw [List.getElem?_map,List.getElem?_range (by omega)];rfl),zbq (x:=(j:Int)) (by rw [List.getElem?_map,List.getElem?_range hj];rfl)]
   simp only [id];omega) (by rw [hlen];omega)
  have hp:=hs.perm
  have hm:∀ x∈t,∃ i:Nat,x=i∧i<w.length:=fun x hx=>hmem x (hp.mem_iff.1 hx)
  have e0:(t.map Int.toNat).map (fun (k:Nat)=>(k:Int))=t:=by
   rw [List.map_map]
   refine (List.map_congr_left (fun v hv=>?_)).trans (List.map_id _)
   obtain ⟨i,rfl,_⟩:=hm v hv
   simp [Function.comp]
  refine ⟨t.map Int.toNat, ?_, ?_, ?_⟩
  ·rw [e0]
   unfold zgz
   rw [if_pos (by omega),hlen,stabZ]
   rw [hlen] at ht
   rw [ht]
   simp only [Option.map_some,Option.bind_some,Wp2]
   rw [if_pos (by rw [hp.length_eq,hlen])]
  ·have:=hp.map Int.toNat
   rw [List.map_map] at this
   refine this.trans (List.Perm.of_eq ?_)
   refine (List.map_congr_left (fun v _=>by simp [Function.comp])).trans (List.map_id _)
  ·rw [List.pairwise_iff_getElem]
   intro i j hi hj hij
   rw [List.length_map] at hi hj
   have hl:t.length=w.length:=by rw [hp.length_eq,hlen]
   have g:=ha i j (Nat.zero_le _) hij (by omega)
   obtain ⟨x,ex,hx⟩:=hm t[i] (List.getElem_mem hi)
   obtain ⟨y,ey,hy⟩:=hm t[j] (List.getElem_mem hj)
   rw [zbq (List.getElem?_eq_getElem hi),zbq (List.getElem?_eq_getElem hj),ex,ey,hkey,hkey] at g
   rw [List.getElem_map,List.getElem_map,ex,ey,Int.toNat_natCast,Int.toNat_natCast]
   have hne:x≠y:=by
    intro e
    have hnd:((List.range w.length).map fun (k:Nat)=>(k:Int)).Nodup:=by
     rw [List.Nodup,List.pairwise_map]
     exact List.Pairwise.imp (fun h e=>h (by omega)) List.nodup_range
    have htn:=hp.nodup_iff.2 hnd
    have:=List.pairwise_iff_getElem.1 htn i j hi hj hij
    rw [ex,ey,e] at this
    exact this rfl
   have:=hwb x hx;have:=hwb y hy
   unfold zl8
   omega
end Xr

set_option linter.unusedVariables false
set_option linter.unusedSimpArgs false
namespace Xr
open Go Go.Ev
def szn (L:List Node) (i:Nat):Nat:=size (nodeL L (i:Int))
def SameT (L R:List Node) (i k:Nat):Prop:=barV (nodeL L (i:Int))=barV (nodeL R (k:Int))
theorem zyb {L R:List Node}{i k:Nat} (h:SameT L R i k):szn L i=szn R k:=ztl h
def Lam (L:List Node):Prop:=∀ i k,i<L.length→i≤k→k<i+szn L i→k+szn L k≤i+szn L i
theorem zxk (n:Node):Lam (subs n):=by
 intro i k hi hik hk
 have e:=List.getElem?_eq_getElem hi
 have hs:=zsx e
 unfold szn at *
 rw [ziu e] at *
 have e1:=zv5 n i _ e (k - i) (by omega)
 rw [show i+(k - i)=k from by omega] at e1
 have hlt:k - i<(subs (subs n)[i]).length:=by rw [zez];omega
 have e2:=List.getElem?_eq_getElem hlt
 have hf:=zsx e2
 rw [e2] at e1
 rw [ziu e1,zez] at *
 omega
theorem zlj {u:List Bool}{i:Nat}:∀ s,(mrk u i s).length=u.length
 | 0=>rfl
 | s+1=>by simp only [mrk,List.length_set,zlj s]
theorem zph {u:List Bool}{i:Nat}:∀ {s:Nat},i+s≤u.length→∀ j,(mrk u i s).getD j false=true↔(u.getD j false=true∨(i≤j∧j<i+s))
 | 0,h,j=>by
  simp only [mrk]
  exact ⟨fun h=>Or.inl h,fun h=>by rcases h with h | h;exact h;omega⟩
 | s+1,h,j=>by
  simp only [mrk]
  rw [List.getD_eq_getElem?_getD]
  by_cases hj:i+s=j
  ·subst hj
   rw [List.getElem?_set_self (by rw [zlj];omega)]
   simp only [Option.getD_some,true_iff]
   right;omega
  ·rw [List.getElem?_set_ne hj,← List.getD_eq_getElem?_getD,zph (by omega) j]
   constructor
   ·rintro (h | h);exact Or.inl h;right;omega
   ·rintro (h | h);exact Or.inl h;right;omega
def Dj (L:List Node) (p q:Nat×Nat):Prop:=(p.1+szn L p.1≤q.1∨q.1+szn L q.1≤p.1)∧(p.2+szn L p.1≤q.2∨q.2+szn L q.1≤p.2)
def prOf (q:Nat×Nat):Pair:=⟨(q.1:Int),(q.2:Int)⟩
structure TwI (L R:List Node) (P:List Nat) (t:Tw) (o:List (Nat×Nat)):Prop where
 out:t.out=o.map prOf
 la:t.ua.length=L.length
 lb:t.ub.length=R.length
 ma:∀ j,t.ua.getD j false=true↔∃ q∈o,q.1≤j∧j<q.1+szn L q.1
 mb:∀ j,t.ub.getD j false=true↔∃ q∈o,q.2≤j∧j<q.2+szn L q.1
 prs:∀ q∈o,q.1∈P∧q.1<L.length∧q.2<R.length∧SameT L R q.1 q.2
 dis:o.Pairwise (Dj L)
 max:∀ i∈P,∀ k,k<R.length→SameT L R i k→t.ua.getD i false=true∨t.ub.getD k false=true
structure TwC (L R:List Node) (hx hy:List Int):Prop where
 lamL:Lam L
 lamR:Lam R
 fitL:∀ i,i<L.length→i+szn L i≤L.length
 fitR:∀ k,k<R.length→k+szn R k≤R.length
 hash:∀ i k,i<L.length→k<R.length→SameT L R i k→hy.getD k 0=hx.getD i 0
 pos:∀ i,0<szn L i
open Classical in
theorem zww {L R:List Node}{hx hy:List Int} (hC:TwC L R hx hy) {t:Tw}{i:Nat} (hi:i<L.length):zpa L R hx hy t i=(List.range R.length).find? fun k=>!(t.ub.getD k false) && decide (SameT L R i k):=by
 unfold zpa
 have key:∀ (l:List Nat),(∀ k∈l,k<R.length)→l.find? (fun k=>decide (hy.getD k 0=hx.getD i 0) && (!(t.ub.getD k false) && decide (barV (nodeL L (i:Int))=barV (nodeL R (k:Int)))))=l.find? fun k=>!(t.ub.getD k false) && decide (SameT L R i k):=by
  intro l hl
  induction l with
  | nil=>rfl
  | cons k l ih =>
   rw [List.find?_cons,List.find?_cons,ih (fun k hk=>hl k (List.mem_cons_of_mem _ hk))]
   have hk:=hl k List.mem_cons_self
   by_cases hS:SameT L R i k
   ·have h1:=hC.hash i k hi hk hS
    have h2:barV (nodeL L (i:Int))=barV (nodeL R (k:Int)):=hS
    rw [decide_eq_true h1,decide_eq_true h2,decide_eq_true hS,Bool.true_and]
   ·have h2:¬ barV (nodeL L (i:Int))=barV (nodeL R (k:Int)):=hS
    rw [decide_eq_false h2,decide_eq_false hS,Bool.and_false,Bool.and_false]
 exact key _ (fun k hk=>List.mem_range.1 hk)
open Classical in
theorem z3i {L R:List Node}{hx hy:List Int} (hC:TwC L R hx hy) {P:List Nat}{t:Tw}{o:List (Nat×Nat)} (hI:TwI L R P t o) {i:Nat} (hi:i<L.length) (hP:∀ j∈P,szn L i≤szn L j) :
  (t.ua.getD i false=true∧zg4 L R hx hy t i=t∧TwI L R (P++[i]) t o) ∨
  (t.ua.getD i false=false∧(∀ k,k<R.length→SameT L R i k→t.ub.getD k false=true)∧zg4 L R hx hy t i=t∧TwI L R (P++[i]) t o) ∨
  (t.ua.getD i false=false∧∃ k,k<R.length∧SameT L R i k∧t.ub.getD k false=false∧(∀ k',k'<k→SameT L R i k'→t.ub.getD k' false=true)∧(zg4 L R hx hy t i).out=(o++[(i,k)]).map prOf∧TwI L R (P++[i]) (zg4 L R hx hy t i) (o++[(i,k)])):=by
 have more:∀ {q:Nat},q∈P→q∈P++[i]:=fun h=>List.mem_append_left _ h
 by_cases hu:t.ua.getD i false=true
 ·left
  refine ⟨hu,by unfold zg4;rw [if_pos hu],⟨hI.out,hI.la,hI.lb,hI.ma,hI.mb,fun q hq=>⟨more (hI.prs q hq).1,(hI.prs q hq).2⟩,hI.dis,fun j hj k hk hS=>?_⟩⟩
  rcases List.mem_append.1 hj with hj | hj
  ·exact hI.max j hj k hk hS
  ·obtain rfl:j=i:=by simpa using hj
   exact Or.inl hu
 ·right
  have hst:zg4 L R hx hy t i=match zpa L R hx hy t i with | none=>t | some k=>⟨mrk t.ua i (size (nodeL L (i:Int))),mrk t.ub k (size (nodeL L (i:Int))),t.out++[⟨(i:Int),(k:Int)⟩]⟩:=by
   unfold zg4;rw [if_neg hu];cases zpa L R hx hy t i<;>rfl
  rw [zww hC hi] at hst
  have hu':t.ua.getD i false=false:=by simpa using hu
  cases hf:(List.range R.length).find? (fun k=>open Classical in !(t.ub.getD k false) && decide (SameT L R i k)) with
  | none =>
   left
   rw [hf] at hst
   have hno:∀ k,k<R.length→SameT L R i k→t.ub.getD k false=true:=by
    intro k hk hS
    rw [List.find?_eq_none] at hf
    have:=hf k (List.mem_range.2 hk)
    rw [open Classical in decide_eq_true hS] at this
    simpa using this
   refine ⟨hu',hno,hst,⟨hI.out,hI.la,hI.lb,hI.ma,hI.mb,fun q hq=>⟨more (hI.prs q hq).1,(hI.prs q hq).2⟩,hI.dis,fun j hj k hk hS=>?_⟩⟩
   rcases List.mem_append.1 hj with hj | hj
   ·exact hI.max j hj k hk hS
   ·obtain rfl:j=i:=by simpa using hj
    exact Or.inr (hno k hk hS)
  | some k =>
   right
   rw [hf] at hst
   have hkM:k<R.length:=List.mem_range.1 (List.mem_of_find?_eq_some hf)
   have hb:=List.find?_some hf
   rw [Bool.and_eq_true] at hb
   obtain ⟨hb1,hb2⟩:=hb
   have hS:SameT L R i k:=of_decide_eq_true hb2
   have hub:t.ub.getD k false=false:=by simpa using hb1
   have hfirst:∀ k',k'<k→SameT L R i k'→t.ub.getD k' false=true:=by
    intro k' hk' hS'
    rw [List.find?_range_eq_some] at hf
    have:=hf.2.2 k' hk'
    rw [open Classical in decide_eq_true hS'] at this
    simpa using this
   have hsk:=zyb hS
   have hfi:=hC.fitL i hi
   have hfk:=hC.fitR k hkM
   rw [← hsk] at hfk
   have hpi:=hC.pos i
   have hout:(zg4 L R hx hy t i).out=(o++[(i,k)]).map prOf:=by
    rw [hst]
    simp only [List.map_append,List.map_cons,List.map_nil,hI.out]
    rfl
   refine ⟨hu',k,hkM,hS,hub,hfirst,hout,⟨hout, ?_, ?_,fun j=>?_,fun j=>?_,fun q hq=>?_, ?_,fun j hj k' hk' hS'=>?_⟩⟩
   ·rw [hst];simp only [zlj];exact hI.la
   ·rw [hst];simp only [zlj];exact hI.lb
   ·rw [hst]
    simp only
    rw [show size (nodeL L (i:Int))=szn L i from rfl,zph (by rw [hI.la];exact hfi) j,hI.ma j]
    constructor
    ·rintro (⟨q,hq,h⟩ | h)
     ·exact ⟨q,List.mem_append_left _ hq,h⟩
     ·exact ⟨(i,k),List.mem_append_right _ (by simp),h⟩
    ·rintro ⟨q,hq,h⟩
     rcases List.mem_append.1 hq with hq | hq
     ·exact Or.inl ⟨q,hq,h⟩
     ·obtain rfl:q=(i,k):=by simpa using hq
      exact Or.inr h
   ·rw [hst]
    simp only
    rw [show size (nodeL L (i:Int))=szn L i from rfl,zph (by rw [hI.lb];exact hfk) j,hI.mb j]
    constructor
    ·rintro (⟨q,hq,h⟩ | h)
     ·exact ⟨q,List.mem_append_left _ hq,h⟩
     ·exact ⟨(i,k),List.mem_append_right _ (by simp),h⟩
    ·rintro ⟨q,hq,h⟩
     rcases List.mem_append.1 hq with hq | hq
     ·exact Or.inl ⟨q,hq,h⟩
     ·obtain rfl:q=(i,k):=by simpa using hq
      exact Or.inr h
   ·rcases List.mem_append.1 hq with hq | hq
    ·exact ⟨more (hI.prs q hq).1,(hI.prs q hq).2⟩
    ·obtain rfl:q=(i,k):=by simpa using hq
     exact ⟨by simp,hi,hkM,hS⟩
   ·rw [List.pairwise_append]
    refine ⟨hI.dis,List.pairwise_singleton _ _,fun p hp q hq=>?_⟩
    obtain rfl:q=(i,k):=by simpa using hq
    obtain ⟨p1,p2,p3,p4⟩:=hI.prs p hp
    have hsp:=hP p.1 p1
    have hps:=zyb p4
    have na:¬ (p.1≤i∧i<p.1+szn L p.1):=fun h=>hu ((hI.ma i).2 ⟨p,hp,h⟩)
    have nb:¬ (p.2≤k∧k<p.2+szn L p.1):=fun h=>by
     have:=(hI.mb k).2 ⟨p,hp,h⟩
     rw [hub] at this;cases this
    have hpp:=hC.pos p.1
    have l1:=hC.lamL i p.1 hi
    have l2:=hC.lamR k p.2 hkM
    rw [← hsk,← hps] at l2
    constructor
    ·show p.1+szn L p.1≤i∨i+szn L i≤p.1
     omega
    ·show p.2+szn L p.1≤k∨k+szn L i≤p.2
     omega
   ·have hold:j∈P→t.ua.getD j false=true∨t.ub.getD k' false=true:=fun hj=>hI.max j hj k' hk' hS'
    rw [hst]
    simp only
    rw [show size (nodeL L (i:Int))=szn L i from rfl,zph (by rw [hI.la];exact hfi) j,zph (by rw [hI.lb];exact hfk) k']
    rcases List.mem_append.1 hj with hj | hj
    ·rcases hold hj with h | h
     ·exact Or.inl (Or.inl h)
     ·exact Or.inr (Or.inl h)
    ·obtain rfl:j=i:=by simpa using hj
     exact Or.inl (Or.inr ⟨Nat.le_refl _,by omega⟩)
theorem z35 (L R:List Node):TwI L R [] ⟨List.replicate L.length false,List.replicate R.length false,[]⟩ []:=by
 have rep:∀ n j,¬ (List.replicate n false).getD j false=true:=by
  intro n j
  rw [List.getD_eq_getElem?_getD,List.getElem?_replicate]
  split<;>simp
 refine ⟨rfl,by simp,by simp,fun j=>⟨fun h=>absurd h (rep _ _),fun h=>?_⟩,fun j=>⟨fun h=>absurd h (rep _ _),fun h=>?_⟩,fun q hq=>(by cases hq),List.Pairwise.nil,fun i hi=>(by cases hi)⟩
 ·obtain ⟨q,hq,_⟩:=h;cases hq
 ·obtain ⟨q,hq,_⟩:=h;cases hq
theorem yak {L R:List Node}{hx hy:List Int} (hC:TwC L R hx hy):∀ (l:List Nat) (P:List Nat) (t:Tw) (o:List (Nat×Nat)),TwI L R P t o→(∀ i∈l,i<L.length)→(∀ i∈l,∀ j∈P,szn L i≤szn L j)→l.Pairwise (fun i j=>szn L j≤szn L i) →
  ∃ o',TwI L R (P++l) (l.foldl (zg4 L R hx hy) t) o'∧o'.length≤o.length+l.length
 | [],P,t,o,hI,_,_,_=>⟨o,by rw [List.append_nil];exact hI,Nat.le_refl _⟩
 | i :: l,P,t,o,hI,h1,h2,h3=>by
  obtain ⟨h4,h5⟩:=List.pairwise_cons.1 h3
  have hnext:∃ o2,TwI L R (P++[i]) (zg4 L R hx hy t i) o2∧o2.length≤o.length+1:=by
   rcases z3i hC hI (h1 i List.mem_cons_self) (h2 i List.mem_cons_self) with ⟨_,e,h⟩ | ⟨_,_,e,h⟩ | ⟨_,k,_,_,_,_,_,h⟩
   ·rw [e];exact ⟨o,h,by omega⟩
   ·rw [e];exact ⟨o,h,by omega⟩
   ·exact ⟨_,h,by simp⟩
  obtain ⟨o2,h,hl⟩:=hnext
  obtain ⟨o',h',hl'⟩:=yak hC l (P++[i]) _ o2 h (fun j hj=>h1 j (List.mem_cons_of_mem _ hj)) (fun j hj q hq=>by
   rcases List.mem_append.1 hq with hq | hq
   ·exact h2 j (List.mem_cons_of_mem _ hj) q hq
   ·obtain rfl:q=i:=by simpa using hq
    exact h4 j hj) h5
  refine ⟨o', ?_,by rw [List.length_cons];omega⟩
  rw [List.foldl_cons]
  rw [List.append_assoc] at h'
  exact h'
end Xr

set_option linter.unusedVariables false
set_option linter.unusedSimpArgs false
namespace Xr
open Go Go.Ev
theorem z42 {l:List Pair} (hl:l.length<65536) (hn:(l.map (·.Old)).Nodup):∃ t,zhf l=some t∧t.Perm l∧t.Pairwise (fun x y=>x.Old<y.Old):=by
 unfold zhf
 by_cases h2:l.length<2
 ·rw [if_pos h2]
  refine ⟨l,rfl,List.Perm.refl _, ?_⟩
  match l,h2 with
  | [],_=>exact List.Pairwise.nil
  | [x],_=>exact List.pairwise_singleton _ _
  | _ :: _ :: _,h=>simp at h;omega
 ·rw [if_neg h2]
  unfold zlo
  rw [if_pos (by omega)]
  obtain ⟨k,hk⟩:=z8d l.length hl
  have hw:IntKind.wrap .u64 (l.length:Int)=l.length:=zo7 (by omega) (by omega)
  rw [hw,hk,Option.bind_some]
  have keyed:Keyed cmpT (·.Old) l:=by
   intro x hx y hy
   refine ⟨_,rfl, ?_⟩
   rw [zhw]
   unfold lessV
   simp
  obtain ⟨t,ht,hp,hs⟩:=z8a (p:=cmpT) (key:=(·.Old)) keyed hn hl k
  unfold pdqF
  rw [ht,Option.bind_some,if_pos hp.length_eq]
  exact ⟨t,rfl,hp,hs⟩
theorem z0a {a b:Node}{i k:Nat} (hi:i<size a) (hk:k<size b) (h:SameT (subs a) (subs b) i k):(hsP (bareQ false) b).getD k 0=(hsP (bareQ false) a).getD i 0:=by
 obtain ⟨x,hx⟩:∃ x,(subs a)[i]?=some x:=⟨_,List.getElem?_eq_getElem (by rw [zez];exact hi)⟩
 obtain ⟨y,hy⟩:∃ y,(subs b)[k]?=some y:=⟨_,List.getElem?_eq_getElem (by rw [zez];exact hk)⟩
 have e:barV x=barV y:=by
  unfold SameT at h
  rwa [ziu hx,ziu hy] at h
 rw [List.getD_eq_getElem?_getD,List.getD_eq_getElem?_getD,zwe _ a i x hx,zwe _ b k y hy,← zr2,← e,zr2]
theorem zwx (L:List Node) (i:Nat):0<szn L i:=zmx _
theorem z4r (a b:Node):TwC (subs a) (subs b) (hsP (bareQ false) a) (hsP (bareQ false) b) :=
 ⟨zxk a,zxk b,zk0 a,zk0 b,fun i k hi hk h=>z0a (by rw [← zez];exact hi) (by rw [← zez];exact hk) h,zwx _⟩
theorem zk7 (L:List Node):(szL L).length=L.length:=by unfold szL;rw [List.length_map]
theorem zjz {L:List Node}{i:Nat} (h:i<L.length):(szL L).getD i 0=(szn L i:Int):=by
 have e:=List.getElem?_eq_getElem h
 rw [List.getD_eq_getElem?_getD]
 unfold szL szn
 rw [List.getElem?_map,e,ziu e]
 rfl
theorem z6v {a b:Node} (ha:size a<2 ^ 15) (hb:size b<2 ^ 15) (hwa:zho a<2 ^ 40) (hwb:zho b<2 ^ 40):∃ r o od,zi6 a b=some r∧od.Perm (List.range (size a))∧od.Pairwise (zl8 (szL (subs a))) ∧
  TwI (subs a) (subs b) od (twAll (subs a) (subs b) (hsP (bareQ false) a) (hsP (bareQ false) b) od) o∧r.Perm (o.map prOf)∧r.Pairwise (fun x y=>x.Old<y.Old):=by
 have hN:=zez a
 have hM:=zez b
 obtain ⟨od,h1,h2,h3⟩:=z9h (w:=szL (subs a)) (by rw [zk7,hN];omega) (fun v hv=>by
  unfold szL at hv
  obtain ⟨x,hx,rfl⟩:=List.mem_map.1 hv
  obtain ⟨i,hi⟩:=List.mem_iff_getElem?.1 hx
  have:=znh a i x hi
  omega)
 rw [zk7,hN] at h1 h2
 have hmem:∀ i∈od,i<(subs a).length:=fun i hi=>by rw [hN];exact List.mem_range.1 (h2.mem_iff.1 hi)
 obtain ⟨o,h4,h5⟩:=yak (z4r a b) od [] _ [] (z35 _ _) hmem (fun i _ j hj=>by cases hj) (List.Pairwise.imp_of_mem (fun {i j} hi hj hB=>by
  unfold zl8 at hB
  rw [zjz (hmem i hi),zjz (hmem j hj)] at hB
  omega) h3)
 rw [List.nil_append] at h4
 have hol:od.length=size a:=by rw [h2.length_eq,List.length_range]
 have hlen:(o.map prOf).length<65536:=by rw [List.length_map];simp only [List.length_nil] at h5;omega
 have hnd:((o.map prOf).map (·.Old)).Nodup:=by
  rw [List.map_map,List.Nodup,List.pairwise_map]
  refine List.Pairwise.imp_of_mem (fun {p q} hp hq hD=>?_) h4.dis
  have p1:=zwx (subs a) p.1
  have p2:=zwx (subs a) q.1
  unfold Dj at hD
  simp only [Function.comp,prOf]
  omega
 obtain ⟨r,hr,hp,hs⟩:=z42 hlen hnd
 refine ⟨r,o,od, ?_,h2,h3,h4,hp,hs⟩
 unfold zi6
 rw [zw3 (by omega) hwa,zw3 (by omega) hwb]
 simp only [Option.bind_some]
 rw [if_pos ⟨by omega,by omega,znm _ _,znm _ _⟩,h1,Option.bind_some]
 simp only []
 rw [if_pos ⟨trivial,by rw [List.length_map,hol],fun v hv=>by
  obtain ⟨i,hi,rfl⟩:=List.mem_map.1 hv
  have:=hmem i hi
  omega⟩]
 have e:(od.map fun (k:Nat)=>(k:Int)).map Int.toNat=od:=by
  rw [List.map_map]
  exact (List.map_congr_left (fun v _=>by simp [Function.comp])).trans (List.map_id _)
 rw [e,show (twAll (subs a) (subs b) (hsP (bareQ false) a) (hsP (bareQ false) b) od).out=o.map prOf from h4.out]
 exact hr
end Xr

set_option linter.unusedVariables false
set_option linter.unusedSimpArgs false
namespace Xr
open Go Go.Ev
theorem in_eq {x r s:Int} (h0:0≤r) (h1:r<2 ^ 40) (h2:0≤s) (h3:s<2 ^ 40):zn9 x r s=some (decide (r≤x∧x<r+s)):=by
 unfold zn9
 rw [zdn (by omega) (by omega)]
 by_cases h:r≤x
 ·rw [if_pos h];simp [h]
 ·rw [if_neg h];simp [h]
theorem yds {L:List Node} (hL:L.length<2 ^ 20) (hLs:∀ (k:Nat) v,L[k]?=some v→size v<2 ^ 40):zj8 L=some (szL L):=by
 unfold zj8
 have h1:=zj2 (step:=zhl L) (fun i=>((i:Int),(szL L).take i)) L.length (fun i hi=>by
  obtain ⟨v,hv⟩:∃ v,L[i]?=some v:=⟨_,List.getElem?_eq_getElem hi⟩
  have hs:(szL L)[i]?=some (size v:Int):=by unfold szL;rw [List.getElem?_map,hv];rfl
  have hl:=zk7 L
  simp only [zhl,zb2,hv,Option.bind_some,zgk,if_pos (hLs i v hv),zbb (show i<2 ^ 62 by omega)]
  rw [if_pos (by omega),if_pos (by rw [List.length_take];omega),List.take_add_one,hs]
  rfl)
 have e0:(((0:Nat):Int),(szL L).take 0)=((0:Int),([]:List Int)):=by simp
 rw [← e0,h1,zau (n:=0) (s':=((L.length:Int),szL L))]
 ·rfl
 ·simp only [zhl]
  rw [if_neg (by omega),← zk7 L,List.take_length]
theorem z51 {n:Node} (h:size n<2 ^ 20):zkf n=some (subs n):=by
 unfold zkf zfe
 rw [if_pos (by simp only [List.length_nil];omega)]
 rfl
open Classical in
theorem z5z {x y:Node} (h:size x<2 ^ 40) {b:Bool} (hb:b=true↔barV x=barV y):zgd x y=some b:=by
 unfold zgd
 rw [if_pos h]
 congr 1
 rw [Bool.eq_iff_iff,hb]
 exact decide_eq_true_iff
theorem z1y {L:List Node}{r:List Pair} (hL:L.length<2 ^ 20) (hLs:∀ i,szn L i<2 ^ 20) (hr:r.length<2 ^ 20) (hp:∀ p∈r,∃ i k:Nat,p=prOf (i,k)∧i<L.length∧k<2 ^ 20) (x:Nat) (old:Bool) :
  ∃ b,zjp r (szL L) (x:Int) old=some b∧(b=true↔∀ i k:Nat,prOf (i,k)∈r→¬ ((if old then i else k)≤x∧x<(if old then i else k)+szn L i)):=by
 have key:∀ (l:List Pair) (j:Nat),r.drop j=l→j≤r.length→∃ b,(iter (zhd r (szL L) (x:Int) old) (j:Int)).bind (fun
  | .jmp _ s9_24=>some true
  | .ret r25=>some r25
  | .next _=>none)=some b∧(b=true↔∀ i k:Nat,prOf (i,k)∈l→¬ ((if old then i else k)≤x∧x<(if old then i else k)+szn L i)):=by
  intro l
  induction l with
  | nil =>
   intro j hl hj
   obtain rfl:=zig hl hj
   refine ⟨true, ?_,by simp⟩
   rw [zau (n:=0) (s':=(r.length:Int))]
   ·rfl
   ·simp only [zhd];rw [if_neg (by omega)]
  | cons p l ih =>
   intro j hl hj
   obtain ⟨hp1,hl',hj'⟩:=zg5 hl
   obtain ⟨i,k,rfl,hi,hk⟩:=hp p (List.mem_of_getElem? hp1)
   obtain ⟨b,hb,hb2⟩:=ih (j+1) hl' (by omega)
   have hsz:rd (szL L) (i:Int)=some (szn L i:Int):=by
    rw [zb2,List.getElem?_eq_getElem (by rw [zk7];exact hi)]
    have:=zjz hi
    rw [List.getD_eq_getElem?_getD,List.getElem?_eq_getElem (by rw [zk7];exact hi)] at this
    exact congrArg some this
   have hs:=hLs i
   have hin:∀ q:Nat,q<2 ^ 20→zn9 (x:Int) (q:Int) (szn L i:Int)=some (decide (q≤x∧x<q+szn L i)):=fun q hq=>by
    rw [in_eq (by omega) (by omega) (by omega) (by omega)]
    congr 1
    rw [Bool.eq_iff_iff,decide_eq_true_iff,decide_eq_true_iff];omega
   have hstep:zhd r (szL L) (x:Int) old (j:Int)=if decide ((if old then i else k)≤x∧x<(if old then i else k)+szn L i)=true then some (.ret false) else some (.next ((j+1:Nat):Int)):=by
    simp only [zhd,zb2,hp1,Option.bind_some,zbb (show j<2 ^ 62 by omega)]
    rw [if_pos (by omega)]
    cases old with
    | true=>simp only [prOf,hsz,Option.bind_some,if_true,hin i (by omega)]
    | false=>simp only [prOf,hsz,Option.bind_some,Bool.false_eq_true,if_false,hin k hk]
   by_cases hc:(if old then i else k)≤x∧x<(if old then i else k)+szn L i
   ·rw [if_pos (decide_eq_true hc)] at hstep
    refine ⟨false,by rw [zj0 hstep];rfl, ?_⟩
    simp only [Bool.false_eq_true,false_iff]
    intro h
    exact h i k List.mem_cons_self hc
   ·rw [if_neg (by simpa using hc)] at hstep
    refine ⟨b,by rw [zat hstep];exact hb, ?_⟩
    rw [hb2]
    constructor
    ·intro h i' k' hm
     rcases List.mem_cons.1 hm with e | hm
     ·have e1:i'=i:=by have:=congrArg Pair.Old e;simp only [prOf] at this;omega
      have e2:k'=k:=by have:=congrArg Pair.New e;simp only [prOf] at this;omega
      rw [e1,e2];exact hc
     ·exact h i' k' hm
    ·intro h i' k' hm
     exact h i' k' (List.mem_cons_of_mem _ hm)
 exact key r 0 rfl (Nat.zero_le _)
theorem zzg (l:List Pair) (h:l.length<2 ^ 40):zgv l l=some true:=by
 unfold zgv
 rw [if_pos rfl]
 have h1:=zj2 (step:=zfk l l) (fun i=>(i:Int)) l.length (fun i hi=>by
  obtain ⟨v,hv⟩:∃ v,l[i]?=some v:=⟨_,List.getElem?_eq_getElem hi⟩
  simp only [zfk,zb2,hv,Option.bind_some,zbb (show i<2 ^ 62 by omega)]
  rw [if_pos (by omega)]
  simp)
 rw [show (0:Int)=((0:Nat):Int) from rfl,h1,zau (n:=0) (s':=(l.length:Int))]
 ·rfl
 ·simp only [zfk];rw [if_neg (by omega)]
theorem Dj.symm {L:List Node}{p q:Nat×Nat} (h:Dj L p q):Dj L q p:=⟨h.1.symm,h.2.symm⟩
theorem z6e {p q:Nat×Nat} (h:prOf p=prOf q):p=q:=by
 have h1:=congrArg Pair.Old h
 have h2:=congrArg Pair.New h
 simp only [prOf] at h1 h2
 exact Prod.ext (by omega) (by omega)
theorem ydo {N:Nat}{r:List Pair} (hs:r.Pairwise fun x y=>x.Old<y.Old) (h0:∀ p∈r,0≤p.Old∧p.Old<(N:Int)):r.length≤N:=by
 have hl:∀ (l:List Pair) (n:Nat),l.Pairwise (fun x y=>x.Old<y.Old)→(∀ p∈l,(n:Int)≤p.Old)→(∀ p∈l,p.Old<(N:Int))→l≠[]→n+l.length≤N:=by
  intro l
  induction l with
  | nil=>intro n _ _ _ h;exact absurd rfl h
  | cons p l ih =>
   intro n hp h1 h2 _
   obtain ⟨g1,g2⟩:=List.pairwise_cons.1 hp
   have a1:=h1 p List.mem_cons_self
   have a2:=h2 p List.mem_cons_self
   cases hl0:l with
   | nil=>simp only [List.length_cons,List.length_nil];omega
   | cons q l' =>
    have:=ih (n+1) g2 (fun q hq=>by have:=g1 q hq;omega) (fun q hq=>h2 q (List.mem_cons_of_mem _ hq)) (by rw [hl0];simp)
    rw [hl0] at this
    simp only [List.length_cons] at this ⊢
    omega
 by_cases hr0:r=[]
 ·rw [hr0];simp
 ·have:=hl r 0 hs (fun p hp=>by have:=h0 p hp;omega) (fun p hp=>(h0 p hp).2) hr0
  omega
end Xr

set_option linter.unusedVariables false
set_option linter.unusedSimpArgs false
namespace Xr
open Go Go.Ev
def insL (p:Pair):List Pair→List Pair
 | []=>[p]
 | x :: l=>if p.Old<x.Old then p :: x :: l else x :: insL p l
theorem znb (p:Pair):∀ l,(insL p l).Perm (p :: l)
 | []=>List.Perm.refl _
 | x :: l=>by
  unfold insL
  split
  ·exact List.Perm.refl _
  ·exact (List.Perm.cons x (znb p l)).trans (List.Perm.swap _ _ _)
theorem zx6 (p:Pair):∀ l:List Pair,l.Pairwise (fun x y=>x.Old<y.Old)→(∀ x∈l,x.Old≠p.Old)→(insL p l).Pairwise (fun x y=>x.Old<y.Old)
 | [],_,_=>List.pairwise_singleton _ _
 | x :: l,h,hn=>by
  obtain ⟨h1,h2⟩:=List.pairwise_cons.1 h
  unfold insL
  split
  ·rename_i hp
   refine List.pairwise_cons.2 ⟨fun y hy=>?_,h⟩
   rcases List.mem_cons.1 hy with rfl | hy
   ·exact hp
   ·have:=h1 y hy;omega
  ·rename_i hp
   refine List.pairwise_cons.2 ⟨fun y hy=>?_,zx6 p l h2 (fun y hy=>hn y (List.mem_cons_of_mem _ hy))⟩
   have:=hn x List.mem_cons_self
   rcases List.mem_cons.1 ((znb p l).mem_iff.1 hy) with rfl | hy
   ·omega
   ·exact h1 y hy
theorem z18 {m:List Pair} (hm:m.length<2 ^ 30) (p:Pair):zi1 m p=some (insL p m):=by
 unfold zi1
 have key:∀ (l:List Pair) (j:Nat) (y:List Pair),m.drop j=l→j≤m.length→y.length=j→(iter (zcy m p.Old p.New) (false,(j:Int),y)).bind (fun
  | .jmp _ (s6_21,s7_21,y1_21) =>
   if s6_21=true then
    some y1_21
   else
    if (y1_21.length+1)*16≤140737488355328 then
     some (y1_21++[p])
    else none
  | _=>none)=some (y++insL p l):=by
  have done:∀ (l:List Pair) (j:Nat) (y:List Pair),m.drop j=l→j≤m.length→y.length=j+1→iter (zcy m p.Old p.New) (true,(j:Int),y)=some (.jmp 0 (true,(m.length:Int),y++l)):=by
   intro l
   induction l with
   | nil =>
    intro j y hl hj hy
    obtain rfl:=zig hl hj
    rw [List.append_nil]
    apply zau
    simp only [zcy];rw [if_neg (by omega)]
   | cons x l ih =>
    intro j y hl hj hy
    obtain ⟨hx,hl',hj'⟩:=zg5 hl
    have hs:zcy m p.Old p.New (true,(j:Int),y)=some (.next (true,((j+1:Nat):Int),y++[x])):=by
     simp only [zcy,zb2,hx,Option.bind_some,if_true,zbb (show j<2 ^ 62 by omega)]
     rw [if_pos (show (j:Int)<(m.length:Int) by omega),if_pos (by omega)]
    rw [zat hs,ih (j+1) _ hl' (by omega) (by simp;omega),List.append_assoc]
    rfl
  intro l
  induction l with
  | nil =>
   intro j y hl hj hy
   obtain rfl:=zig hl hj
   rw [zau (n:=0) (s':=(false,(m.length:Int),y)) (by simp only [zcy];rw [if_neg (by omega)])]
   simp only [Option.bind_some,Bool.false_eq_true,if_false]
   rw [if_pos (by omega)]
   rfl
  | cons x l ih =>
   intro j y hl hj hy
   obtain ⟨hx,hl',hj'⟩:=zg5 hl
   by_cases hp:p.Old<x.Old
   ·have hs:zcy m p.Old p.New (false,(j:Int),y)=some (.next (true,((j+1:Nat):Int),(y++[p])++[x])):=by
     simp only [zcy,zb2,hx,Option.bind_some,Bool.false_eq_true,if_false,zbb (show j<2 ^ 62 by omega)]
     rw [if_pos (show (j:Int)<(m.length:Int) by omega),if_pos hp,if_pos (show (y.length+1)*16≤140737488355328 by omega),if_pos (by simp;omega)]
    rw [zat hs,done l (j+1) _ hl' (by omega) (by simp;omega)]
    simp only [Option.bind_some,if_true,insL,if_pos hp,List.append_assoc]
    rfl
   ·have hs:zcy m p.Old p.New (false,(j:Int),y)=some (.next (false,((j+1:Nat):Int),y++[x])):=by
     simp only [zcy,zb2,hx,Option.bind_some,Bool.false_eq_true,if_false,zbb (show j<2 ^ 62 by omega)]
     rw [if_pos (show (j:Int)<(m.length:Int) by omega),if_neg hp,if_pos (by omega)]
    rw [zat hs,ih (j+1) _ hl' (by omega) (by simp;omega)]
    simp only [insL,if_neg hp,List.append_assoc]
    rfl
 exact key m 0 [] rfl (Nat.zero_le _) rfl
structure RefI (m:List Pair) (o:List (Nat×Nat)):Prop where
 perm:m.Perm (o.map prOf)
 asc:m.Pairwise fun x y=>x.Old<y.Old
theorem RefI.mem {m:List Pair}{o:List (Nat×Nat)} (h:RefI m o) (q:Nat×Nat):prOf q∈m↔q∈o:=by
 rw [h.perm.mem_iff,List.mem_map]
 exact ⟨fun ⟨q',h,e⟩=>by rw [← z6e e];exact h,fun h=>⟨q,h,rfl⟩⟩
section
variable {L R : List Node} {hx hy : List Int}
theorem zo0 {P:List Nat}{t:Tw}{o:List (Nat×Nat)}{m:List Pair} (hL:L.length<2 ^ 20) (hR:R.length<2 ^ 20) (hLs:∀ i,szn L i<2 ^ 20) (hm:m.length<2 ^ 20) (hI:TwI L R P t o) (hM:RefI m o) (x:Nat) :
  zjp m (szL L) (x:Int) true=some (!t.ua.getD x false)∧zjp m (szL L) (x:Int) false=some (!t.ub.getD x false):=by
 have hp:∀ p∈m,∃ i k:Nat,p=prOf (i,k)∧i<L.length∧k<2 ^ 20:=fun p hp=>by
  obtain ⟨q,hq,rfl⟩:=List.mem_map.1 (hM.perm.mem_iff.1 hp)
  obtain ⟨_,q1,q2,_⟩:=hI.prs q hq
  exact ⟨q.1,q.2,rfl,q1,by omega⟩
 obtain ⟨f1,e1,g1⟩:=z1y (L:=L) hL hLs hm hp x true
 obtain ⟨f2,e2,g2⟩:=z1y (L:=L) hL hLs hm hp x false
 constructor
 ·rw [e1]
  congr 1
  rw [Bool.eq_iff_iff,g1,Bool.not_eq_true',← Bool.not_eq_true,hI.ma x]
  simp only [if_true]
  constructor
  ·rintro h ⟨q,hq,h1⟩
   exact h q.1 q.2 ((hM.mem q).2 hq) h1
  ·intro h i k hik h1
   exact h ⟨(i,k),(hM.mem (i,k)).1 hik,h1⟩
 ·rw [e2]
  congr 1
  rw [Bool.eq_iff_iff,g2,Bool.not_eq_true',← Bool.not_eq_true,hI.mb x]
  simp only [Bool.false_eq_true,if_false]
  constructor
  ·rintro h ⟨q,hq,h1⟩
   exact h q.1 q.2 ((hM.mem q).2 hq) h1
  ·intro h i k hik h1
   exact h ⟨(i,k),(hM.mem (i,k)).1 hik,h1⟩
theorem z7m (hC:TwC L R hx hy) {P:List Nat}{t:Tw}{o:List (Nat×Nat)}{m:List Pair} (hL:L.length<2 ^ 20) (hR:R.length<2 ^ 20) (hLs:∀ i,szn L i<2 ^ 20) (hm:m.length+1<2 ^ 20) (hI:TwI L R P t o) (hM:RefI m o) {i:Nat} (hi:i<L.length) (hP:∀ j∈P,szn L i≤szn L j) (s:Int) :
  ∃ m' o',iter (zcp L R (szL L) s (i:Int)) (m,(0:Int))=some (.jmp 4 (m',(R.length:Int)))∧m'.length≤m.length+1∧TwI L R (P++[i]) (zg4 L R hx hy t i) o'∧RefI m' o':=by
 have hnode:∀ {l:List Node}{i:Nat},i<l.length→rd l (i:Int)=some (nodeL l (i:Int)):=fun {l i} hi=>by
  rw [zb2,List.getElem?_eq_getElem hi,ziu (List.getElem?_eq_getElem hi)]
 have keep:∀ {P':List Nat}{t':Tw}{o':List (Nat×Nat)}{m':List Pair},m'.length<2 ^ 20→TwI L R P' t' o'→RefI m' o'→∀ q:Nat,q<R.length→(t'.ua.getD i false=true∨(SameT L R i q→t'.ub.getD q false=true))→zcp L R (szL L) s (i:Int) (m',(q:Int))=some (.next (m',((q+1:Nat):Int))):=by
  intro P' t' o' m' hm' hI' hM' q hq hno
  obtain ⟨f1,_⟩:=zo0 hL hR hLs hm' hI' hM' i
  obtain ⟨_,f2⟩:=zo0 hL hR hLs hm' hI' hM' q
  simp only [zcp,f1,f2,Option.bind_some,zbb (show q<2 ^ 62 by omega)]
  rw [if_pos (show (q:Int)<(R.length:Int) by omega)]
  by_cases hu:t'.ua.getD i false=true
  ·rw [hu,if_neg (by simp)]
  ·have hu':t'.ua.getD i false=false:=by simpa using hu
   rw [hu',if_pos (by simp)]
   by_cases hb:t'.ub.getD q false=true
   ·rw [hb,if_neg (by simp)]
   ·have hb':t'.ub.getD q false=false:=by simpa using hb
    rw [hb',if_pos (by simp),hnode hi,Option.bind_some,hnode hq,Option.bind_some]
    have hns:¬ SameT L R i q:=fun hS=>by
     rcases hno with h | h
     ·exact hu h
     ·exact hb (h hS)
    rw [z5z (b:=false) (Nat.lt_trans (hLs i) (by decide)) ⟨fun h=>(by cases h),fun h=>absurd h hns⟩,Option.bind_some,if_neg (by simp)]
 have stop:∀ m':List Pair,zcp L R (szL L) s (i:Int) (m',(R.length:Int))=some (.jmp 4 (m',(R.length:Int))):=fun m'=>by
  simp only [zcp];rw [if_neg (by omega)]
 rcases z3i hC hI hi hP with ⟨h1,h2,h3⟩ | ⟨h1,hno,h2,h3⟩ | ⟨h1,k,k1,k2,k3,k4,k5,k6⟩
 ·refine ⟨m,o, ?_,by omega,by rw [h2];exact h3,hM⟩
  rw [show ((m,(0:Int)):List Pair×Int)=(fun q:Nat=>(m,(q:Int))) 0 from rfl,zj2 (step:=zcp L R (szL L) s (i:Int)) (fun q=>(m,(q:Int))) R.length (fun q hq=>keep (by omega) hI hM q hq (Or.inl h1))]
  exact zau (stop m)
 ·refine ⟨m,o, ?_,by omega,by rw [h2];exact h3,hM⟩
  rw [show ((m,(0:Int)):List Pair×Int)=(fun q:Nat=>(m,(q:Int))) 0 from rfl,zj2 (step:=zcp L R (szL L) s (i:Int)) (fun q=>(m,(q:Int))) R.length (fun q hq=>keep (by omega) hI hM q hq (Or.inr (hno q hq)))]
  exact zau (stop m)
 ·have hne:∀ x∈m,x.Old≠(prOf (i,k)).Old:=by
   intro x hxm e
   obtain ⟨q,hq,rfl⟩:=List.mem_map.1 (hM.perm.mem_iff.1 hxm)
   have hqi:q.1=i:=by simp only [prOf] at e;omega
   have hp:=hC.pos q.1
   have:=(hI.ma i).2 ⟨q,hq,by omega,by omega⟩
   rw [h1] at this;cases this
  have hM':RefI (insL (prOf (i,k)) m) (o++[(i,k)]):=by
   refine ⟨(znb _ _).trans ?_,zx6 _ _ hM.asc hne⟩
   rw [List.map_append]
   exact (List.Perm.cons _ hM.perm).trans (List.perm_append_comm (l₁:=[prOf (i,k)]))
  have hl':(insL (prOf (i,k)) m).length=m.length+1:=by rw [(znb _ _).length_eq];rfl
  refine ⟨insL (prOf (i,k)) m,o++[(i,k)], ?_,by omega,k6,hM'⟩
  have hu2:(zg4 L R hx hy t i).ua.getD i false=true:=(k6.ma i).2 ⟨(i,k),by simp,Nat.le_refl _,by have:=hC.pos i;show i<i+szn L i;omega⟩
  have hstep:zcp L R (szL L) s (i:Int) (m,(k:Int))=some (.next (insL (prOf (i,k)) m,((k+1:Nat):Int))):=by
   obtain ⟨f1,_⟩:=zo0 hL hR hLs (by omega) hI hM i
   obtain ⟨_,f2⟩:=zo0 hL hR hLs (by omega) hI hM k
   simp only [zcp,f1,f2,Option.bind_some,zbb (show k<2 ^ 62 by omega),h1,k3]
   rw [if_pos (show (k:Int)<(R.length:Int) by omega),if_pos (by simp),if_pos (by simp),hnode hi,Option.bind_some,hnode k1,Option.bind_some,z5z (b:=true) (Nat.lt_trans (hLs i) (by decide)) ⟨fun _=>k2,fun _=>rfl⟩,Option.bind_some,if_pos rfl]
   rw [z18 (by omega)]
   rfl
  rw [show ((m,(0:Int)):List Pair×Int)=(fun q:Nat=>(m,(q:Int))) 0 from rfl,zj2 (step:=zcp L R (szL L) s (i:Int)) (fun q=>(m,(q:Int))) k (fun q hq=>keep (by omega) hI hM q (by omega) (Or.inr (k4 q hq)))]
  rw [zat hstep,show ((insL (prOf (i,k)) m,((k+1:Nat):Int)):List Pair×Int)=(fun q:Nat=>(insL (prOf (i,k)) m,((k+1+q:Nat):Int))) 0 from rfl,
   zj2 (step:=zcp L R (szL L) s (i:Int)) (fun q=>(insL (prOf (i,k)) m,((k+1+q:Nat):Int))) (R.length - (k+1)) (fun q hq=>keep (by omega) k6 hM' (k+1+q) (by omega) (Or.inl hu2))]
  rw [show k+1+(R.length - (k+1))=R.length from by omega]
  exact zau (stop _)
def Rel (L R:List Node) (hx hy:List Int) (P:List Nat) (m:List Pair):Prop:=∃ o,TwI L R P (P.foldl (zg4 L R hx hy) ⟨List.replicate L.length false,List.replicate R.length false,[]⟩) o∧RefI m o
def blk (L:List Node) (s n:Nat):List Nat:=(List.range n).filter fun i=>decide (szn L i=s)
theorem zxn (L:List Node) (s n:Nat):blk L s (n+1)=blk L s n++if szn L n=s then [n] else []:=by
 unfold blk
 rw [List.range_succ,List.filter_append]
 congr 1
 by_cases h:szn L n=s
 ·rw [if_pos h,List.filter_cons,decide_eq_true h];rfl
 ·rw [if_neg h,List.filter_cons,decide_eq_false h];rfl
theorem zpr {L:List Node}{s n i:Nat}:i∈blk L s n↔i<n∧szn L i=s:=by
 unfold blk
 rw [List.mem_filter,List.mem_range,decide_eq_true_iff]
def PL (L:List Node):Nat→List Nat
 | 0=>[]
 | d+1=>PL L d++blk L (L.length - d) L.length
theorem zym {L:List Node}:∀ {d i:Nat},d≤L.length→(i∈PL L d↔i<L.length∧L.length - d<szn L i∧szn L i≤L.length)
 | 0,i,h=>by simp only [PL,List.not_mem_nil,false_iff];omega
 | d+1,i,h=>by
  have ih:=zym (L:=L) (d:=d) (i:=i) (by omega)
  simp only [PL,List.mem_append,ih,zpr]
  omega
theorem zt0 {L:List Node}:∀ (d:Nat),d≤L.length→(PL L d).Pairwise (zl8 (szL L))
 | 0,_=>List.Pairwise.nil
 | d+1,h=>by
  simp only [PL]
  rw [List.pairwise_append]
  refine ⟨zt0 d (by omega), ?_,fun i hi j hj=>?_⟩
  ·have h0:(blk L (L.length - d) L.length).Pairwise (·<·):=List.Pairwise.sublist List.filter_sublist List.pairwise_lt_range
   refine List.Pairwise.imp_of_mem (fun {i j} hi hj hij=>?_) h0
   obtain ⟨i1,i2⟩:=zpr.1 hi
   obtain ⟨j1,j2⟩:=zpr.1 hj
   right
   rw [zjz i1,zjz j1]
   omega
  ·obtain ⟨i1,i2,i3⟩:=(zym (by omega)).1 hi
   obtain ⟨j1,j2⟩:=zpr.1 hj
   left
   rw [zjz i1,zjz j1]
   omega
theorem Rel.small {P:List Nat}{m:List Pair} (h:Rel L R hx hy P m):m.length≤L.length:=by
 obtain ⟨o,hI,hM⟩:=h
 refine ydo hM.asc (fun p hp=>?_)
 obtain ⟨q,hq,rfl⟩:=List.mem_map.1 (hM.perm.mem_iff.1 hp)
 have:=(hI.prs q hq).2.1
 simp only [prOf];omega
theorem Rel.next (hC:TwC L R hx hy) (hL:L.length<2 ^ 15) (hR:R.length<2 ^ 20) (hLs:∀ i,szn L i<2 ^ 20) {P:List Nat}{m:List Pair} (h:Rel L R hx hy P m) {i:Nat} (hi:i<L.length) (hP:∀ j∈P,szn L i≤szn L j) (s:Int) :
  ∃ m',iter (zcp L R (szL L) s (i:Int)) (m,(0:Int))=some (.jmp 4 (m',(R.length:Int)))∧Rel L R hx hy (P++[i]) m':=by
 have hm:=h.small
 obtain ⟨o,hI,hM⟩:=h
 obtain ⟨m',o',h1,_,h3,h4⟩:=z7m hC (by omega) hR hLs (by omega) hI hM hi hP s
 exact ⟨m',h1,o',by rw [List.foldl_append];exact h3,h4⟩
theorem zv8 (hC:TwC L R hx hy) (hL:L.length<2 ^ 15) (hR:R.length<2 ^ 20) (hLs:∀ i,szn L i<2 ^ 20) {d:Nat} (hd:d<L.length):∀ (f i:Nat) (m:List Pair),i+f=L.length→Rel L R hx hy (PL L d++blk L (L.length - d) i) m →
  ∃ m',iter (zfp L R (szL L) ((L.length - d:Nat):Int)) (m,(i:Int))=some (.jmp 2 (m',(L.length:Int)))∧Rel L R hx hy (PL L (d+1)) m'
 | 0,i,m,hf,hM=>by
  obtain rfl:i=L.length:=by omega
  refine ⟨m,zau ?_,hM⟩
  simp only [zfp];rw [if_neg (by omega)]
 | f+1,i,m,hf,hM=>by
  have hi:i<L.length:=by omega
  have hsz:rd (szL L) (i:Int)=some (szn L i:Int):=by
   rw [zb2,List.getElem?_eq_getElem (by rw [zk7];exact hi)]
   have:=zjz hi
   rw [List.getD_eq_getElem?_getD,List.getElem?_eq_getElem (by rw [zk7];exact hi)] at this
   exact congrArg some this
  have hfit:=hC.fitL i hi
  by_cases hs:szn L i=L.length - d
  ·obtain ⟨m',h1,h2⟩:=hM.next hC hL hR hLs hi (fun j hj=>by
    rcases List.mem_append.1 hj with hj | hj
    ·have:=(zym (by omega)).1 hj;omega
    ·have:=zpr.1 hj;omega) ((L.length - d:Nat):Int)
   rw [List.append_assoc] at h2
   obtain ⟨m2,k1,k2⟩:=zv8 hC hL hR hLs hd f (i+1) m' (by omega) (by rw [zxn,if_pos hs];exact h2)
   refine ⟨m2, ?_,k2⟩
   have hstep:zfp L R (szL L) ((L.length - d:Nat):Int) (m,(i:Int))=some (.next (m',((i+1:Nat):Int))):=by
    simp only [zfp,hsz,Option.bind_some,h1,zbb (show i<2 ^ 62 by omega)]
    rw [if_pos (show (i:Int)<(L.length:Int) by omega),if_pos (by omega)]
   rw [zat hstep,k1]
  ·obtain ⟨m2,k1,k2⟩:=zv8 hC hL hR hLs hd f (i+1) m (by omega) (by rw [zxn,if_neg hs,List.append_nil];exact hM)
   refine ⟨m2, ?_,k2⟩
   have hstep:zfp L R (szL L) ((L.length - d:Nat):Int) (m,(i:Int))=some (.next (m,((i+1:Nat):Int))):=by
    simp only [zfp,hsz,Option.bind_some,zbb (show i<2 ^ 62 by omega)]
    rw [if_pos (show (i:Int)<(L.length:Int) by omega),if_neg (by omega)]
   rw [zat hstep,k1]
theorem zw6 (hC:TwC L R hx hy) (hL:L.length<2 ^ 15) (hR:R.length<2 ^ 20) (hLs:∀ i,szn L i<2 ^ 20):∀ (f d:Nat) (m:List Pair),d+f=L.length→Rel L R hx hy (PL L d) m →
  ∃ m',iter (zgr L R (szL L)) (m,((L.length - d:Nat):Int))=some (.jmp 0 (m',(0:Int)))∧Rel L R hx hy (PL L L.length) m'
 | 0,d,m,hf,hM=>by
  obtain rfl:d=L.length:=by omega
  refine ⟨m, ?_,hM⟩
  rw [Nat.sub_self]
  apply zau
  simp only [zgr];rw [if_neg (by omega)];rfl
 | f+1,d,m,hf,hM=>by
  obtain ⟨m',h1,h2⟩:=zv8 hC hL hR hLs (d:=d) (by omega) L.length 0 m (by omega) (by rw [show blk L (L.length - d) 0=[] from rfl,List.append_nil];exact hM)
  obtain ⟨m2,k1,k2⟩:=zw6 hC hL hR hLs f (d+1) m' (by omega) h2
  refine ⟨m2, ?_,k2⟩
  have e1:w64 (((L.length - d:Nat):Int) - 1)=((L.length - (d+1):Nat):Int):=by rw [zg9 (by omega) (by omega)];congr 1
  have hstep:zgr L R (szL L) (m,((L.length - d:Nat):Int))=some (.next (m',((L.length - (d+1):Nat):Int))):=by
   simp only [zgr]
   rw [if_pos (by omega),show (0:Int)=((0:Nat):Int) from rfl,h1]
   simp only [Option.bind_some,e1]
  rw [zat hstep,k1]
end
theorem zqz {w:List Int}{i j:Nat} (h1:zl8 w i j) (h2:zl8 w j i):False:=by unfold zl8 at *;omega
theorem plain_pairs (x0 x1:Node):zgm x0 x1=some true:=by
 unfold zgm zh9
 obtain ⟨l0,e0,h0⟩:=zxm (n:=x0) (a:=40) (b:=40) (c:=4000) (by decide) (by decide) (by decide) (by decide) (by decide) (by decide)
 obtain ⟨l1,e1,h1⟩:=zxm (n:=x1) (a:=40) (b:=40) (c:=4000) (by decide) (by decide) (by decide) (by decide) (by decide) (by decide)
 rw [e0,Option.bind_some]
 cases l0 with
 | false=>rfl
 | true =>
 rw [if_pos rfl,e1,Option.bind_some]
 cases l1 with
 | false=>rfl
 | true =>
 rw [if_pos rfl,Option.bind_some,if_pos rfl]
 obtain ⟨a1,_,a3⟩:=h0 rfl
 obtain ⟨b1,_,b3⟩:=h1 rfl
 have hN:=zez x0
 have hM:=zez x1
 have hLn:∀ (k:Nat) v,(subs x0)[k]?=some v→size v<2 ^ 40:=fun k v hv=>by
  have:=znh x0 k v hv;omega
 have hszn:∀ i,szn (subs x0) i<2 ^ 20:=fun i=>by
  by_cases hi:i<(subs x0).length
  ·have:=zk0 x0 i hi
   unfold szn;omega
  ·unfold szn nodeL
   rw [Int.toNat_natCast,List.getD_eq_getElem?_getD,List.getElem?_eq_none (by omega)]
   simp [size,sizes]
 obtain ⟨r,o,od,g1,g2,g3,g4,g5,g6⟩:=z6v (a:=x0) (b:=x1) (by omega) (by omega) (by omega) (by omega)
 have hC:=z4r x0 x1
 rw [g1,Option.bind_some]
 obtain ⟨m,k1,o',k2,k3⟩:=zw6 hC (by omega) (by omega) hszn (subs x0).length 0 [] (by omega) ⟨[],z35 _ _,⟨List.Perm.refl _,List.Pairwise.nil⟩⟩
 have hod:od=PL (subs x0) (subs x0).length:=by
  have hB:=zt0 (L:=subs x0) (subs x0).length (Nat.le_refl _)
  have nodup_of:∀ {l:List Nat},l.Pairwise (zl8 (szL (subs x0)))→l.Nodup:=fun h=>List.Pairwise.imp (fun {i j} h e=>by subst e;exact zqz h h) h
  refine List.Perm.eq_of_pairwise (le:=zl8 (szL (subs x0))) (fun a b _ _ h1 h2=>(zqz h1 h2).elim) g3 hB ?_
  rw [List.perm_ext_iff_of_nodup (nodup_of g3) (nodup_of hB)]
  intro i
  rw [g2.mem_iff,List.mem_range,zym (Nat.le_refl _),← hN]
  constructor
  ·intro hi
   have:=hC.pos i
   have:=hC.fitL i hi
   omega
  ·intro h;exact h.1
 have hR18:zkc x0 x1=some m:=by
  unfold zkc
  rw [z51 (by omega),Option.bind_some,z51 (by omega),Option.bind_some,yds (by omega) hLn,Option.bind_some]
  rw [Nat.sub_zero] at k1
  rw [k1]
  rfl
 rw [hR18,Option.bind_some]
 have hout:o.map prOf=o'.map prOf:=by
  rw [← g4.out,← k2.out,hod]
  rfl
 have hrm:r=m:=by
  refine List.Perm.eq_of_pairwise (le:=fun x y=>x.Old<y.Old) (fun a b _ _ h1 h2=>by omega) g6 k3.asc ?_
  exact g5.trans ((List.Perm.of_eq hout).trans k3.perm.symm)
 have hsm:m.length≤(subs x0).length:=Rel.small ⟨o',k2,k3⟩
 rw [hrm,zzg m (by omega)]
 rfl
end Xr

