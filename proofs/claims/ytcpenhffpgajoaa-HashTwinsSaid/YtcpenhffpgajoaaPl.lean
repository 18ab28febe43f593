/- A part of the proof: Pl. No conditions of its own. -/
import Derived.Test.YtcpenhffpgajoaaT
set_option linter.unusedVariables false
set_option linter.unusedSimpArgs false
namespace Xr
open Go Go.Ev
mutual
def hsP (q:Node→ByteArray):Node→List Int
 | ⟨k,t,g,ks⟩=>mixI (hsF q ks (mixI (IntKind.wrap .u64 k) (sumI (q ⟨k,t,g,ks⟩)))) (IntKind.wrap .u64 (ks.length:Int)) :: hsK q ks
def hsK (q:Node→ByteArray):List Node→List Int
 | []=>[]
 | n :: ks=>hsP q n++hsK q ks
def hsF (q:Node→ByteArray):List Node→Int→Int
 | [],d=>d
 | n :: ks,d=>hsF q ks (mixI d ((hsP q n).headD 0))
end
mutual
theorem znv (q:Node→ByteArray):∀ n:Node,(hsP q n).length=size n
 | ⟨k,t,g,ks⟩=>by simp only [hsP,size,List.length_cons,z2y q ks];omega
theorem z2y (q:Node→ByteArray):∀ l:List Node,(hsK q l).length=sizes l
 | []=>by simp only [hsK,sizes,List.length_nil]
 | n :: ks=>by simp only [hsK,sizes,List.length_append,znv q n,z2y q ks]
end
def bareQ (b:Bool) (n:Node):ByteArray:=if b then ByteArray.mk #[] else n.Text
theorem zzz (b:Bool) (n:Node):(bareQ b n).size≤n.Text.size:=by
 unfold bareQ
 cases b
 ·exact Nat.le_refl _
 ·exact Nat.zero_le _
mutual
theorem yac {p:Node→Option ByteArray}{b:Bool} (hp:∀ n,p n=some (bareQ b n)):∀ n:Node,zgt n<2 ^ 40→hsO p n=some (hsP (bareQ b) n)
 | ⟨k,t,g,ks⟩,h=>by
  have hw:=zt0 ⟨k,t,g,ks⟩
  simp only at hw
  have hq:=zzz b ⟨k,t,g,ks⟩
  simp only at hq
  simp only [hsO,hp,Option.bind_some,yat hp ks _ (show weights ks<2 ^ 40 by omega),hsP,Option.map_some]
  rw [if_pos (by omega)]
theorem yat {p:Node→Option ByteArray}{b:Bool} (hp:∀ n,p n=some (bareQ b n)):∀ (l:List Node) (d:Int),weights l<2 ^ 40→hsL p l d=some (hsF (bareQ b) l d,hsK (bareQ b) l)
 | [],d,h=>by simp only [hsL,hsF,hsK]
 | n :: ks,d,h=>by
  simp only [weights] at h
  simp only [hsL,hsF,hsK,yac hp n (by omega),Option.bind_some,yat hp ks _ (show weights ks<2 ^ 40 by omega),Option.map_some]
end
theorem yci {p:Node→Option ByteArray}{b:Bool} (hp:∀ n,p n=some (bareQ b n)) {n:Node} (hs:size n<2 ^ 30) (hw:zgt n<2 ^ 40):(zdx p ([]:List Int) n).bind (fun r=>some r.1)=some (hsP (bareQ b) n):=by
 unfold zdx
 rw [if_pos (by simpa using hs),yac hp n hw]
 rfl
theorem zxx {n:Node} (hs:size n<2 ^ 30) (hw:zgt n<2 ^ 40):zi1 n=some (hsP (bareQ false) n):=yci (p:=zbv) (b:=false) (fun n=>rfl) hs hw
theorem zxp {n:Node}{a b c:Int} (ha:0≤a) (ha2:a<2 ^ 30) (hb:0≤b) (hb2:b<2 ^ 30) (hc:0≤c) (hc2:c<2 ^ 30):∃ r,zjg n a b c=some r∧(r=true→(size n:Int)≤a∧(zog n:Int)≤b∧(zgt n:Int)≤c):=by
 unfold zjg zm3 zgr
 rw [if_pos (by omega)]
 simp only [Option.bind_some]
 by_cases hf:(size n:Int)≤a∧(zog n:Int)≤b
 ·have e:leftV n a b=a - size n:=if_pos hf
  rw [e,if_pos (by simp only [decide_eq_true_eq];omega)]
  unfold zfl
  rw [if_pos (by omega)]
  simp only [Option.bind_some]
  refine ⟨_,rfl,fun h=>⟨hf.1,hf.2, ?_⟩⟩
  by_cases hw:(zgt n:Int)≤c
  ·exact hw
  ·rw [if_neg hw] at h;simp at h
 ·have e:leftV n a b=-1:=if_neg hf
  rw [e,if_neg (by decide)]
  exact ⟨_,rfl,fun h=>by cases h⟩
end Xr

set_option linter.unusedVariables false
set_option linter.unusedSimpArgs false
namespace Xr
open Go Go.Ev
mutual
theorem zsy (b:Bool):∀ n:Node,hsP (bareQ b) (barV n)=hsP (bareQ b) n
 | ⟨k,t,g,ks⟩=>by
  simp only [barV,hsP,z1j b ks,z1v b ks]
  rw [zpa,List.length_map]
  rfl
theorem z1v (b:Bool):∀ l:List Node,hsK (bareQ b) (barVs l)=hsK (bareQ b) l
 | []=>by simp only [barVs]
 | n :: ks=>by simp only [barVs,hsK,zsy b n,z1v b ks]
theorem z1j (b:Bool):∀ (l:List Node) (d:Int),hsF (bareQ b) (barVs l) d=hsF (bareQ b) l d
 | [],d=>by simp only [barVs]
 | n :: ks,d=>by simp only [barVs,hsF,zsy b n,z1j b ks]
end
mutual
theorem zvf (q:Node→ByteArray):∀ (n:Node) (i:Nat) (v:Node),(subs n)[i]?=some v→(hsP q n)[i]?=(hsP q v)[0]?
 | ⟨k,t,g,ks⟩,i,v,h=>by
  simp only [subs] at h
  cases i with
  | zero =>
   simp only [List.getElem?_cons_zero,Option.some.injEq] at h
   subst h;rfl
  | succ i =>
   simp only [List.getElem?_cons_succ] at h
   have:=z2d q ks i v h
   simp only [hsP,List.getElem?_cons_succ]
   exact this
theorem z2d (q:Node→ByteArray):∀ (l:List Node) (i:Nat) (v:Node),(subss l)[i]?=some v→(hsK q l)[i]?=(hsP q v)[0]?
 | [],i,v,h=>by simp [subss] at h
 | n :: ks,i,v,h=>by
  simp only [subss] at h
  simp only [hsK]
  by_cases hi:i<(subs n).length
  ·rw [List.getElem?_append_left hi] at h
   rw [List.getElem?_append_left (by rw [znv,← zdr];exact hi)]
   exact zvf q n i v h
  ·rw [List.getElem?_append_right (by omega)] at h
   rw [List.getElem?_append_right (by rw [znv,← zdr];omega),znv,← zdr]
   exact z2d q ks _ v h
end
end Xr

set_option linter.unusedVariables false
set_option linter.unusedSimpArgs false
namespace Xr
open Go Go.Ev
section
variable (w : List Int)
abbrev W2z (s:Int×List Int):Int×List Int×List Int:=(s.1,w,s.2)
theorem st2Z (s1 s4:Int) (s):zds s1 s4 (W3 w s)=(gSt2 (symS (ltT w) (keyT w) id) s1 s4 s).map (omp (W3 w) (Wp2 w)):=by
 obtain ⟨i,j,y⟩:=s
 simp only [zds,gSt2,symF,zgp,zcy,bind_map,Option.map_some,Option.map_none,omp,id,Wp2,W3]
theorem st1Z (s1:Int) (s):zdw s1 (W2z w s)=(gSt1 (symS (ltT w) (keyT w) id) s1 s).map (omp (W2z w) (Wp2 w)):=by
 obtain ⟨i,y⟩:=s
 simp only [zdw,gSt1,zgp,zcy,Option.map_some,Option.map_none,omp,W2z]
 rw [show iter (zds s1 i) ((0:Int),w64 (2*i),w,y)=_ from zgy (f:=W3 w) (st2Z w s1 i) ((0:Int),w64 (2*i),y),bind_map]
 congr 1
 refine bnd fun o=>?_
 cases o with
 | next s=>rfl
 | ret r=>rfl
 | jmp n s =>
  simp only [omp,W3,symF,zgp,zcy,bind_map,Option.map_some,Option.map_none,Wp2,W2z]
theorem st0Z (s1 s4:Int) (s):zdv s1 s4 (W3 w s)=(gSt0 (ltT w) s1 s4 s).map (omp (W3 w) (Wp2 w)):=by
 obtain ⟨i,j,y⟩:=s
 simp only [zdv,gSt0,insZ,zgp,zcy,bind_map,Option.map_some,Option.map_none,omp,id,Wp2,W3]
theorem stabZ (x1:Int) (y:List Int):zfc x1 w y=(gStab (ltT w) (symS (ltT w) (keyT w) id) x1 y).map (Wp2 w):=by
 unfold zfc gStab
 rw [show iter (zdv x1 20) ((0:Int),(20:Int),w,y)=_ from zgy (f:=W3 w) (st0Z w x1 20) ((0:Int),(20:Int),y),bind_map,zcy]
 refine bnd fun o=>?_
 cases o with
 | next s=>rfl
 | ret r=>rfl
 | jmp n s =>
  simp only [omp,W3,insZ,bind_map,zcy,Wp2,zgp,Option.map_none]
  refine bnd fun z=>?_
  split
  ·rw [show iter (zdw x1) ((20:Int),w,z)=_ from zgy (f:=W2z w) (st1Z w x1) ((20:Int),z),bind_map]
   exact bnd fun o=>by cases o<;>rfl
  ·rfl
end
def ztd (w:List Int) (i j:Nat):Prop:=w.getD j 0<w.getD i 0∨(w.getD i 0=w.getD j 0∧i<j)
theorem z7x {w:List Int} (hN:w.length<2 ^ 20) (hw:∀ v∈w,0≤v∧v<2 ^ 40):∃ od:List Nat,zew ((List.range w.length).map fun (k:Nat)=>(k:Int)) w=some (od.map (fun (k:Nat)=>(k:Int)),w)∧od.Perm (List.range w.length)∧od.Pairwise (ztd w):=by
 unfold zew
 by_cases h2:((List.range w.length).map fun (k:Nat)=>(k:Int)).length<2
 ·rw [if_pos h2]
  rw [List.length_map,List.length_range] at h2
  refine ⟨List.range w.length,rfl,List.Perm.refl _, ?_⟩
  rw [List.pairwise_iff_getElem]
  intro i j hi hj hij
  rw [List.length_range] at hi hj
  omega
 ·rw [if_neg h2]
  have hlen:((List.range w.length).map fun (k:Nat)=>(k:Int)).length=w.length:=by simp
  have hget:∀ i:Nat,i<w.length→rd w (i:Int)=some (w.getD i 0):=fun i hi=>by
   rw [zb4,List.getElem?_eq_getElem hi,List.getD_eq_getElem?_getD,List.getElem?_eq_getElem hi];rfl
  have hwb:∀ i:Nat,i<w.length→0≤w.getD i 0∧w.getD i 0<2 ^ 40:=fun i hi=>by
   rw [List.getD_eq_getElem?_getD,List.getElem?_eq_getElem hi]
   exact hw _ (List.getElem_mem hi)
  have hmem:∀ x∈(List.range w.length).map (fun (k:Nat)=>(k:Int)),∃ i:Nat,x=i∧i<w.length:=fun x hx=>by
   obtain ⟨i,hi,rfl⟩:=List.mem_map.1 hx
   exact ⟨i,rfl,List.mem_range.1 hi⟩
  have hkey:∀ i:Nat,keyT w (i:Int)=(i:Int) - w.getD i 0*1099511627776:=fun i=>by unfold keyT;rw [Int.toNat_natCast]
  obtain ⟨t,ht,hs,ha⟩:=z8f (lt:=ltT w) (key:=keyT w) (rk:=id) (l:=(List.range w.length).map fun (k:Nat)=>(k:Int)) (by
   intro x hx z hz hlt
   obtain ⟨i,rfl,hi⟩:=hmem x hx
   obtain ⟨j,rfl,hj⟩:=hmem z hz
   refine ⟨_,by unfold ltT;rw [hget i hi,hget j hj];rfl, ?_⟩
   have:=hwb i hi;have:=hwb j hj
   rw [decide_eq_true_eq,hkey,hkey]
   simp only [id] at hlt
   omega) (by
   intro x hx z hz e
   obtain ⟨i,rfl,hi⟩:=hmem x hx
   obtain ⟨j,rfl,hj⟩:=hmem z hz
   have:=hwb i hi;have:=hwb j hj
   rw [hkey,hkey] at e
   omega) (by
   intro i j h0 hij hj
   rw [hlen] at hj
   rw [zbr (x:=(i:Int)) (by rw [List.getElem?_map,List.getElem?_range (by omega)];rfl),zbr (x:=(j:Int)) (by rw [List.getElem?_map,List.getElem?_range hj];rfl)]
   simp only [id];omega) (by rw [hlen];omega)
  have hp:=hs.perm
  have hm:∀ x∈t,∃ i:Nat,x=i∧i<w.length:=fun x hx=>hmem x (hp.mem_iff.1 hx)
  have e0:(t.map Int.toNat).map (fun (k:Nat)=>(k:Int))=t:=by
   rw [List.map_map]
   refine (List.map_congr_left (fun v hv=>?_)).trans (List.map_id _)
   obtain ⟨i,rfl,_⟩:=hm v hv
   simp [Function.comp]
  refine ⟨t.map Int.toNat, ?_, ?_, ?_⟩
  ·rw [e0]
   unfold zg0
   rw [if_pos (by omega),hlen,stabZ]
   rw [hlen] at ht
   rw [ht]
   simp only [Option.map_some,Option.bind_some,Wp2]
   rw [if_pos (by rw [hp.length_eq,hlen])]
  ·have:=hp.map Int.toNat
   rw [List.map_map] at this
   refine this.trans (List.Perm.of_eq ?_)
   refine (List.map_congr_left (fun v _=>by simp [Function.comp])).trans (List.map_id _)
  ·rw [List.pairwise_iff_getElem]
   intro i j hi hj hij
   rw [List.length_map] at hi hj
   have hl:t.length=w.length:=by rw [hp.length_eq,hlen]
   have g:=ha i j (Nat.zero_le _) hij (by omega)
   obtain ⟨x,ex,hx⟩:=hm t[i] (List.getElem_mem hi)
   obtain ⟨y,ey,hy⟩:=hm t[j] (List.getElem_mem hj)
   rw [zbr (List.getElem?_eq_getElem hi),zbr (List.getElem?_eq_getElem hj),ex,ey,hkey,hkey] at g
   rw [List.getElem_map,List.getElem_map,ex,ey,Int.toNat_natCast,Int.toNat_natCast]
   have hne:x≠y:=by
    intro e
    have hnd:((List.range w.length).map fun (k:Nat)=>(k:Int)).Nodup:=by
     rw [List.Nodup,List.pairwise_map]
     exact List.Pairwise.imp (fun h e=>h (by omega)) List.nodup_range
    have htn:=hp.nodup_iff.2 hnd
    have:=List.pairwise_iff_getElem.1 htn i j hi hj hij
    rw [ex,ey,e] at this
    exact this rfl
   have:=hwb x hx;have:=hwb y hy
   unfold ztd
   omega
end Xr

set_option linter.unusedVariables false
set_option linter.unusedSimpArgs false
namespace Xr
open Go Go.Ev
def szn (L:List Node) (i:Nat):Nat:=size (nodeL L (i:Int))
def SameT (L R:List Node) (i k:Nat):Prop:=barV (nodeL L (i:Int))=barV (nodeL R (k:Int))
theorem zx7 {L R:List Node}{i k:Nat} (h:SameT L R i k):szn L i=szn R k:=ztc h
def Lam (L:List Node):Prop:=∀ i k,i<L.length→i≤k→k<i+szn L i→k+szn L k≤i+szn L i
theorem zxf (n:Node):Lam (subs n):=by
 intro i k hi hik hk
 have e:=List.getElem?_eq_getElem hi
 have hs:=zr3 e
 unfold szn at *
 rw [zic e] at *
 have e1:=zwe n i _ e (k - i) (by omega)
 rw [show i+(k - i)=k from by omega] at e1
 have hlt:k - i<(subs (subs n)[i]).length:=by rw [zdr];omega
 have e2:=List.getElem?_eq_getElem hlt
 have hf:=zr3 e2
 rw [e2] at e1
 rw [zic e1,zdr] at *
 omega
theorem zlx {u:List Bool}{i:Nat}:∀ s,(mrk u i s).length=u.length
 | 0=>rfl
 | s+1=>by simp only [mrk,List.length_set,zlx s]
theorem zqb {u:List Bool}{i:Nat}:∀ {s:Nat},i+s≤u.length→∀ j,(mrk u i s).getD j false=true↔(u.getD j false=true∨(i≤j∧j<i+s))
 | 0,h,j=>by
  simp only [mrk]
  exact ⟨fun h=>Or.inl h,fun h=>by rcases h with h | h;exact h;omega⟩
 | s+1,h,j=>by
  simp only [mrk]
  rw [List.getD_eq_getElem?_getD]
  by_cases hj:i+s=j
  ·subst hj
   rw [List.getElem?_set_self (by rw [zlx];omega)]
   simp only [Option.getD_some,true_iff]
   right;omega
  ·rw [List.getElem?_set_ne hj,← List.getD_eq_getElem?_getD,zqb (by omega) j]
   constructor
   ·rintro (h | h);exact Or.inl h;right;omega
   ·rintro (h | h);exact Or.inl h;right;omega
def Dj (L:List Node) (p q:Nat×Nat):Prop:=(p.1+szn L p.1≤q.1∨q.1+szn L q.1≤p.1)∧(p.2+szn L p.1≤q.2∨q.2+szn L q.1≤p.2)
def prOf (q:Nat×Nat):Pair:=⟨(q.1:Int),(q.2:Int)⟩
structure TwI (L R:List Node) (P:List Nat) (t:Tw) (o:List (Nat×Nat)):Prop where
 out:t.out=o.map prOf
 la:t.ua.length=L.length
 lb:t.ub.length=R.length
 ma:∀ j,t.ua.getD j false=true↔∃ q∈o,q.1≤j∧j<q.1+szn L q.1
 mb:∀ j,t.ub.getD j false=true↔∃ q∈o,q.2≤j∧j<q.2+szn L q.1
 prs:∀ q∈o,q.1∈P∧q.1<L.length∧q.2<R.length∧SameT L R q.1 q.2
 dis:o.Pairwise (Dj L)
 max:∀ i∈P,∀ k,k<R.length→SameT L R i k→t.ua.getD i false=true∨t.ub.getD k false=true
structure TwC (L R:List Node) (hx hy:List Int):Prop where
 lamL:Lam L
 lamR:Lam R
 fitL:∀ i,i<L.length→i+szn L i≤L.length
 fitR:∀ k,k<R.length→k+szn R k≤R.length
 hash:∀ i k,i<L.length→k<R.length→SameT L R i k→hy.getD k 0=hx.getD i 0
 pos:∀ i,0<szn L i
open Classical in
theorem zvg {L R:List Node}{hx hy:List Int} (hC:TwC L R hx hy) {t:Tw}{i:Nat} (hi:i<L.length):zp8 L R hx hy t i=(List.range R.length).find? fun k=>!(t.ub.getD k false) && decide (SameT L R i k):=by
 unfold zp8
 have key:∀ (l:List Nat),(∀ k∈l,k<R.length)→l.find? (fun k=>decide (hy.getD k 0=hx.getD i 0) && (!(t.ub.getD k false) && decide (barV (nodeL L (i:Int))=barV (nodeL R (k:Int)))))=l.find? fun k=>!(t.ub.getD k false) && decide (SameT L R i k):=by
  intro l hl
  induction l with
  | nil=>rfl
  | cons k l ih =>
   rw [List.find?_cons,List.find?_cons,ih (fun k hk=>hl k (List.mem_cons_of_mem _ hk))]
   have hk:=hl k List.mem_cons_self
   by_cases hS:SameT L R i k
   ·have h1:=hC.hash i k hi hk hS
    have h2:barV (nodeL L (i:Int))=barV (nodeL R (k:Int)):=hS
    rw [decide_eq_true h1,decide_eq_true h2,decide_eq_true hS,Bool.true_and]
   ·have h2:¬ barV (nodeL L (i:Int))=barV (nodeL R (k:Int)):=hS
    rw [decide_eq_false h2,decide_eq_false hS,Bool.and_false,Bool.and_false]
 exact key _ (fun k hk=>List.mem_range.1 hk)
open Classical in
theorem z1g {L R:List Node}{hx hy:List Int} (hC:TwC L R hx hy) {P:List Nat}{t:Tw}{o:List (Nat×Nat)} (hI:TwI L R P t o) {i:Nat} (hi:i<L.length) (hP:∀ j∈P,szn L i≤szn L j) :
  (t.ua.getD i false=true∧zg6 L R hx hy t i=t∧TwI L R (P++[i]) t o) ∨
  (t.ua.getD i false=false∧(∀ k,k<R.length→SameT L R i k→t.ub.getD k false=true)∧zg6 L R hx hy t i=t∧TwI L R (P++[i]) t o) ∨
  (t.ua.getD i false=false∧∃ k,k<R.length∧SameT L R i k∧t.ub.getD k false=false∧(∀ k',k'<k→SameT L R i k'→t.ub.getD k' false=true)∧(zg6 L R hx hy t i).out=(o++[(i,k)]).map prOf∧TwI L R (P++[i]) (zg6 L R hx hy t i) (o++[(i,k)])):=by
 have more:∀ {q:Nat},q∈P→q∈P++[i]:=fun h=>List.mem_append_left _ h
 by_cases hu:t.ua.getD i false=true
 ·left
  refine ⟨hu,by unfold zg6;rw [if_pos hu],⟨hI.out,hI.la,hI.lb,hI.ma,hI.mb,fun q hq=>⟨more (hI.prs q hq).1,(hI.prs q hq).2⟩,hI.dis,fun j hj k hk hS=>?_⟩⟩
  rcases List.mem_append.1 hj with hj | hj
  ·exact hI.max j hj k hk hS
  ·obtain rfl:j=i:=by simpa using hj
   exact Or.inl hu
 ·right
  have hst:zg6 L R hx hy t i=match zp8 L R hx hy t i with | none=>t | some k=>⟨mrk t.ua i (size (nodeL L (i:Int))),mrk t.ub k (size (nodeL L (i:Int))),t.out++[⟨(i:Int),(k:Int)⟩]⟩:=by
   unfold zg6;rw [if_neg hu];cases zp8 L R hx hy t i<;>rfl
  rw [zvg hC hi] at hst
  have hu':t.ua.getD i false=false:=by simpa using hu
  cases hf:(List.range R.length).find? (fun k=>open Classical in !(t.ub.getD k false) && decide (SameT L R i k)) with
  | none =>
   left
   rw [hf] at hst
   have hno:∀ k,k<R.length→SameT L R i k→t.ub.getD k false=true:=by
    intro k hk hS
    rw [List.find?_eq_none] at hf
    have:=hf k (List.mem_range.2 hk)
    rw [open Classical in decide_eq_true hS] at this
    simpa using this
   refine ⟨hu',hno,hst,⟨hI.out,hI.la,hI.lb,hI.ma,hI.mb,fun q hq=>⟨more (hI.prs q hq).1,(hI.prs q hq).2⟩,hI.dis,fun j hj k hk hS=>?_⟩⟩
   rcases List.mem_append.1 hj with hj | hj
   ·exact hI.max j hj k hk hS
   ·obtain rfl:j=i:=by simpa using hj
    exact Or.inr (hno k hk hS)
  | some k =>
   right
   rw [hf] at hst
   have hkM:k<R.length:=List.mem_range.1 (List.mem_of_find?_eq_some hf)
   have hb:=List.find?_some hf
   rw [Bool.and_eq_true] at hb
   obtain ⟨hb1,hb2⟩:=hb
   have hS:SameT L R i k:=of_decide_eq_true hb2
   have hub:t.ub.getD k false=false:=by simpa using hb1
   have hfirst:∀ k',k'<k→SameT L R i k'→t.ub.getD k' false=true:=by
    intro k' hk' hS'
    rw [List.find?_range_eq_some] at hf
    have:=hf.2.2 k' hk'
    rw [open Classical in decide_eq_true hS'] at this
    simpa using this
   have hsk:=zx7 hS
   have hfi:=hC.fitL i hi
   have hfk:=hC.fitR k hkM
   rw [← hsk] at hfk
   have hpi:=hC.pos i
   have hout:(zg6 L R hx hy t i).out=(o++[(i,k)]).map prOf:=by
    rw [hst]
    simp only [List.map_append,List.map_cons,List.map_nil,hI.out]
    rfl
   refine ⟨hu',k,hkM,hS,hub,hfirst,hout,⟨hout, ?_, ?_,fun j=>?_,fun j=>?_,fun q hq=>?_, ?_,fun j hj k' hk' hS'=>?_⟩⟩
   ·rw [hst];simp only [zlx];exact hI.la
   ·rw [hst];simp only [zlx];exact hI.lb
   ·rw [hst]
    simp only
    rw [show size (nodeL L (i:Int))=szn L i from rfl,zqb (by rw [hI.la];exact hfi) j,hI.ma j]
    constructor
    ·rintro (⟨q,hq,h⟩ | h)
     ·exact ⟨q,List.mem_append_left _ hq,h⟩
     ·exact ⟨(i,k),List.mem_append_right _ (by simp),h⟩
    ·rintro ⟨q,hq,h⟩
     rcases List.mem_append.1 hq with hq | hq
     ·exact Or.inl ⟨q,hq,h⟩
     ·obtain rfl:q=(i,k):=by simpa using hq
      exact Or.inr h
   ·rw [hst]
    simp only
    rw [show size (nodeL L (i:Int))=szn L i from rfl,zqb (by rw [hI.lb];exact hfk) j,hI.mb j]
    constructor
    ·rintro (⟨q,hq,h⟩ | h)
     ·exact ⟨q,List.mem_append_left _ hq,h⟩
     ·exact ⟨(i,k),List.mem_append_right _ (by simp),h⟩
    ·rintro ⟨q,hq,h⟩
     rcases List.mem_append.1 hq with hq | hq
     ·exact Or.inl ⟨q,hq,h⟩
     ·obtain rfl:q=(i,k):=by simpa using hq
      exact Or.inr h
   ·rcases List.mem_append.1 hq with hq | hq
    ·exact ⟨more (hI.prs q hq).1,(hI.prs q hq).2⟩
    ·obtain rfl:q=(i,k):=by simpa using hq
     exact ⟨by simp,hi,hkM,hS⟩
   ·rw [List.pairwise_append]
    refine ⟨hI.dis,List.pairwise_singleton _ _,fun p hp q hq=>?_⟩
    obtain rfl:q=(i,k):=by simpa using hq
    obtain ⟨p1,p2,p3,p4⟩:=hI.prs p hp
    have hsp:=hP p.1 p1
    have hps:=zx7 p4
    have na:¬ (p.1≤i∧i<p.1+szn L p.1):=fun h=>hu ((hI.ma i).2 ⟨p,hp,h⟩)
    have nb:¬ (p.2≤k∧k<p.2+szn L p.1):=fun h=>by
     have:=(hI.mb k).2 ⟨p,hp,h⟩
     rw [hub] at this;cases this
    have hpp:=hC.pos p.1
    have l1:=hC.lamL i p.1 hi
    have l2:=hC.lamR k p.2 hkM
    rw [← hsk,← hps] at l2
    constructor
    ·show p.1+szn L p.1≤i∨i+szn L i≤p.1
     omega
    ·show p.2+szn L p.1≤k∨k+szn L i≤p.2
     omega
   ·have hold:j∈P→t.ua.getD j false=true∨t.ub.getD k' false=true:=fun hj=>hI.max j hj k' hk' hS'
    rw [hst]
    simp only
    rw [show size (nodeL L (i:Int))=szn L i from rfl,zqb (by rw [hI.la];exact hfi) j,zqb (by rw [hI.lb];exact hfk) k']
    rcases List.mem_append.1 hj with hj | hj
    ·rcases hold hj with h | h
     ·exact Or.inl (Or.inl h)
     ·exact Or.inr (Or.inl h)
    ·obtain rfl:j=i:=by simpa using hj
     exact Or.inl (Or.inr ⟨Nat.le_refl _,by omega⟩)
theorem zpo (L R:List Node):TwI L R [] ⟨List.replicate L.length false,List.replicate R.length false,[]⟩ []:=by
 have rep:∀ n j,¬ (List.replicate n false).getD j false=true:=by
  intro n j
  rw [List.getD_eq_getElem?_getD,List.getElem?_replicate]
  split<;>simp
 refine ⟨rfl,by simp,by simp,fun j=>⟨fun h=>absurd h (rep _ _),fun h=>?_⟩,fun j=>⟨fun h=>absurd h (rep _ _),fun h=>?_⟩,fun q hq=>(by cases hq),List.Pairwise.nil,fun i hi=>(by cases hi)⟩
 ·obtain ⟨q,hq,_⟩:=h;cases hq
 ·obtain ⟨q,hq,_⟩:=h;cases hq
theorem yaj {L R:List Node}{hx hy:List Int} (hC:TwC L R hx hy):∀ (l:List Nat) (P:List Nat) (t:Tw) (o:List (Nat×Nat)),TwI L R P t o→(∀ i∈l,i<L.length)→(∀ i∈l,∀ j∈P,szn L i≤szn L j)→l.Pairwise (fun i j=>szn L j≤szn L i) →
  ∃ o',TwI L R (P++l) (l.foldl (zg6 L R hx hy) t) o'∧o'.length≤o.length+l.length
 | [],P,t,o,hI,_,_,_=>⟨o,by rw [List.append_nil];exact hI,Nat.le_refl _⟩
 | i :: l,P,t,o,hI,h1,h2,h3=>by
  obtain ⟨h4,h5⟩:=List.pairwise_cons.1 h3
  have hnext:∃ o2,TwI L R (P++[i]) (zg6 L R hx hy t i) o2∧o2.length≤o.length+1:=by
   rcases z1g hC hI (h1 i List.mem_cons_self) (h2 i List.mem_cons_self) with ⟨_,e,h⟩ | ⟨_,_,e,h⟩ | ⟨_,k,_,_,_,_,_,h⟩
   ·rw [e];exact ⟨o,h,by omega⟩
   ·rw [e];exact ⟨o,h,by omega⟩
   ·exact ⟨_,h,by simp⟩
  obtain ⟨o2,h,hl⟩:=hnext
  obtain ⟨o',h',hl'⟩:=yaj hC l (P++[i]) _ o2 h (fun j hj=>h1 j (List.mem_cons_of_mem _ hj)) (fun j hj q hq=>by
   rcases List.mem_append.1 hq with hq | hq
   ·exact h2 j (List.mem_cons_of_mem _ hj) q hq
   ·obtain rfl:q=i:=by simpa using hq
    exact h4 j hj) h5
  refine ⟨o', ?_,by rw [List.length_cons];omega⟩
  rw [List.foldl_cons]
  rw [List.append_assoc] at h'
  exact h'
end Xr

set_option linter.unusedVariables false
set_option linter.unusedSimpArgs false
namespace Xr
open Go Go.Ev
theorem z0z {l:List Pair} (hl:l.length<65536) (hn:(l.map (·.Old)).Nodup):∃ t,zhe l=some t∧t.Perm l∧t.Pairwise (fun x y=>x.Old<y.Old):=by
 unfold zhe
 by_cases h2:l.length<2
 ·rw [if_pos h2]
  refine ⟨l,rfl,List.Perm.refl _, ?_⟩
  match l,h2 with
  | [],_=>exact List.Pairwise.nil
  | [x],_=>exact List.pairwise_singleton _ _
  | _ :: _ :: _,h=>simp at h;omega
 ·rw [if_neg h2]
  unfold zlj
  rw [if_pos (by omega)]
  obtain ⟨k,hk⟩:=z83 l.length hl
  have hw:IntKind.wrap .u64 (l.length:Int)=l.length:=zo1 (by omega) (by omega)
  rw [hw,hk,Option.bind_some]
  have keyed:Keyed cmpT (·.Old) l:=by
   intro x hx y hy
   refine ⟨_,rfl, ?_⟩
   rw [zhr]
   unfold lessV
   simp
  obtain ⟨t,ht,hp,hs⟩:=z67 (p:=cmpT) (key:=(·.Old)) keyed hn hl k
  unfold pdqF
  rw [ht,Option.bind_some,if_pos hp.length_eq]
  exact ⟨t,rfl,hp,hs⟩
theorem zz4 {a b:Node}{i k:Nat} (hi:i<size a) (hk:k<size b) (h:SameT (subs a) (subs b) i k):(hsP (bareQ false) b).getD k 0=(hsP (bareQ false) a).getD i 0:=by
 obtain ⟨x,hx⟩:∃ x,(subs a)[i]?=some x:=⟨_,List.getElem?_eq_getElem (by rw [zdr];exact hi)⟩
 obtain ⟨y,hy⟩:∃ y,(subs b)[k]?=some y:=⟨_,List.getElem?_eq_getElem (by rw [zdr];exact hk)⟩
 have e:barV x=barV y:=by
  unfold SameT at h
  rwa [zic hx,zic hy] at h
 rw [List.getD_eq_getElem?_getD,List.getD_eq_getElem?_getD,zvf _ a i x hx,zvf _ b k y hy,← zsy,← e,zsy]
theorem zpw (L:List Node) (i:Nat):0<szn L i:=zlr _
theorem z5b (a b:Node):TwC (subs a) (subs b) (hsP (bareQ false) a) (hsP (bareQ false) b) :=
 ⟨zxf a,zxf b,zk1 a,zk1 b,fun i k hi hk h=>zz4 (by rw [← zdr];exact hi) (by rw [← zdr];exact hk) h,zpw _⟩
theorem zk0 (L:List Node):(szL L).length=L.length:=by unfold szL;rw [List.length_map]
theorem zlp {L:List Node}{i:Nat} (h:i<L.length):(szL L).getD i 0=(szn L i:Int):=by
 have e:=List.getElem?_eq_getElem h
 rw [List.getD_eq_getElem?_getD]
 unfold szL szn
 rw [List.getElem?_map,e,zic e]
 rfl
theorem zw3 {a b:Node} (ha:size a<2 ^ 15) (hb:size b<2 ^ 15) (hwa:zgt a<2 ^ 40) (hwb:zgt b<2 ^ 40):∃ r o od,zg4 a b=some r∧od.Perm (List.range (size a))∧od.Pairwise (ztd (szL (subs a))) ∧
  TwI (subs a) (subs b) od (twAll (subs a) (subs b) (hsP (bareQ false) a) (hsP (bareQ false) b) od) o∧r.Perm (o.map prOf)∧r.Pairwise (fun x y=>x.Old<y.Old):=by
 have hN:=zdr a
 have hM:=zdr b
 obtain ⟨od,h1,h2,h3⟩:=z7x (w:=szL (subs a)) (by rw [zk0,hN];omega) (fun v hv=>by
  unfold szL at hv
  obtain ⟨x,hx,rfl⟩:=List.mem_map.1 hv
  obtain ⟨i,hi⟩:=List.mem_iff_getElem?.1 hx
  have:=zni a i x hi
  omega)
 rw [zk0,hN] at h1 h2
 have hmem:∀ i∈od,i<(subs a).length:=fun i hi=>by rw [hN];exact List.mem_range.1 (h2.mem_iff.1 hi)
 obtain ⟨o,h4,h5⟩:=yaj (z5b a b) od [] _ [] (zpo _ _) hmem (fun i _ j hj=>by cases hj) (List.Pairwise.imp_of_mem (fun {i j} hi hj hB=>by
  unfold ztd at hB
  rw [zlp (hmem i hi),zlp (hmem j hj)] at hB
  omega) h3)
 rw [List.nil_append] at h4
 have hol:od.length=size a:=by rw [h2.length_eq,List.length_range]
 have hlen:(o.map prOf).length<65536:=by rw [List.length_map];simp only [List.length_nil] at h5;omega
 have hnd:((o.map prOf).map (·.Old)).Nodup:=by
  rw [List.map_map,List.Nodup,List.pairwise_map]
  refine List.Pairwise.imp_of_mem (fun {p q} hp hq hD=>?_) h4.dis
  have p1:=zpw (subs a) p.1
  have p2:=zpw (subs a) q.1
  unfold Dj at hD
  simp only [Function.comp,prOf]
  omega
 obtain ⟨r,hr,hp,hs⟩:=z0z hlen hnd
 refine ⟨r,o,od, ?_,h2,h3,h4,hp,hs⟩
 unfold zg4
 rw [zxx (by omega) hwa,zxx (by omega) hwb]
 simp only [Option.bind_some]
 rw [if_pos ⟨by omega,by omega,znv _ _,znv _ _⟩,h1,Option.bind_some]
 simp only []
 rw [if_pos ⟨trivial,by rw [List.length_map,hol],fun v hv=>by
  obtain ⟨i,hi,rfl⟩:=List.mem_map.1 hv
  have:=hmem i hi
  omega⟩]
 have e:(od.map fun (k:Nat)=>(k:Int)).map Int.toNat=od:=by
  rw [List.map_map]
  exact (List.map_congr_left (fun v _=>by simp [Function.comp])).trans (List.map_id _)
 rw [e,show (twAll (subs a) (subs b) (hsP (bareQ false) a) (hsP (bareQ false) b) od).out=o.map prOf from h4.out]
 exact hr
end Xr

set_option linter.unusedVariables false
set_option linter.unusedSimpArgs false
namespace Xr
open Go Go.Ev
theorem in_eq {x r s:Int} (h0:0≤r) (h1:r<2 ^ 40) (h2:0≤s) (h3:s<2 ^ 40):zl3 x r s=some (decide (r≤x∧x<r+s)):=by
 unfold zl3
 rw [zdm (by omega) (by omega)]
 by_cases h:r≤x
 ·rw [if_pos h];simp [h]
 ·rw [if_neg h];simp [h]
theorem ybd {L:List Node} (hL:L.length<2 ^ 20) (hLs:∀ (k:Nat) v,L[k]?=some v→size v<2 ^ 40):zj4 L=some (szL L):=by
 unfold zj4
 have h1:=zjf (step:=zhp L) (fun i=>((i:Int),(szL L).take i)) L.length (fun i hi=>by
  obtain ⟨v,hv⟩:∃ v,L[i]?=some v:=⟨_,List.getElem?_eq_getElem hi⟩
  have hs:(szL L)[i]?=some (size v:Int):=by unfold szL;rw [List.getElem?_map,hv];rfl
  have hl:=zk0 L
  simp only [zhp,zb4,hv,Option.bind_some,zgs,if_pos (hLs i v hv),zbf (show i<2 ^ 62 by omega)]
  rw [if_pos (by omega),if_pos (by rw [List.length_take];omega),List.take_add_one,hs]
  rfl)
 have e0:(((0:Nat):Int),(szL L).take 0)=((0:Int),([]:List Int)):=by simp
 rw [← e0,h1,zat (n:=0) (s':=((L.length:Int),szL L))]
 ·rfl
 ·simp only [zhp]
  rw [if_neg (by omega),← zk0 L,List.take_length]
theorem z5o {n:Node} (h:size n<2 ^ 20):zkd n=some (subs n):=by
 unfold zkd zfg
 rw [if_pos (by simp only [List.length_nil];omega)]
 rfl
open Classical in
theorem z3z {x y:Node} (h:size x<2 ^ 40) {b:Bool} (hb:b=true↔barV x=barV y):zfr x y=some b:=by
 unfold zfr
 rw [if_pos h]
 congr 1
 rw [Bool.eq_iff_iff,hb]
 exact decide_eq_true_iff
theorem z5j {L:List Node}{r:List Pair} (hL:L.length<2 ^ 20) (hLs:∀ i,szn L i<2 ^ 20) (hr:r.length<2 ^ 20) (hp:∀ p∈r,∃ i k:Nat,p=prOf (i,k)∧i<L.length∧k<2 ^ 20) (x:Nat) (old:Bool) :
  ∃ b,zlq r (szL L) (x:Int) old=some b∧(b=true↔∀ i k:Nat,prOf (i,k)∈r→¬ ((if old then i else k)≤x∧x<(if old then i else k)+szn L i)):=by
 have key:∀ (l:List Pair) (j:Nat),r.drop j=l→j≤r.length→∃ b,(iter (zhh r (szL L) (x:Int) old) (j:Int)).bind (fun
  | .jmp _ s9_24=>some true
  | .ret r25=>some r25
  | .next _=>none)=some b∧(b=true↔∀ i k:Nat,prOf (i,k)∈l→¬ ((if old then i else k)≤x∧x<(if old then i else k)+szn L i)):=by
  intro l
  induction l with
  | nil =>
   intro j hl hj
   obtain rfl:=zjw hl hj
   refine ⟨true, ?_,by simp⟩
   rw [zat (n:=0) (s':=(r.length:Int))]
   ·rfl
   ·simp only [zhh];rw [if_neg (by omega)]
  | cons p l ih =>
   intro j hl hj
   obtain ⟨hp1,hl',hj'⟩:=zil hl
   obtain ⟨i,k,rfl,hi,hk⟩:=hp p (List.mem_of_getElem? hp1)
   obtain ⟨b,hb,hb2⟩:=ih (j+1) hl' (by omega)
   have hsz:rd (szL L) (i:Int)=some (szn L i:Int):=by
    rw [zb4,List.getElem?_eq_getElem (by rw [zk0];exact hi)]
    have:=zlp hi
    rw [List.getD_eq_getElem?_getD,List.getElem?_eq_getElem (by rw [zk0];exact hi)] at this
    exact congrArg some this
   have hs:=hLs i
   have hin:∀ q:Nat,q<2 ^ 20→zl3 (x:Int) (q:Int) (szn L i:Int)=some (decide (q≤x∧x<q+szn L i)):=fun q hq=>by
    rw [in_eq (by omega) (by omega) (by omega) (by omega)]
    congr 1
    rw [Bool.eq_iff_iff,decide_eq_true_iff,decide_eq_true_iff];omega
   have hstep:zhh r (szL L) (x:Int) old (j:Int)=if decide ((if old then i else k)≤x∧x<(if old then i else k)+szn L i)=true then some (.ret false) else some (.next ((j+1:Nat):Int)):=by
    simp only [zhh,zb4,hp1,Option.bind_some,zbf (show j<2 ^ 62 by omega)]
    rw [if_pos (by omega)]
    cases old with
    | true=>simp only [prOf,hsz,Option.bind_some,if_true,hin i (by omega)]
    | false=>simp only [prOf,hsz,Option.bind_some,Bool.false_eq_true,if_false,hin k hk]
   by_cases hc:(if old then i else k)≤x∧x<(if old then i else k)+szn L i
   ·rw [if_pos (decide_eq_true hc)] at hstep
    refine ⟨false,by rw [zjq hstep];rfl, ?_⟩
    simp only [Bool.false_eq_true,false_iff]
    intro h
    exact h i k List.mem_cons_self hc
   ·rw [if_neg (by simpa using hc)] at hstep
    refine ⟨b,by rw [zaz hstep];exact hb, ?_⟩
    rw [hb2]
    constructor
    ·intro h i' k' hm
     rcases List.mem_cons.1 hm with e | hm
     ·have e1:i'=i:=by have:=congrArg Pair.Old e;simp only [prOf] at this;omega
      have e2:k'=k:=by have:=congrArg Pair.New e;simp only [prOf] at this;omega
      rw [e1,e2];exact hc
     ·exact h i' k' hm
    ·intro h i' k' hm
     exact h i' k' (List.mem_cons_of_mem _ hm)
 exact key r 0 rfl (Nat.zero_le _)
theorem zzq (l:List Pair) (h:l.length<2 ^ 40):zg2 l l=some true:=by
 unfold zg2
 rw [if_pos rfl]
 have h1:=zjf (step:=zfk l l) (fun i=>(i:Int)) l.length (fun i hi=>by
  obtain ⟨v,hv⟩:∃ v,l[i]?=some v:=⟨_,List.getElem?_eq_getElem hi⟩
  simp only [zfk,zb4,hv,Option.bind_some,zbf (show i<2 ^ 62 by omega)]
  rw [if_pos (by omega)]
  simp)
 rw [show (0:Int)=((0:Nat):Int) from rfl,h1,zat (n:=0) (s':=(l.length:Int))]
 ·rfl
 ·simp only [zfk];rw [if_neg (by omega)]
structure TwR (L R:List Node) (r:List Pair):Prop where
 prs:∀ p∈r,∃ i k:Nat,p=prOf (i,k)∧i<L.length∧k<R.length∧SameT L R i k
 asc:r.Pairwise fun x y=>x.Old<y.Old
 dis:∀ i k i' k':Nat,prOf (i,k)∈r→prOf (i',k')∈r→i≠i'→Dj L (i,k) (i',k')
 max:∀ i k,i<L.length→k<R.length→SameT L R i k→(∃ i' k':Nat,prOf (i',k')∈r∧i'≤i∧i<i'+szn L i')∨∃ i' k':Nat,prOf (i',k')∈r∧k'≤k∧k<k'+szn L i'
theorem Dj.symm {L:List Node}{p q:Nat×Nat} (h:Dj L p q):Dj L q p:=⟨h.1.symm,h.2.symm⟩
theorem z60 {p q:Nat×Nat} (h:prOf p=prOf q):p=q:=by
 have h1:=congrArg Pair.Old h
 have h2:=congrArg Pair.New h
 simp only [prOf] at h1 h2
 exact Prod.ext (by omega) (by omega)
theorem yjv {a b:Node}{r:List Pair}{o:List (Nat×Nat)}{od:List Nat}{t:Tw} (h2:od.Perm (List.range (size a))) (hI:TwI (subs a) (subs b) od t o) (hp:r.Perm (o.map prOf)) (hs:r.Pairwise (fun x y=>x.Old<y.Old)):TwR (subs a) (subs b) r:=by
 have hm:∀ q:Nat×Nat,prOf q∈r↔q∈o:=fun q=>by
  rw [hp.mem_iff,List.mem_map]
  exact ⟨fun ⟨q',h,e⟩=>by rw [← z60 e];exact h,fun h=>⟨q,h,rfl⟩⟩
 refine ⟨fun p hpr=>?_,hs,fun i k i' k' h h' hne=>?_,fun i k hi hk hS=>?_⟩
 ·obtain ⟨q,hq,rfl⟩:=List.mem_map.1 (hp.mem_iff.1 hpr)
  obtain ⟨_,q1,q2,q3⟩:=hI.prs q hq
  exact ⟨q.1,q.2,rfl,q1,q2,q3⟩
 ·have m1:=(hm (i,k)).1 h
  have m2:=(hm (i',k')).1 h'
  obtain ⟨x,hx⟩:=List.mem_iff_getElem?.1 m1
  obtain ⟨y,hy⟩:=List.mem_iff_getElem?.1 m2
  obtain ⟨x1,x2⟩:=List.getElem?_eq_some_iff.1 hx
  obtain ⟨y1,y2⟩:=List.getElem?_eq_some_iff.1 hy
  have hd:=List.pairwise_iff_getElem.1 hI.dis
  rcases Nat.lt_trichotomy x y with hxy | hxy | hxy
  ·have:=hd x y x1 y1 hxy
   rwa [x2,y2] at this
  ·subst hxy
   rw [hx] at hy
   have:=congrArg Prod.fst (Option.some.inj hy)
   exact absurd this hne
  ·have:=hd y x y1 x1 hxy
   rw [x2,y2] at this
   exact this.symm
 ·have hio:i∈od:=h2.mem_iff.2 (List.mem_range.2 (by rw [← zdr];exact hi))
  rcases hI.max i hio k hk hS with h | h
  ·obtain ⟨q,hq,h1,h2⟩:=(hI.ma i).1 h
   exact Or.inl ⟨q.1,q.2,(hm q).2 hq,h1,h2⟩
  ·obtain ⟨q,hq,h1,h2⟩:=(hI.mb k).1 h
   exact Or.inr ⟨q.1,q.2,(hm q).2 hq,h1,h2⟩
theorem ybm {N:Nat}{r:List Pair} (hs:r.Pairwise fun x y=>x.Old<y.Old) (h0:∀ p∈r,0≤p.Old∧p.Old<(N:Int)):r.length≤N:=by
 have hl:∀ (l:List Pair) (n:Nat),l.Pairwise (fun x y=>x.Old<y.Old)→(∀ p∈l,(n:Int)≤p.Old)→(∀ p∈l,p.Old<(N:Int))→l≠[]→n+l.length≤N:=by
  intro l
  induction l with
  | nil=>intro n _ _ _ h;exact absurd rfl h
  | cons p l ih =>
   intro n hp h1 h2 _
   obtain ⟨g1,g2⟩:=List.pairwise_cons.1 hp
   have a1:=h1 p List.mem_cons_self
   have a2:=h2 p List.mem_cons_self
   cases hl0:l with
   | nil=>simp only [List.length_cons,List.length_nil];omega
   | cons q l' =>
    have:=ih (n+1) g2 (fun q hq=>by have:=g1 q hq;omega) (fun q hq=>h2 q (List.mem_cons_of_mem _ hq)) (by rw [hl0];simp)
    rw [hl0] at this
    simp only [List.length_cons] at this ⊢
    omega
 by_cases hr0:r=[]
 ·rw [hr0];simp
 ·have:=hl r 0 hs (fun p hp=>by have:=h0 p hp;omega) (fun p hp=>(h0 p hp).2) hr0
  omega
theorem ydi {a b:Node} (ha:size a<2 ^ 15) (hb:size b<2 ^ 15) (hwa:zgt a<2 ^ 40) (hwb:zgt b<2 ^ 40):∃ r,zg4 a b=some r∧r.length≤size a∧TwR (subs a) (subs b) r:=by
 obtain ⟨r,o,od,h1,h2,h3,h4,h5,h6⟩:=zw3 ha hb hwa hwb
 have hR:=yjv h2 h4 h5 h6
 refine ⟨r,h1, ?_,hR⟩
 exact ybm hR.asc (fun p hp=>by
  obtain ⟨i,k,rfl,h,_⟩:=hR.prs p hp
  rw [zdr] at h
  simp only [prOf];omega)
theorem zzy {a:Node} (ha:size a<2 ^ 15) (hwa:zgt a<2 ^ 40):zg4 a a=some [⟨0,0⟩]:=by
 obtain ⟨r,o,od,h1,h2,h3,h4,h5,h6⟩:=zw3 ha ha hwa hwa
 have hN:=zdr a
 have hp:=zlr a
 have hC:=z5b a a
 have hz:nodeL (subs a) ((0:Nat):Int)=a:=zic (by rw [zwu];rfl)
 have hs0:szn (subs a) 0=size a:=by unfold szn;rw [hz]
 have h0m:0∈od:=h2.mem_iff.2 (List.mem_range.2 hp)
 cases hod:od with
 | nil=>rw [hod] at h0m;cases h0m
 | cons x l =>
  have hx0:x=0:=by
   rw [hod] at h0m
   rcases List.mem_cons.1 h0m with e | hm
   ·exact e.symm
   ·rw [hod] at h3
    have hB:=(List.pairwise_cons.1 h3).1 0 hm
    have hxm:x<(subs a).length:=by rw [hN];exact List.mem_range.1 (h2.mem_iff.1 (by rw [hod];exact List.mem_cons_self))
    unfold ztd at hB
    rw [zlp hxm,zlp (by omega),hs0] at hB
    have:=hC.fitL x hxm
    omega
  subst hx0
  rw [hod] at h4
  unfold twAll at h4
  rw [List.foldl_cons] at h4
  have hS0:SameT (subs a) (subs a) 0 0:=rfl
  rcases z1g hC (zpo (subs a) (subs a)) (i:=0) (by omega) (fun j hj=>by cases hj) with ⟨e,_⟩ | ⟨_,e,_⟩ | ⟨_,k,k1,k2,k3,k4,k5,k6⟩
  ·obtain ⟨q,hq,_⟩:=((zpo (subs a) (subs a)).ma 0).1 e;cases hq
  ·obtain ⟨q,hq,_⟩:=((zpo (subs a) (subs a)).mb 0).1 (e 0 (by omega) hS0);cases hq
  ·have hk0:k=0:=by
    apply Nat.le_antisymm _ (Nat.zero_le _)
    apply Nat.le_of_not_lt
    intro hk
    obtain ⟨q,hq,_⟩:=((zpo (subs a) (subs a)).mb 0).1 (k4 0 (by omega) hS0);cases hq
   subst hk0
   have stay:∀ (l:List Nat) (P:List Nat) (t:Tw),TwI (subs a) (subs a) P t [(0,0)]→(∀ i∈l,i<(subs a).length)→l.foldl (zg6 (subs a) (subs a) (hsP (bareQ false) a) (hsP (bareQ false) a)) t=t:=by
    intro l
    induction l with
    | nil=>intro P t _ _;rfl
    | cons i l ih =>
     intro P t hI hl
     have hi:=hl i List.mem_cons_self
     have hu:t.ua.getD i false=true:=(hI.ma i).2 ⟨(0,0),by simp,Nat.zero_le _,by rw [hs0];omega⟩
     rw [List.foldl_cons,show zg6 (subs a) (subs a) (hsP (bareQ false) a) (hsP (bareQ false) a) t i=t from by unfold zg6;rw [if_pos hu]]
     exact ih P t hI (fun j hj=>hl j (List.mem_cons_of_mem _ hj))
   rw [stay l _ _ k6 (fun i hi=>by rw [hN];exact List.mem_range.1 (h2.mem_iff.1 (by rw [hod];exact List.mem_cons_of_mem _ hi)))] at h4
   have ho:o.map prOf=[prOf (0,0)]:=by
    rw [← h4.out,k5];rfl
   rw [ho] at h5
   rw [h1,List.perm_singleton.1 h5]
   rfl
end Xr

set_option linter.unusedVariables false
set_option linter.unusedSimpArgs false
namespace Xr
open Go Go.Ev
theorem plain_twins (x0 x1:Node):zgl x0 x1=some true:=by
 unfold zgl zh3
 obtain ⟨l0,e0,h0⟩:=zxp (n:=x0) (a:=60) (b:=60) (c:=4000) (by decide) (by decide) (by decide) (by decide) (by decide) (by decide)
 obtain ⟨l1,e1,h1⟩:=zxp (n:=x1) (a:=60) (b:=60) (c:=4000) (by decide) (by decide) (by decide) (by decide) (by decide) (by decide)
 rw [e0,Option.bind_some]
 cases l0 with
 | false=>rfl
 | true =>
 rw [if_pos rfl,e1,Option.bind_some]
 cases l1 with
 | false=>rfl
 | true =>
 rw [if_pos rfl]
 obtain ⟨a1,_,a3⟩:=h0 rfl
 obtain ⟨b1,_,b3⟩:=h1 rfl
 have hN:=zdr x0
 have hM:=zdr x1
 have hLn:∀ (k:Nat) v,(subs x0)[k]?=some v→size v<2 ^ 40:=fun k v hv=>by
  have:=zni x0 k v hv;omega
 have hszn:∀ i,szn (subs x0) i<2 ^ 20:=fun i=>by
  by_cases hi:i<(subs x0).length
  ·have:=zk1 x0 i hi
   unfold szn;omega
  ·unfold szn nodeL
   rw [Int.toNat_natCast,List.getD_eq_getElem?_getD,List.getElem?_eq_none (by omega)]
   simp [size,sizes]
 rw [z5o (by omega),Option.bind_some,z5o (by omega),Option.bind_some,ybd (by omega) hLn,Option.bind_some]
 obtain ⟨r,hr,hlen,hR⟩:=ydi (a:=x0) (b:=x1) (by omega) (by omega) (by omega) (by omega)
 rw [hr,Option.bind_some]
 generalize hL:subs x0=L at *
 generalize hRr:subs x1=R at *
 have hget:∀ j:Nat,j<r.length→∃ i k:Nat,r[j]?=some (prOf (i,k))∧i<L.length∧k<R.length∧SameT L R i k:=fun j hj=>by
  obtain ⟨i,k,e,h1,h2,h3⟩:=hR.prs r[j] (List.getElem_mem hj)
  exact ⟨i,k,by rw [List.getElem?_eq_getElem hj,e],h1,h2,h3⟩
 have hnode:∀ {l:List Node}{i:Nat},i<l.length→rd l (i:Int)=some (nodeL l (i:Int)):=fun {l i} hi=>by
  rw [zb4,List.getElem?_eq_getElem hi,zic (List.getElem?_eq_getElem hi)]
 have s0:=zjf (step:=zey L R (szL L) r x0.Kind x0.Text x0.Gaps x0.Kids) (fun j=>(j:Int)) r.length (fun j hj=>by
  obtain ⟨i,k,e,h1,h2,h3⟩:=hget j hj
  have hs:zfr (nodeL L (i:Int)) (nodeL R (k:Int))=some true:=z3z (Nat.lt_trans (hszn i) (by decide)) ⟨fun _=>h3,fun _=>rfl⟩
  simp only [zey,zb4,e,Option.bind_some,zbf (show j<2 ^ 62 by omega)]
  rw [if_pos (by omega)]
  rw [if_neg (show ¬ (prOf (i,k)).Old<0 by simp only [prOf];omega),if_neg (show ¬ (L.length:Int)≤(prOf (i,k)).Old by simp only [prOf];omega),if_neg (show ¬ (prOf (i,k)).New<0 by simp only [prOf];omega),if_neg (show ¬ (R.length:Int)≤(prOf (i,k)).New by simp only [prOf];omega),show rd L (prOf (i,k)).Old=_ from hnode h1,Option.bind_some,show rd R (prOf (i,k)).New=_ from hnode h2,Option.bind_some,hs,Option.bind_some,if_pos rfl]
  by_cases hj0:(0:Int)<(j:Int)
  ·rw [if_pos hj0,zhc (by omega) (by omega),zb4]
   obtain ⟨i',k',e',_⟩:=hget (j - 1) (by omega)
   have hlt:=List.pairwise_iff_getElem.1 hR.asc (j - 1) j (by omega) hj (by omega)
   have g1:r[j - 1]=prOf (i',k'):=Option.some.inj ((List.getElem?_eq_getElem (by omega)).symm.trans e')
   have g2:r[j]=prOf (i,k):=Option.some.inj ((List.getElem?_eq_getElem hj).symm.trans e)
   rw [g1,g2] at hlt
   simp only [prOf] at hlt
   rw [e',Option.bind_some,if_neg (by simp only [prOf];omega)]
  ·rw [if_neg hj0])
 rw [show (0:Int)=((0:Nat):Int) from rfl,s0,zat (n:=0) (s':=(r.length:Int)) (by simp only [zey];rw [if_neg (by omega)])]
 simp only [Option.bind_some]
 have hsz:∀ i:Nat,i<L.length→rd (szL L) (i:Int)=some (szn L i:Int):=fun i hi=>by
  rw [zb4,List.getElem?_eq_getElem (by rw [zk0];exact hi)]
  have:=zlp hi
  rw [List.getD_eq_getElem?_getD,List.getElem?_eq_getElem (by rw [zk0];exact hi)] at this
  exact congrArg some this
 have s1:=zjf (step:=zeu L R (szL L) r x0.Kind x0.Text x0.Gaps x0.Kids) (fun j=>(j:Int)) r.length (fun j hj=>by
  obtain ⟨i,k,e,h1,h2,h3⟩:=hget j hj
  have s2:=zjf (step:=zev L R (szL L) r (j:Int) x0.Kind x0.Text x0.Gaps x0.Kids) (fun q=>(q:Int)) r.length (fun q hq=>by
   obtain ⟨i',k',e',h1',h2',h3'⟩:=hget q hq
   simp only [zev,zb4,e,e',Option.bind_some,zbf (show q<2 ^ 62 by omega)]
   rw [if_pos (by omega)]
   by_cases hjq:(j:Int)=(q:Int)
   ·rw [if_pos hjq]
   ·rw [if_neg hjq]
    have hne:i≠i':=by
     intro e0
     have asc:=List.pairwise_iff_getElem.1 hR.asc
     have g1:r[j]=prOf (i,k):=Option.some.inj ((List.getElem?_eq_getElem hj).symm.trans e)
     have g2:r[q]=prOf (i',k'):=Option.some.inj ((List.getElem?_eq_getElem hq).symm.trans e')
     rcases Nat.lt_or_gt_of_ne (show j≠q by omega) with h | h
     ·have:=asc j q hj hq h
      rw [g1,g2] at this;simp only [prOf] at this;omega
     ·have:=asc q j hq hj h
      rw [g1,g2] at this;simp only [prOf] at this;omega
    have hD:=hR.dis i k i' k' (List.mem_of_getElem? e) (List.mem_of_getElem? e') hne
    unfold Dj at hD
    simp only at hD
    have p1:=zpw L i;have p2:=zpw L i';have p3:=hszn i'
    simp only [prOf]
    rw [hsz i' h1',Option.bind_some,in_eq (by omega) (by omega) (by omega) (by omega),Option.bind_some,if_neg (by rw [decide_eq_true_iff];omega),in_eq (by omega) (by omega) (by omega) (by omega),Option.bind_some,if_neg (by rw [decide_eq_true_iff];omega)])
  simp only [zeu]
  rw [if_pos (by omega),show (0:Int)=((0:Nat):Int) from rfl,s2,zat (n:=4) (s':=(r.length:Int)) (by simp only [zev];rw [if_neg (by omega)])]
  simp only [Option.bind_some,zbf (show j<2 ^ 62 by omega)])
 rw [s1,zat (n:=2) (s':=(r.length:Int)) (by simp only [zeu];rw [if_neg (by omega)])]
 simp only [Option.bind_some]
 have hprs:∀ p∈r,∃ i k:Nat,p=prOf (i,k)∧i<L.length∧k<2 ^ 20:=fun p hp=>by
  obtain ⟨i,k,e,h1,h2,_⟩:=hR.prs p hp
  exact ⟨i,k,e,h1,by omega⟩
 have s3:=zjf (step:=zex L R (szL L) r x0.Kind x0.Text x0.Gaps x0.Kids) (fun j=>(j:Int)) L.length (fun j hj=>by
  have s4:=zjf (step:=zeq L R (szL L) r (j:Int) x0.Kind x0.Text x0.Gaps x0.Kids) (fun q=>(q:Int)) R.length (fun q hq=>by
   obtain ⟨f1,e1,g1⟩:=z5j (L:=L) (r:=r) (by omega) hszn (by omega) hprs j true
   obtain ⟨f2,e2,g2⟩:=z5j (L:=L) (r:=r) (by omega) hszn (by omega) hprs q false
   simp only [zeq,e1,e2,Option.bind_some,zbf (show q<2 ^ 62 by omega)]
   rw [if_pos (by omega)]
   by_cases hf1:f1=true
   ·rw [if_pos hf1]
    by_cases hf2:f2=true
    ·rw [if_pos hf2]
     rw [hnode hj,Option.bind_some,hnode hq,Option.bind_some]
     have hns:¬ SameT L R j q:=by
      intro hS
      rcases hR.max j q hj hq hS with ⟨i',k',m1,m2,m3⟩ | ⟨i',k',m1,m2,m3⟩
      ·exact g1.1 hf1 i' k' m1 ⟨m2,m3⟩
      ·exact g2.1 hf2 i' k' m1 ⟨m2,m3⟩
     rw [z3z (b:=false) (Nat.lt_trans (hszn j) (by decide)) ⟨fun h=>(by cases h),fun h=>absurd h hns⟩,Option.bind_some,if_neg (by simp)]
    ·rw [if_neg hf2]
   ·rw [if_neg hf1])
  simp only [zex]
  rw [if_pos (by omega),show (0:Int)=((0:Nat):Int) from rfl,s4,zat (n:=8) (s':=(R.length:Int)) (by simp only [zeq];rw [if_neg (by omega)])]
  simp only [Option.bind_some,zbf (show j<2 ^ 62 by omega)])
 rw [s3,zat (n:=6) (s':=(L.length:Int)) (by simp only [zex];rw [if_neg (by omega)])]
 simp only [Option.bind_some,if_true]
 rw [zzy (by omega) (by omega),Option.bind_some]
 rw [show ((0:Nat):Int)=0 from rfl,zzq _ (by decide)]
 rfl
end Xr

