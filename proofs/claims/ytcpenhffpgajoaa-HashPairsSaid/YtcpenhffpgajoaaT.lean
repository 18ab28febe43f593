/- A part of the proof: T. No conditions of its own. -/
import Derived.Test.YtcpenhffpgajoaaT0
import Derived.Test.YtcpenhffpgajoaaE5
namespace Xr
open Go Go.Ev
set_option linter.unusedVariables false
set_option linter.unusedSimpArgs false
section
variable {T : Type} {lt : T → T → Option Bool} {key rk : T → Int}
def KeyR (lt:T→T→Option Bool) (key rk:T→Int) (l:List T):Prop:=∀ x∈l,∀ z∈l,rk z<rk x→∃ c,lt x z=some c∧(c=true↔key x<key z)
theorem KeyR.seg {l m:List T}{a b:Nat} (h:KeyR lt key rk l) (hs:Seg l m a b):KeyR lt key rk m:=fun x hx y hy=>h x (hs.perm.mem_iff.1 hx) y (hs.perm.mem_iff.1 hy)
theorem zol {y:List T}{i j:Nat} (hk:KeyR lt key rk y) (hi:i<y.length) (hj:j<y.length) (hr:ka rk y j<ka rk y i):∃ c,gLess lt (i:Int) (j:Int) y=some c∧(c=true↔ka key y i<ka key y j):=by
 obtain ⟨u,hu⟩:=zce hi
 obtain ⟨v,hv⟩:=zce hj
 rw [zbq hu,zbq hv] at *
 obtain ⟨c,hc,hcc⟩:=hk u (List.mem_of_getElem? hu) v (List.mem_of_getElem? hv) hr
 exact ⟨c,by unfold gLess;rw [zb2,zb2,hu,hv];exact hc,hcc⟩
theorem zom {y:List T}{i j:Nat} (hi:i<y.length) (hj:j<y.length):∃ u v,y[i]?=some u∧y[j]?=some v∧swapL (i:Int) (j:Int) y=some ((y.set i v).set j u):=by
 obtain ⟨u,hu⟩:=zce hi
 obtain ⟨v,hv⟩:=zce hj
 exact ⟨u,v,hu,hv,by unfold swapL;rw [zb2,zb2,hu,hv];rfl⟩
theorem z19 {f:T→Int}{y:List T}{i j:Nat}{u v:T} (hu:y[i]?=some u) (hv:y[j]?=some v) (k:Nat):ka f ((y.set i v).set j u) k=if k=j then ka f y i else if k=i then ka f y j else ka f y k:=by
 rw [zbq hu,zbq hv]
 unfold ka
 rw [zgx hu hv]
 split
 ·rfl
 ·split<;>rfl
def Up (rk:T→Int) (l:List T) (a b:Nat):Prop:=∀ i j,a≤i→i<j→j<b→ka rk l i<ka rk l j
theorem zzp {l:List T}{a i:Nat} (hk:KeyR lt key rk l) (hl:l.length<2 ^ 40) (hil:i<l.length) (hai:a≤i) :
  ∀ (j:Nat) (y:List T),a≤j→j≤i→Seg l y a (i+1)→Sink key y a i j→(∀ q,a≤q→q≤i→q≠j→ka rk y q<ka rk y j) →
   ∃ (j':Nat) (y':List T),iter (gIns1 lt (a:Int)) ((j:Int),y)=some (.jmp 2 ((j':Int),y'))∧Seg l y' a (i+1)∧Asc key y' a (i+1):=by
 intro j
 induction j with
 | zero =>
  intro y h1 h2 hs hq hr
  refine ⟨0,y,zau ?_,hs,fun u v hu huv hv=>?_⟩
  ·simp only [gIns1]
   rw [if_neg (by omega)]
  ·by_cases hu0:u=0
   ·subst hu0;exact hq.2 v (by omega) (by omega)
   ·exact hq.1 u v hu huv (by omega) (by omega) (by omega)
 | succ j ih =>
  intro y h1 h2 hs hq hr
  by_cases hlt:a<j+1
  case neg =>
   obtain rfl:a=j+1:=by omega
   refine ⟨j+1,y,zau ?_,hs,fun u v hu huv hv=>?_⟩
   ·simp only [gIns1]
    rw [if_neg (by omega)]
   ·by_cases hu0:u=j+1
    ·subst hu0;exact hq.2 v (by omega) (by omega)
    ·exact hq.1 u v hu huv (by omega) (by omega) (by omega)
  have hyl:=hs.len
  have e1:w64 (((j+1:Nat):Int) - 1)=(j:Int):=by rw [zg9 (by omega) (by omega)];rfl
  obtain ⟨c,hc,hcc⟩:=zol (lt:=lt) (key:=key) (i:=j+1) (j:=j) (hk.seg hs) (by omega) (by omega) (hr j (by omega) (by omega) (by omega))
  obtain ⟨x,z,hx,hz,hsw⟩:=zom (y:=y) (i:=j+1) (j:=j) (by omega) (by omega)
  have hstep:gIns1 lt (a:Int) (((j+1:Nat):Int),y)=if c=true then some (.next ((j:Int),(y.set (j+1) z).set j x)) else some (.jmp 2 (((j+1:Nat):Int),y)):=by
   simp only [gIns1,e1,hc,Option.bind_some,hsw,List.length_set,if_true]
   rw [if_pos (by omega)]
  by_cases h0:c=true
  ·rw [if_pos h0] at hstep
   rw [zat hstep]
   have hlt':=hcc.1 h0
   have kk:=fun k=>z19 (f:=key) hx hz k
   have rr:=fun k=>z19 (f:=rk) hx hz k
   refine ih _ (by omega) (by omega) (hs.trans (Seg.swap hx hz (by omega) (by omega))) ⟨fun u v hu huv hv hu' hv'=>?_,fun v hv hvi=>?_⟩ (fun q h3 h4 h5=>?_)
   ·rw [kk,kk,if_neg hu',if_neg hv']
    by_cases hv1:v=j+1
    ·rw [if_pos hv1,if_neg (by omega)];exact hq.1 u j hu (by omega) (by omega) (by omega) (by omega)
    ·rw [if_neg hv1]
     by_cases hu1:u=j+1
     ·rw [if_pos hu1];exact hq.1 j v (by omega) (by omega) hv (by omega) (by omega)
     ·rw [if_neg hu1];exact hq.1 u v hu huv hv (by omega) (by omega)
   ·rw [kk,kk,if_pos rfl,if_neg (by omega)]
    by_cases hv1:v=j+1
    ·rw [if_pos hv1];omega
    ·rw [if_neg hv1];exact hq.2 v (by omega) hvi
   ·rw [rr,rr,if_neg h5,if_pos rfl]
    by_cases h6:q=j+1
    ·rw [if_pos h6];exact hr j (by omega) (by omega) (by omega)
    ·rw [if_neg h6];exact hr q h3 h4 h6
  ·rw [if_neg h0] at hstep
   refine ⟨j+1,y,zau hstep,hs,fun u v hu huv hv=>?_⟩
   have hge:ka key y j≤ka key y (j+1):=by
    have:=mt hcc.2 h0;omega
   by_cases hu1:u=j+1
   ·subst hu1;exact hq.2 v (by omega) (by omega)
   ·by_cases hv1:v=j+1
    ·subst hv1
     by_cases hu2:u=j
     ·subst hu2;exact hge
     ·have:=hq.1 u j hu (by omega) (by omega) (by omega) (by omega)
      omega
    ·exact hq.1 u v hu huv (by omega) hu1 hv1
theorem z5g {l:List T}{a b:Nat} (hk:KeyR lt key rk l) (hab:a≤b) (hb:b≤l.length) (hl:l.length<2 ^ 40) (hup:Up rk l a b):∃ l',gIns lt (a:Int) (b:Int) l=some l'∧Seg l l' a b∧Asc key l' a b:=by
 have key1:∀ (d i:Nat) (y:List T),i+d=max b (a+1)→a+1≤i→i≤max b (a+1)→Seg l y a i→Asc key y a i →
   ∃ (i':Nat) (y':List T),iter (gIns0 lt (a:Int) (b:Int)) ((i:Int),y)=some (.jmp 0 ((i':Int),y'))∧Seg l y' a (max b (a+1))∧Asc key y' a b:=by
  intro d
  induction d with
  | zero =>
   intro i y h1 h2 hm hs hq
   refine ⟨i,y,zau ?_,by rw [← h1];exact hs,fun u v hu huv hv=>hq u v hu huv (by omega)⟩
   simp only [gIns0]
   rw [if_neg (by omega)]
  | succ d ih =>
   intro i y h1 h2 hm hs hq
   have hib:i<b:=by omega
   have hyi:∀ k,i≤k→ka rk y k=ka rk l k:=fun k hk=>zit (hs.out k (Or.inr hk))
   obtain ⟨j',y',h3,h4,h5⟩:=zzp hk hl (a:=a) (i:=i) (by omega) (by omega) i y (by omega) (Nat.le_refl _) (hs.mono (Nat.le_refl _) (by omega)) ⟨fun u v hu huv hv hu' hv'=>hq u v hu huv (by omega),fun v hv hv'=>by omega⟩ (fun q h3 h4 h5=>by
    rw [hyi i (Nat.le_refl _)]
    exact hs.all (by omega) (by omega) (Q:=fun z=>z<ka rk l i) (fun k hk1 hk2=>hup k i hk1 hk2 hib) q h3 (by omega))
   have hstep:gIns0 lt (a:Int) (b:Int) ((i:Int),y)=some (.next (((i+1:Nat):Int),y')):=by
    simp only [gIns0,h3,Option.bind_some,zbb (show i<2 ^ 62 by omega)]
    rw [if_pos (by omega)]
   rw [zat hstep]
   exact ih (i+1) y' (by omega) (by omega) (by omega) h4 h5
 by_cases h0:a<b
 ·obtain ⟨i',y',h1,h2,h3⟩:=key1 (max b (a+1) - (a+1)) (a+1) l (by omega) (Nat.le_refl _) (by omega) (.refl ..) (fun u v hu huv hv=>by omega)
  refine ⟨y', ?_,by rwa [show max b (a+1)=b from by omega] at h2,h3⟩
  unfold gIns
  rw [zbb (by omega),h1]
  rfl
 ·obtain rfl:a=b:=by omega
  refine ⟨l, ?_,.refl ..,fun u v hu huv hv=>by omega⟩
  unfold gIns
  rw [zbb (by omega),zau (n:=0) (s':=(((a+1:Nat):Int),l))]
  ·rfl
  ·simp only [gIns0]
   rw [if_neg (by omega)]
theorem zwi {y:List T}{a b n lo hi:Nat} (hab:a+n≤b) (hb:b+n≤y.length) (hy:y.length<2 ^ 40) (hlo:lo≤a) (hhi:b+n≤hi):∃ z,gSwr (a:Int) (b:Int) (n:Int) y=some z∧SwR y z a b n∧Seg y z lo hi:=by
 have key1:∀ (d i:Nat) (z:List T),i+d=n→SwR y z a b i→Seg y z lo hi→∃ z',iter (gSwr0 (a:Int) (b:Int) (n:Int)) ((i:Int),z)=some (.jmp 0 ((n:Int),z'))∧SwR y z' a b n∧Seg y z' lo hi:=by
  intro d
  induction d with
  | zero =>
   intro i z h1 h2 h3
   obtain rfl:i=n:=by omega
   refine ⟨z,zau ?_,h2,h3⟩
   simp only [gSwr0]
   rw [if_neg (by omega)]
  | succ d ih =>
   intro i z h1 h2 h3
   have hzl:=h3.len
   obtain ⟨u,v,hu,hv,hsw⟩:=zom (y:=z) (i:=a+i) (j:=b+i) (by omega) (by omega)
   have e1:w64 ((a:Int)+(i:Int))=((a+i:Nat):Int):=w64_n (by omega) (by omega)
   have e2:w64 ((b:Int)+(i:Int))=((b+i:Nat):Int):=w64_n (by omega) (by omega)
   have hstep:gSwr0 (a:Int) (b:Int) (n:Int) ((i:Int),z)=some (.next (((i+1:Nat):Int),(z.set (a+i) v).set (b+i) u)):=by
    simp only [gSwr0,e1,e2,hsw,Option.bind_some,List.length_set,if_true,zbb (show i<2 ^ 62 by omega)]
    rw [if_pos (by omega)]
   rw [zat hstep]
   exact ih (i+1) _ (by omega) (h2.step (by omega) hu hv) (h3.trans (Seg.swap hu hv (by omega) (by omega)))
 obtain ⟨z,h1,h2,h3⟩:=key1 n 0 y (by omega) (SwR.zero y a b) (.refl ..)
 refine ⟨z, ?_,h2,h3⟩
 unfold gSwr
 rw [show ((0:Int),y)=(((0:Nat):Int),y) from rfl,h1]
 rfl
theorem ycc {y:List T}{lo m hi:Nat} (h1:lo<m) (h2:m<hi) (h3:hi≤y.length) (hy:y.length<2 ^ 40):∃ z,gRot (lo:Int) (m:Int) (hi:Int) y=some z∧Rot y z lo m hi∧Seg y z lo hi:=by
 have key1:∀ (d i j:Nat) (y:List T),i+j≤d→0<i→0<j→i≤m→m+j≤y.length→y.length<2 ^ 40→∃ z,(iter (gRot0 (T:=T) (m:Int)) ((i:Int),(j:Int),y)).bind (fun
   | .jmp _ (s8_12,s9_12,y2_12)=>(gSwr (w64 ((m:Int) - s8_12)) (m:Int) s8_12 y2_12).bind fun r13=>if r13.length=y2_12.length then some r13 else none
   | _=>none)=some z∧Rot y z (m - i) m (m+j)∧Seg y z (m - i) (m+j):=by
  intro d
  induction d with
  | zero=>intro i j y h1 h2;omega
  | succ d ih =>
   intro i j y hd hi hj him hjl hl
   have e1:w64 ((m:Int) - (i:Int))=((m - i:Nat):Int):=w64_n (by omega) (by omega)
   by_cases hij:i=j
   ·subst hij
    obtain ⟨z,hz,hz2,hz3⟩:=zwi (y:=y) (a:=m - i) (b:=m) (n:=i) (lo:=m - i) (hi:=m+i) (by omega) (by omega) hl (Nat.le_refl _) (Nat.le_refl _)
    refine ⟨z, ?_,Rot.same him hz2,hz3⟩
    have hs:gRot0 (T:=T) (m:Int) ((i:Int),(i:Int),y)=some (.jmp 0 ((i:Int),(i:Int),y)):=by simp only [gRot0,if_true]
    rw [zau hs]
    simp only [Option.bind_some,e1,hz,if_pos hz3.len]
   ·by_cases hji:j<i
    ·obtain ⟨z,hz,hz2,hz3⟩:=zwi (y:=y) (a:=m - i) (b:=m) (n:=j) (lo:=m - i) (hi:=m+j) (by omega) (by omega) hl (Nat.le_refl _) (Nat.le_refl _)
     have e2:w64 ((i:Int) - (j:Int))=((i - j:Nat):Int):=w64_n (by omega) (by omega)
     have hs:gRot0 (T:=T) (m:Int) ((i:Int),(j:Int),y)=some (.next (((i - j:Nat):Int),(j:Int),z)):=by
      simp only [gRot0,e1,e2,hz,Option.bind_some,if_pos hz3.len]
      rw [if_neg (by omega),if_pos (by omega)]
     rw [zat hs]
     have hzl:=hz3.len
     obtain ⟨w,g1,g2,g3⟩:=ih (i - j) j z (by omega) (by omega) hj (by omega) (by omega) (by omega)
     exact ⟨w,g1,Rot.more him hji hz2 g2,hz3.trans (g3.mono (by omega) (Nat.le_refl _))⟩
    ·obtain ⟨z,hz,hz2,hz3⟩:=zwi (y:=y) (a:=m - i) (b:=m+j - i) (n:=i) (lo:=m - i) (hi:=m+j) (by omega) (by omega) hl (Nat.le_refl _) (by omega)
     have e2:w64 ((j:Int) - (i:Int))=((j - i:Nat):Int):=w64_n (by omega) (by omega)
     have e3:w64 ((m:Int)+(j:Int))=((m+j:Nat):Int):=w64_n (by omega) (by omega)
     have e4:w64 (((m+j:Nat):Int) - (i:Int))=((m+j - i:Nat):Int):=w64_n (by omega) (by omega)
     have hs:gRot0 (T:=T) (m:Int) ((i:Int),(j:Int),y)=some (.next ((i:Int),((j - i:Nat):Int),z)):=by
      simp only [gRot0,e1,e2,e3,e4,hz,Option.bind_some,if_pos hz3.len]
      rw [if_neg (by omega),if_neg (by omega)]
     rw [zat hs]
     have hzl:=hz3.len
     obtain ⟨w,g1,g2,g3⟩:=ih i (j - i) z (by omega) hi (by omega) him (by omega) (by omega)
     exact ⟨w,g1,Rot.less him (by omega) hz2 g2,hz3.trans (g3.mono (Nat.le_refl _) (by omega))⟩
 obtain ⟨z,g1,g2,g3⟩:=key1 _ (m - lo) (hi - m) y (Nat.le_refl _) (by omega) (by omega) (by omega) (by omega) hy
 rw [show m - (m - lo)=lo from by omega,show m+(hi - m)=hi from by omega] at g2 g3
 refine ⟨z, ?_,g2,g3⟩
 unfold gRot
 have e1:w64 ((m:Int) - (lo:Int))=((m - lo:Nat):Int):=w64_n (by omega) (by omega)
 have e2:w64 ((hi:Int) - (m:Int))=((hi - m:Nat):Int):=w64_n (by omega) (by omega)
 rw [e1,e2]
 exact g1
end
end Xr

namespace Xr
open Go Go.Ev
set_option linter.unusedVariables false
set_option linter.unusedSimpArgs false
section
variable {T : Type} {lt : T → T → Option Bool} {key rk : T → Int}
theorem zno {ρ:Type}{step:Int×Int→Option (Out (Int×Int) ρ)}{f:Nat→Bool}{n:Nat}:∀ (d lo hi:Nat),hi - lo≤d→lo≤hi →
  (∀ i j,lo≤i→i<j→j≤hi→step ((i:Int),(j:Int))=some (.next (if f ((i+j) / 2)=true then ((((i+j) / 2+1:Nat):Int),(j:Int)) else ((i:Int),(((i+j) / 2:Nat):Int))))) →
  (∀ i:Nat,step ((i:Int),(i:Int))=some (.jmp n ((i:Int),(i:Int))))→∃ s,lo≤s∧s≤hi∧iter step ((lo:Int),(hi:Int))=some (.jmp n ((s:Int),(s:Int)))∧(lo<s→f (s - 1)=true)∧(s<hi→f s=false)
 | 0,lo,hi,h1,h2,hs,he=>by
  obtain rfl:lo=hi:=by omega
  exact ⟨lo,Nat.le_refl _,Nat.le_refl _,zau (he lo),fun h=>absurd h (by omega),fun h=>absurd h (by omega)⟩
 | d+1,lo,hi,h1,h2,hs,he=>by
  by_cases h3:lo=hi
  ·subst h3
   exact ⟨lo,Nat.le_refl _,Nat.le_refl _,zau (he lo),fun h=>absurd h (by omega),fun h=>absurd h (by omega)⟩
  ·have h4:=hs lo hi (Nat.le_refl _) (by omega) (Nat.le_refl _)
   by_cases hf:f ((lo+hi) / 2)=true
   ·rw [if_pos hf] at h4
    obtain ⟨s,g1,g2,g3,g4,g5⟩:=zno d ((lo+hi) / 2+1) hi (by omega) (by omega) (fun i j hi' hij hj=>hs i j (by omega) hij hj) he
    refine ⟨s,by omega,g2,(zat h4).trans g3,fun h=>?_,g5⟩
    by_cases h5:(lo+hi) / 2+1<s
    ·exact g4 h5
    ·rw [show s - 1=(lo+hi) / 2 from by omega];exact hf
   ·rw [if_neg hf] at h4
    obtain ⟨s,g1,g2,g3,g4,g5⟩:=zno d lo ((lo+hi) / 2) (by omega) (by omega) (fun i j hi' hij hj=>hs i j hi' hij (by omega)) he
    refine ⟨s,g1,by omega,(zat h4).trans g3,g4,fun h=>?_⟩
    by_cases h5:s<(lo+hi) / 2
    ·exact g5 h5
    ·rw [show s=(lo+hi) / 2 from by omega];simpa using hf
theorem z9r {q:Int} (h0:0≤q) (h1:q<9223372036854775808):IntKind.wrap .u64 q=q:=by
 simp [IntKind.wrap,IntKind.signed,IntKind.bits];omega
theorem zmu {i j:Nat} (h:i+j<2 ^ 42):∃ q,shrK .u64 (IntKind.wrap .u64 (w64 ((i:Int)+(j:Int)))) (1:Int)=some q∧IntKind.wrap .i64 q=(((i+j) / 2:Nat):Int):=by
 have e1:w64 ((i:Int)+(j:Int))=((i+j:Nat):Int):=w64_n (by omega) (by omega)
 have e2:IntKind.wrap .u64 ((i+j:Nat):Int)=((i+j:Nat):Int):=z9r (by omega) (by omega)
 have e3:Int.fdiv ((i+j:Nat):Int) 2=(((i+j) / 2:Nat):Int):=by
  rw [Int.fdiv_eq_ediv_of_nonneg _ (by omega)];omega
 refine ⟨(((i+j) / 2:Nat):Int), ?_,w64_n rfl (by omega)⟩
 rw [e1,e2]
 unfold shrK
 rw [if_neg (by omega)]
 show some (Int.fdiv ((i+j:Nat):Int) (2 ^ 1))=_
 rw [show ((2:Int) ^ 1)=2 from rfl,e3]
def InjK (key:T→Int) (l:List T):Prop:=∀ x∈l,∀ y∈l,key x=key y→x=y
theorem InjK.seg {l m:List T}{a b:Nat} (h:InjK key l) (hs:Seg l m a b):InjK key m:=fun x hx y hy=>h x (hs.perm.mem_iff.1 hx) y (hs.perm.mem_iff.1 hy)
structure SDom (lt:T→T→Option Bool) (key rk:T→Int) (l:List T) (a m b:Nat):Prop where
 keyed:KeyR lt key rk l
 am:a<m
 mb:m<b
 bl:b≤l.length
 ll:l.length<2 ^ 40
 ascl:Asc key l a m
 ascr:Asc key l m b
 cross:Cross rk l a m b
 inj:InjK key l
theorem Asc.glue {l:List T}{a m b:Nat} (h1:Asc key l a m) (h2:Asc key l m b) (h3:a<m→m<b→ka key l (m - 1)≤ka key l m):Asc key l a b:=by
 intro i j hi hij hj
 by_cases h4:j<m
 ·exact h1 i j hi hij h4
 ·by_cases h5:m≤i
  ·exact h2 i j h5 hij hj
  ·have g:=h3 (by omega) (by omega)
   have g1:ka key l i≤ka key l (m - 1):=by
    by_cases e:i=m - 1
    ·rw [e];omega
    ·exact h1 i (m - 1) hi (by omega) (by omega)
   have g2:ka key l m≤ka key l j:=by
    by_cases e:j=m
    ·rw [e];omega
    ·exact h2 m j (Nat.le_refl _) (by omega) hj
   omega
theorem z72 {y:List T}{a s lo hi:Nat} (has:a<s) (hs:s≤y.length) (hy:y.length<2 ^ 40) (hlo:lo≤a) (hhi:s≤hi):∃ z,iter (gS1 (T:=T) (s:Int)) ((a:Int),y)=some (.jmp 2 (((s - 1:Nat):Int),z))∧Rot y z a (a+1) s∧Seg y z lo hi:=by
 have key1:∀ (d i:Nat) (z:List T),i+d=s - 1→a≤i→Rot y z a (a+1) (i+1)→Seg y z lo hi→∃ z',iter (gS1 (T:=T) (s:Int)) ((i:Int),z)=some (.jmp 2 (((s - 1:Nat):Int),z'))∧Rot y z' a (a+1) s∧Seg y z' lo hi:=by
  intro d
  have e0:w64 ((s:Int) - 1)=((s - 1:Nat):Int):=zg9 (by omega) (by omega)
  induction d with
  | zero =>
   intro i z h1 h2 h3 h4
   obtain rfl:i=s - 1:=by omega
   refine ⟨z,zau ?_,by rwa [show s - 1+1=s from by omega] at h3,h4⟩
   simp only [gS1,e0]
   rw [if_neg (by omega)]
  | succ d ih =>
   intro i z h1 h2 h3 h4
   have hzl:=h4.len
   obtain ⟨u,v,hu,hv,hsw⟩:=zom (y:=z) (i:=i) (j:=i+1) (by omega) (by omega)
   have e1:w64 ((i:Int)+1)=((i+1:Nat):Int):=zbb (by omega)
   have hstep:gS1 (T:=T) (s:Int) ((i:Int),z)=some (.next (((i+1:Nat):Int),(z.set i v).set (i+1) u)):=by
    simp only [gS1,e0,e1,hsw,Option.bind_some,List.length_set,if_true]
    rw [if_pos (by omega)]
   rw [zat hstep]
   refine ih (i+1) _ (by omega) (by omega) (fun k=>?_) (h4.trans (Seg.swap hu hv (by omega) (by omega)))
   have hu':=(h3 i).symm.trans hu
   have hv':=(h3 (i+1)).symm.trans hv
   rw [zgx hu hv]
   rw [if_neg (by omega),if_neg (by omega)] at hu'
   rw [if_pos (by omega)] at hv'
   by_cases k1:k=i+1
   ·rw [if_pos k1,if_neg (by omega),if_neg (by omega),← hu'];congr 1;omega
   ·rw [if_neg k1]
    by_cases k2:k=i
    ·rw [if_pos k2,if_neg (by omega),if_pos (by omega),← hv'];congr 1;omega
    ·rw [if_neg k2,h3 k]
     by_cases k3:k<a∨i+1≤k
     ·rw [if_pos k3,if_pos (by omega)]
     ·rw [if_neg k3,if_pos (by omega),if_neg (by omega),if_pos (by omega)]
 refine key1 (s - 1 - a) a y (by omega) (Nat.le_refl _) (fun k=>?_) (.refl ..)
 by_cases k1:k<a∨a+1≤k
 ·rw [if_pos k1]
 ·rw [if_neg k1,if_neg (by omega)];congr 1;omega
theorem zze {y:List T}{m s lo hi:Nat} (hsm:s≤m) (hm:m<y.length) (hy:y.length<2 ^ 40) (hlo:lo≤s) (hhi:m<hi):∃ z,iter (gS3 (T:=T) (s:Int)) ((m:Int),y)=some (.jmp 6 ((s:Int),z))∧Rot y z s m (m+1)∧Seg y z lo hi:=by
 have key1:∀ (d i:Nat) (z:List T),s+d=i→i≤m→Rot y z i m (m+1)→Seg y z lo hi→∃ z',iter (gS3 (T:=T) (s:Int)) ((i:Int),z)=some (.jmp 6 ((s:Int),z'))∧Rot y z' s m (m+1)∧Seg y z' lo hi:=by
  intro d
  induction d with
  | zero =>
   intro i z h1 h2 h3 h4
   obtain rfl:i=s:=by omega
   refine ⟨z,zau ?_,h3,h4⟩
   simp only [gS3]
   rw [if_neg (by omega)]
  | succ d ih =>
   intro i z h1 h2 h3 h4
   have hzl:=h4.len
   obtain ⟨u,v,hu,hv,hsw⟩:=zom (y:=z) (i:=i) (j:=i - 1) (by omega) (by omega)
   have e1:w64 ((i:Int) - 1)=((i - 1:Nat):Int):=zg9 (by omega) (by omega)
   have hstep:gS3 (T:=T) (s:Int) ((i:Int),z)=some (.next (((i - 1:Nat):Int),(z.set i v).set (i - 1) u)):=by
    simp only [gS3,e1,hsw,Option.bind_some,List.length_set,if_true]
    rw [if_pos (by omega)]
   rw [zat hstep]
   refine ih (i - 1) _ (by omega) (by omega) (fun k=>?_) (h4.trans (Seg.swap hu hv (by omega) (by omega)))
   have hu':=(h3 i).symm.trans hu
   have hv':=(h3 (i - 1)).symm.trans hv
   rw [zgx hu hv]
   rw [if_neg (by omega),if_pos (by omega)] at hu'
   rw [if_pos (by omega)] at hv'
   by_cases k1:k=i - 1
   ·rw [if_pos k1,if_neg (by omega),if_pos (by omega),← hu'];congr 1;omega
   ·rw [if_neg k1]
    by_cases k2:k=i
    ·rw [if_pos k2,if_neg (by omega),if_neg (by omega),← hv'];congr 1;omega
    ·rw [if_neg k2,h3 k]
     by_cases k3:k<i∨m+1≤k
     ·rw [if_pos k3,if_pos (by omega)]
     ·rw [if_neg k3,if_neg (by omega),if_neg (by omega),if_neg (by omega)];congr 1;omega
 refine key1 (m - s) m y (by omega) (Nat.le_refl _) (fun k=>?_) (.refl ..)
 by_cases k1:k<m∨m+1≤k
 ·rw [if_pos k1]
 ·rw [if_neg k1,if_pos (by omega)];congr 1;omega
def SRec (lt:T→T→Option Bool) (key rk:T→Int) (d:Nat) (rec:Int→Int→Int→List T→Option (List T)):Prop :=
 ∀ (l:List T) (a m b:Nat),b - a<d→SDom lt key rk l a m b→∃ t,rec (a:Int) (m:Int) (b:Int) l=some t∧Seg l t a b∧Asc key t a b
theorem zyx {rec:Int→Int→Int→List T→Option (List T)}{l:List T}{a m b s e mid:Nat} (hd:SDom lt key rk l a m b) (hrec:SRec lt key rk (b - a) rec) (has:a≤s) (hsm:s≤m) (hme:m≤e) (heb:e≤b) (hmid:mid=s+(e - m)) (hmid2:a<mid) (hmid3:mid<b)
  (h1:a<s→e<b→ka key l (s - 1)≤ka key l e) (h2:s<m→m<e→ka key l (e - 1)≤ka key l s) :
  ∃ t,zri rec (a:Int) (m:Int) (b:Int) (mid:Int) (s:Int) (e:Int) l=some t∧Seg l t a b∧Asc key t a b:=by
 have hll:=hd.ll
 have hbl:=hd.bl
 have ham:=hd.am
 have hmb:=hd.mb
 have g3:∀ y:List T,Seg l y a b→Half key rk y a s mid e b→∀ w,Seg y w a mid→Asc key w a mid→∃ t,zrz rec (b:Int) (mid:Int) (e:Int) w=some t∧Seg l t a b∧Asc key t a b:=by
  intro y hy hh w hw hwa
  have hyl:=hy.len
  have hwl:=hw.len
  have o1:∀ k,mid≤k→k<b→w[k]?=y[k]?:=fun k hk _=>hw.out k (Or.inr hk)
  unfold zrz
  have fin:∀ t,Seg w t mid b→Asc key t mid b→Seg l t a b∧Asc key t a b:=fun t ht hta =>
   ⟨hy.trans ((hw.mono (Nat.le_refl _) (by omega)).trans (ht.mono (by omega) (Nat.le_refl _))),zsa (by omega) (by omega) (by omega) hh.lo hw hwa ht hta⟩
  by_cases c1:mid<e
  ·rw [if_pos (by omega)]
   by_cases c2:e<b
   ·rw [if_pos (by omega)]
    obtain ⟨t,ht,ht2,ht3⟩:=hrec w mid e b (by omega) ⟨(hd.keyed.seg hy).seg hw,c1,c2,by omega,by omega,hh.a3.of (fun k k1 k2=>o1 k k1 (by omega)),hh.a4.of (fun k k1 k2=>o1 k (by omega) k2),hh.c2.of o1,(hd.inj.seg hy).seg hw⟩
    rw [ht,Option.bind_some,if_pos ht2.len]
    exact ⟨t,rfl,fin t ht2 ht3⟩
   ·rw [if_neg (by omega)]
    obtain rfl:e=b:=by omega
    exact ⟨w,rfl,fin w (.refl ..) (hh.a3.of o1)⟩
  ·rw [if_neg (by omega)]
   obtain rfl:mid=e:=by omega
   exact ⟨w,rfl,fin w (.refl ..) (hh.a4.of o1)⟩
 have g2:∀ y:List T,Seg l y a b→Half key rk y a s mid e b→∃ t,zra rec (a:Int) (b:Int) (mid:Int) (s:Int) (e:Int) y=some t∧Seg l t a b∧Asc key t a b:=by
  intro y hy hh
  have hyl:=hy.len
  unfold zra
  by_cases c1:a<s
  ·rw [if_pos (by omega)]
   by_cases c2:s<mid
   ·rw [if_pos (by omega)]
    obtain ⟨t,ht,ht2,ht3⟩:=hrec y a s mid (by omega) ⟨hd.keyed.seg hy,c1,c2,by omega,by omega,hh.a1,hh.a2,hh.c1,hd.inj.seg hy⟩
    rw [ht,Option.bind_some,if_pos ht2.len]
    exact g3 y hy hh t ht2 ht3
   ·rw [if_neg (by omega)]
    obtain rfl:s=mid:=by omega
    exact g3 y hy hh y (.refl ..) hh.a1
  ·rw [if_neg (by omega)]
   obtain rfl:a=s:=by omega
   exact g3 y hy hh y (.refl ..) hh.a2
 unfold zri
 have rot0:s=m∨m=e→Rot l l s m e:=by
  intro h k
  by_cases k1:k<s∨e≤k
  ·rw [if_pos k1]
  ·rw [if_neg k1]
   by_cases k2:k<s+(e - m)
   ·rw [if_pos k2];congr 1;omega
   ·rw [if_neg k2];congr 1;omega
 by_cases c1:s<m
 ·rw [if_pos (by omega)]
  by_cases c2:m<e
  ·rw [if_pos (by omega)]
   obtain ⟨z,hz,hz2,hz3⟩:=ycc (y:=l) (lo:=s) (m:=m) (hi:=e) c1 c2 (by omega) hll
   rw [hz,Option.bind_some,if_pos hz3.len]
   exact g2 z (hz3.mono has heb) (zo9 hd.ascl hd.ascr hd.cross has hsm hme heb hmid (by omega) (by omega) h1 h2 hz2)
  ·rw [if_neg (by omega)]
   exact g2 l (.refl ..) (zo9 hd.ascl hd.ascr hd.cross has hsm hme heb hmid (by omega) (by omega) h1 h2 (rot0 (Or.inr (by omega))))
 ·rw [if_neg (by omega)]
  exact g2 l (.refl ..) (zo9 hd.ascl hd.ascr hd.cross has hsm hme heb hmid (by omega) (by omega) h1 h2 (rot0 (Or.inl (by omega))))
theorem z1x {rec:Int→Int→Int→List T→Option (List T)}{l:List T}{a m b:Nat} (hd:SDom lt key rk l a m b) (hrec:SRec lt key rk (b - a) rec):∃ t,gSym lt rec (a:Int) (m:Int) (b:Int) l=some t∧Seg l t a b∧Asc key t a b:=by
 have hll:=hd.ll
 have hbl:=hd.bl
 have ham:=hd.am
 have hmb:=hd.mb
 have e1:w64 ((m:Int) - (a:Int))=((m - a:Nat):Int):=w64_n (by omega) (by omega)
 have e2:w64 ((b:Int) - (m:Int))=((b - m:Nat):Int):=w64_n (by omega) (by omega)
 unfold gSym
 rw [e1,e2]
 by_cases c1:((m - a:Nat):Int)=1
 ·rw [if_pos c1]
  obtain rfl:m=a+1:=by omega
  obtain ⟨s,g1,g2,g3,g4,g5⟩:=zno (step:=gS0 lt (a:Int) l) (f:=fun h=>decide (ka key l h<ka key l a)) (n:=0) _ (a+1) b (Nat.le_refl _) (by omega) (fun i j hi hij hj=>by
    obtain ⟨q,hq,hq2⟩:=zmu (i:=i) (j:=j) (by omega)
    obtain ⟨c,hc,hcc⟩:=zol (lt:=lt) (key:=key) (i:=(i+j) / 2) (j:=a) hd.keyed (by omega) (by omega) (hd.cross a ((i+j) / 2) (Nat.le_refl _) (by omega) (by omega) (by omega))
    have e3:w64 ((((i+j) / 2:Nat):Int)+1)=(((i+j) / 2+1:Nat):Int):=zbb (by omega)
    simp only [gS0,hq,Option.bind_some,hq2,hc,e3]
    rw [if_pos (by omega)]
    cases c with
    | true=>rw [if_pos rfl,if_pos (by simpa using hcc.1 rfl)]
    | false=>rw [if_neg (by simp),if_neg (by simpa using hcc.2)]) (fun i=>by simp only [gS0];rw [if_neg (by omega)])
  obtain ⟨z,hz,hz2,hz3⟩:=z72 (y:=l) (a:=a) (s:=s) (lo:=a) (hi:=b) (by omega) (by omega) hll (Nat.le_refl _) g2
  rw [g3]
  simp only [Option.bind_some]
  rw [hz]
  refine ⟨z,rfl,hz3, ?_⟩
  have k4:a+1<s→ka key l (s - 1)≤ka key l a:=fun h=>by have:=g4 h;simp only [decide_eq_true_eq] at this;omega
  have k5:s<b→ka key l a≤ka key l s:=fun h=>by have:=g5 h;simp only [decide_eq_false_iff_not] at this;omega
  have hh:=zo9 (s:=a) (e:=s) (mid:=a+(s - (a+1))) hd.ascl hd.ascr hd.cross (Nat.le_refl _) (by omega) g1 g2 rfl (by omega) (by omega) (fun h=>absurd h (by omega)) (fun _ h=>k4 h) hz2
  have hm1:a+(s - (a+1))=s - 1:=by omega
  rw [hm1] at hh
  have hzl:=hz3.len
  refine zsa (by omega) (by omega) (by omega) hh.lo (.refl ..) hh.a2 (.refl ..) (Asc.glue hh.a3 hh.a4 (fun h6 h7=>?_))
  have z1:ka key z (s - 1)=ka key l a:=zit (by rw [hz2 (s - 1),if_neg (by omega),if_neg (by omega)];congr 1;omega)
  have z2:ka key z s=ka key l s:=zit (by rw [hz2 s,if_pos (by omega)])
  rw [z1,z2];exact k5 h7
 ·rw [if_neg c1]
  by_cases c2:((b - m:Nat):Int)=1
  ·rw [if_pos c2]
   obtain rfl:b=m+1:=by omega
   obtain ⟨s,g1,g2,g3,g4,g5⟩:=zno (step:=gS2 lt (m:Int) l) (f:=fun h=>!decide (ka key l m<ka key l h)) (n:=4) _ a m (Nat.le_refl _) (by omega) (fun i j hi hij hj=>by
     obtain ⟨q,hq,hq2⟩:=zmu (i:=i) (j:=j) (by omega)
     obtain ⟨c,hc,hcc⟩:=zol (lt:=lt) (key:=key) (i:=m) (j:=(i+j) / 2) hd.keyed (by omega) (by omega) (hd.cross ((i+j) / 2) m (by omega) (by omega) (by omega) (by omega))
     have e3:w64 ((((i+j) / 2:Nat):Int)+1)=(((i+j) / 2+1:Nat):Int):=zbb (by omega)
     simp only [gS2,hq,Option.bind_some,hq2,hc,e3]
     rw [if_pos (by omega)]
     cases c with
     | true=>rw [if_pos rfl,if_neg (by simpa using hcc.1 rfl)]
     | false=>rw [if_neg (by simp),if_pos (by simpa using hcc.2)]) (fun i=>by simp only [gS2];rw [if_neg (by omega)])
   obtain ⟨z,hz,hz2,hz3⟩:=zze (y:=l) (m:=m) (s:=s) (lo:=a) (hi:=m+1) g2 (by omega) hll g1 (by omega)
   rw [g3]
   simp only [Option.bind_some]
   rw [hz]
   refine ⟨z,rfl,hz3, ?_⟩
   have k4:a<s→ka key l (s - 1)≤ka key l m:=fun h=>by have:=g4 h;simp at this;omega
   have k5:s<m→ka key l m≤ka key l s:=fun h=>by have:=g5 h;simp at this;omega
   have hh:=zo9 (s:=s) (e:=m+1) (mid:=s+(m+1 - m)) hd.ascl hd.ascr hd.cross g1 g2 (by omega) (Nat.le_refl _) rfl (by omega) (by omega) (fun _ h=>absurd h (by omega)) (fun h _=>k5 h) hz2
   have hm1:s+(m+1 - m)=s+1:=by omega
   rw [hm1] at hh
   have hzl:=hz3.len
   refine zsa (by omega) (by omega) (by omega) hh.lo (.refl ..) (Asc.glue hh.a1 hh.a2 (fun h6 h7=>?_)) (.refl ..) hh.a3
   have z1:ka key z (s - 1)=ka key l (s - 1):=zit (by rw [hz2 (s - 1),if_pos (by omega)])
   have z2:ka key z s=ka key l m:=zit (by rw [hz2 s,if_neg (by omega),if_pos (by omega)];congr 1;omega)
   rw [z1,z2];exact k4 h6
  ·rw [if_neg c2]
   obtain ⟨q,hq,hq2⟩:=zmu (i:=a) (j:=b) (by omega)
   rw [hq]
   simp only [Option.bind_some,hq2]
   generalize hmd:(a+b) / 2=mid
   have e3:w64 ((mid:Int)+(m:Int))=((mid+m:Nat):Int):=w64_n (by omega) (by omega)
   have e4:w64 (((mid+m:Nat):Int) - (1:Int))=((mid+m - 1:Nat):Int):=zg9 (by omega) (by omega)
   have e5:mid<m→w64 (((mid+m:Nat):Int) - (b:Int))=((mid+m - b:Nat):Int):=fun h=>w64_n (by omega) (by omega)
   simp only [e3,e4]
   have hstep:∀ lo hi,(lo=a∧hi=m∧m≤mid∨lo=mid+m - b∧hi=mid∧mid<m)→∀ i j,lo≤i→i<j→j≤hi→gS4 lt ((mid+m - 1:Nat):Int) l ((i:Int),(j:Int)) =
     some (.next (if (fun c=>!decide (ka key l (mid+m - 1 - c)<ka key l c)) ((i+j) / 2)=true then ((((i+j) / 2+1:Nat):Int),(j:Int)) else ((i:Int),(((i+j) / 2:Nat):Int)))):=by
    intro lo hi hlh i j hi' hij hj
    obtain ⟨q,hq,hq2⟩:=zmu (i:=i) (j:=j) (by omega)
    have e6:w64 (((mid+m - 1:Nat):Int) - (((i+j) / 2:Nat):Int))=((mid+m - 1 - (i+j) / 2:Nat):Int):=w64_n (by omega) (by omega)
    obtain ⟨c,hc,hcc⟩:=zol (lt:=lt) (key:=key) (i:=mid+m - 1 - (i+j) / 2) (j:=(i+j) / 2) hd.keyed (by omega) (by omega) (hd.cross ((i+j) / 2) (mid+m - 1 - (i+j) / 2) (by omega) (by omega) (by omega) (by omega))
    have e3:w64 ((((i+j) / 2:Nat):Int)+1)=(((i+j) / 2+1:Nat):Int):=zbb (by omega)
    simp only [gS4,hq,Option.bind_some,hq2,e6,hc,e3]
    rw [if_pos (by omega)]
    cases c with
    | true=>rw [if_pos rfl,if_neg (by simpa using hcc.1 rfl)]
    | false=>rw [if_neg (by simp),if_pos (by simpa using hcc.2)]
   have hend:∀ i:Nat,gS4 lt ((mid+m - 1:Nat):Int) l ((i:Int),(i:Int))=some (.jmp 8 ((i:Int),(i:Int))):=fun i=>by simp only [gS4];rw [if_neg (by omega)]
   by_cases c3:mid<m
   ·rw [if_pos (by omega),e5 c3]
    obtain ⟨s,g1,g2,g3,g4,g5⟩:=zno (f:=fun c=>!decide (ka key l (mid+m - 1 - c)<ka key l c)) (n:=8) _ (mid+m - b) mid (Nat.le_refl _) (by omega) (hstep _ _ (Or.inr ⟨rfl,rfl,c3⟩)) hend
    rw [g3]
    simp only [Option.bind_some]
    have e6:w64 (((mid+m:Nat):Int) - (s:Int))=((mid+m - s:Nat):Int):=w64_n (by omega) (by omega)
    rw [e6]
    refine zyx hd hrec (by omega) (by omega) (by omega) (by omega) (by omega) (by omega) (by omega) (fun h6 h7=>?_) (fun h6 h7=>?_)
    ·have:=g4 (by omega)
     simp only [Bool.not_eq_true',decide_eq_false_iff_not,show mid+m - 1 - (s - 1)=mid+m - s from by omega] at this
     omega
    ·have:=g5 (by omega)
     simp only [Bool.not_eq_false',decide_eq_true_eq,show mid+m - 1 - s=mid+m - s - 1 from by omega] at this
     omega
   ·rw [if_neg (by omega)]
    obtain ⟨s,g1,g2,g3,g4,g5⟩:=zno (f:=fun c=>!decide (ka key l (mid+m - 1 - c)<ka key l c)) (n:=8) _ a m (Nat.le_refl _) (by omega) (hstep _ _ (Or.inl ⟨rfl,rfl,by omega⟩)) hend
    rw [g3]
    simp only [Option.bind_some]
    have e6:w64 (((mid+m:Nat):Int) - (s:Int))=((mid+m - s:Nat):Int):=w64_n (by omega) (by omega)
    rw [e6]
    refine zyx hd hrec (by omega) (by omega) (by omega) (by omega) (by omega) (by omega) (by omega) (fun h6 h7=>?_) (fun h6 h7=>?_)
    ·have:=g4 (by omega)
     simp only [Bool.not_eq_true',decide_eq_false_iff_not,show mid+m - 1 - (s - 1)=mid+m - s from by omega] at this
     omega
    ·have:=g5 (by omega)
     simp only [Bool.not_eq_false',decide_eq_true_eq,show mid+m - 1 - s=mid+m - s - 1 from by omega] at this
     omega
end
end Xr

namespace Xr
open Go Go.Ev
set_option linter.unusedVariables false
set_option linter.unusedSimpArgs false
section
variable {T : Type} {lt : T → T → Option Bool} {key rk : T → Int}
theorem zyz {l:List T}{a b:Nat} (hb:b≤l.length) (h:Asc key l a b):((l.take b).drop a).Pairwise (fun x y=>key x≤key y):=by
 rw [List.pairwise_iff_getElem]
 intro i j hi hj hij
 simp only [List.length_drop,List.length_take] at hi hj
 have g:=h (a+i) (a+j) (by omega) (by omega) (by omega)
 rw [zbq (List.getElem?_eq_getElem (by omega)),zbq (List.getElem?_eq_getElem (by omega))] at g
 simpa [List.getElem_drop,List.getElem_take] using g
theorem zv2 {l t u:List T}{a b:Nat} (hk:InjK key l) (hab:a≤b) (hb:b≤l.length) (h1:Seg l t a b) (h1':Asc key t a b) (h2:Seg l u a b) (h2':Asc key u a b):t=u:=by
 have hlt:=h1.len
 have hlu:=h2.len
 have pm:((t.take b).drop a).Perm ((u.take b).drop a):=(h1.mid hab hb).trans (h2.mid hab hb).symm
 have e:(t.take b).drop a=(u.take b).drop a:=by
  refine List.Perm.eq_of_pairwise (le:=fun x y=>key x≤key y) (fun x y hx hy hxy hyx=>?_) (zyz (by omega) h1') (zyz (by omega) h2') pm
  have mx:x∈l:=h1.perm.mem_iff.1 (List.mem_of_mem_take (List.mem_of_mem_drop hx))
  have my:y∈l:=h2.perm.mem_iff.1 (List.mem_of_mem_take (List.mem_of_mem_drop hy))
  exact hk x mx y my (by omega)
 apply List.ext_getElem?
 intro k
 by_cases h3:k<a∨b≤k
 ·rw [h1.out k h3,h2.out k h3]
 ·have:=congrArg (fun z=>z[k - a]?) e
  simp only [List.getElem?_drop,show a+(k - a)=k from by omega,List.getElem?_take,show k<b from by omega,if_true] at this
  exact this
noncomputable def symS (lt:T→T→Option Bool) (key rk:T→Int) (x1 x2 x3:Int) (l:List T):Option (List T) :=
 open Classical in if h:∃ t,(0≤x1∧0≤x2∧0≤x3)∧SDom lt key rk l x1.toNat x2.toNat x3.toNat∧Seg l t x1.toNat x3.toNat∧Asc key t x1.toNat x3.toNat then some h.choose else none
theorem z3f {l t:List T}{a m b:Nat} (h1:SDom lt key rk l a m b) (h2:Seg l t a b) (h3:Asc key t a b):symS lt key rk (a:Int) (m:Int) (b:Int) l=some t:=by
 have hex:∃ t,(0≤(a:Int)∧0≤(m:Int)∧0≤(b:Int))∧SDom lt key rk l (a:Int).toNat (m:Int).toNat (b:Int).toNat∧Seg l t (a:Int).toNat (b:Int).toNat∧Asc key t (a:Int).toNat (b:Int).toNat:=⟨t,⟨by omega,by omega,by omega⟩,h1,h2,h3⟩
 unfold symS
 rw [dif_pos hex]
 have g1:=hex.choose_spec.2.2.1
 have g2:=hex.choose_spec.2.2.2
 simp only [Int.toNat_natCast] at g1 g2
 have:=h1.am;have:=h1.mb
 exact congrArg some (zv2 h1.inj (by omega) h1.bl g1 g2 h2 h3)
theorem zot:∀ (d:Nat),SRec lt key rk d (symS lt key rk)
 | 0=>fun l a m b h=>by omega
 | d+1=>by
  intro l a m b hb hd
  obtain ⟨t,ht,h2,h3⟩:=z1x hd (fun l' a' m' b' hb' hd'=>zot d l' a' m' b' (by omega) hd')
  exact ⟨t,z3f hd h2 h3,h2,h3⟩
theorem z4f {x1 x2 x3:Int}{l r:List T} (h:symS lt key rk x1 x2 x3 l=some r):gSym lt (fun y1 y2 y3 l'=>if (y3 - y1).toNat<(x3 - x1).toNat then symS lt key rk y1 y2 y3 l' else none) x1 x2 x3 l=some r:=by
 have h':=h
 unfold symS at h
 split at h
 ·rename_i hex
  obtain ⟨t,⟨g1,g2,g3⟩,hd,h2,h3⟩:=hex
  obtain ⟨a,rfl⟩:∃ a:Nat,x1=a:=⟨x1.toNat,by omega⟩
  obtain ⟨m,rfl⟩:∃ a:Nat,x2=a:=⟨x2.toNat,by omega⟩
  obtain ⟨b,rfl⟩:∃ a:Nat,x3=a:=⟨x3.toNat,by omega⟩
  simp only [Int.toNat_natCast] at hd h2 h3
  have e:((b:Int) - (a:Int)).toNat=b - a:=by omega
  obtain ⟨u,hu,k2,k3⟩:=z1x (rec:=fun y1 y2 y3 l'=>if (y3 - y1).toNat<((b:Int) - (a:Int)).toNat then symS lt key rk y1 y2 y3 l' else none) hd (by
   intro l' a' m' b' hb' hd'
   obtain ⟨t,q1,q2⟩:=zot (b' - a'+1) l' a' m' b' (by omega) hd'
   refine ⟨t, ?_,q2⟩
   simp only []
   rw [if_pos (by omega),q1])
  rw [hu,← h',z3f hd k2 k3]
 ·cases h
def SameB (c i j:Nat):Prop:=∀ k,c ∣ k→i<k→k≤j→False
theorem zon {c a i j:Nat} (ha:c ∣ a) (hi:a≤i) (hj:j<a+c):SameB c i j:=by
 intro k hk h1 h2
 obtain ⟨u,rfl⟩:=ha
 obtain ⟨v,rfl⟩:=hk
 have h3:c*u<c*v:=by omega
 have h4:c*v<c*(u+1):=by rw [Nat.mul_add];omega
 have:=Nat.lt_of_mul_lt_mul_left h3
 have:=Nat.lt_of_mul_lt_mul_left h4
 omega
structure Blks (key rk:T→Int) (c d:Nat) (l:List T) (a:Nat):Prop where
 p1:∀ i j,i<j→j<l.length→j<a→SameB c i j→ka key l i≤ka key l j
 p2:∀ i j,i<j→j<l.length→a≤i→SameB d i j→ka key l i≤ka key l j
 p3:∀ i k j,i<k→k≤j→j<l.length→c ∣ k→ka rk l i<ka rk l j
 p4:∀ i k j,i<k→k≤j→j<l.length→a≤i→d ∣ k→ka rk l i<ka rk l j
theorem Blks.seg {c d:Nat}{l t:List T}{a b:Nat} (h:Blks key rk c d l a) (hdc:d ∣ c) (hca:c ∣ a) (hab:a≤b) (hb:b≤l.length) (hbc:b≤a+c) (hbe:c ∣ b∨b=l.length) (hs:Seg l t a b) (ht:Asc key t a b):Blks key rk c d t b:=by
 have hl:=hs.len
 have o:∀ {f:T→Int} k,k<a∨b≤k→ka f t k=ka f l k:=fun k hk=>zit (hs.out k hk)
 have cross:∀ i k j,i<k→k≤j→j<l.length→c ∣ k→ka rk t i<ka rk t j:=by
  intro i k j h1 h2 h3 hk
  by_cases hi:i<a∨b≤i
  ·rw [o i hi]
   by_cases hj:j<a∨b≤j
   ·rw [o j hj];exact h.p3 i k j h1 h2 h3 hk
   ·have hi':i<a:=by omega
    exact hs.all hab hb (Q:=fun q=>ka rk l i<q) (fun x hx hx'=>h.p3 i a x hi' hx (by omega) hca) j (by omega) (by omega)
  ·have hj:b≤j:=by
    apply Nat.le_of_not_lt
    intro hj
    exact zon hca (by omega:a≤i) (show j<a+c by omega) k hk h1 h2
   rw [o j (Or.inr hj)]
   rcases hbe with hbe | hbe
   ·exact hs.all hab hb (Q:=fun q=>q<ka rk l j) (fun x hx hx'=>h.p3 x b j hx' hj h3 hbe) i (by omega) (by omega)
   ·omega
 refine ⟨fun i j h1 h2 h3 h4=>?_,fun i j h1 h2 h3 h4=>?_,fun i k j h1 h2 h3 hk=>cross i k j h1 h2 (by omega) hk,fun i k j h1 h2 h3 h4 h5=>?_⟩
 ·by_cases hj:j<a
  ·rw [o i (by omega),o j (Or.inl hj)];exact h.p1 i j h1 (by omega) hj h4
  ·have hi:a≤i:=by
    apply Nat.le_of_not_lt
    intro hi
    exact h4 a hca hi (by omega)
   exact ht i j hi h1 h3
 ·rw [o i (Or.inr h3),o j (by omega)];exact h.p2 i j h1 (by omega) (by omega) h4
 ·rw [o i (Or.inr h4),o j (by omega)];exact h.p4 i k j h1 h2 (by omega) (by omega) h5
structure Run (lt:T→T→Option Bool) (key rk:T→Int) (l y:List T):Prop where
 seg:Seg l y 0 l.length
 keyed:KeyR lt key rk y
 inj:InjK key y
theorem Run.next {l y z:List T}{a b:Nat} (h:Run lt key rk l y) (hs:Seg y z a b) (hb:b≤l.length):Run lt key rk l z:=⟨h.seg.trans (hs.mono (Nat.zero_le _) hb),h.keyed.seg hs,h.inj.seg hs⟩
theorem z8j {l:List T} (hl:l.length<2 ^ 40):∀ (d a:Nat) (y:List T),l.length - a≤d→a≤l.length→20 ∣ a→Run lt key rk l y→Blks key rk 20 1 y a →
  ∃ z,(iter (gSt0 lt (l.length:Int) (20:Int)) ((a:Int),((a+20:Nat):Int),y)).bind (fun
   | .jmp _ (s5_7,s6_7,y2_7)=>(gIns lt s5_7 (l.length:Int) y2_7).bind fun r8=>if r8.length=y2_7.length then some r8 else none
   | _=>none)=some z∧Run lt key rk l z∧Blks key rk 20 1 z l.length:=by
 intro d
 have up:∀ (y:List T) a b,y.length=l.length→Blks key rk 20 1 y a→b≤l.length→Up rk y a b:=fun y a b hy hB hb i j hi hij hj=>hB.p4 i j j hij (Nat.le_refl _) (by omega) hi (Nat.one_dvd _)
 have fin:∀ a (y:List T),a≤l.length→l.length<a+20→20 ∣ a→Run lt key rk l y→Blks key rk 20 1 y a→∃ z,((gIns lt (a:Int) (l.length:Int) y).bind fun r8=>if r8.length=y.length then some r8 else none)=some z∧Run lt key rk l z∧Blks key rk 20 1 z l.length:=by
  intro a y ha hla h20 hr hB
  have hyl:=hr.seg.len
  obtain ⟨z,hz,hz2,hz3⟩:=z5g hr.keyed ha (by omega) (by omega) (up y a l.length hyl hB (Nat.le_refl _))
  refine ⟨z,by rw [hz,Option.bind_some,if_pos hz2.len],hr.next hz2 (Nat.le_refl _),hB.seg (Nat.one_dvd _) h20 ha (by omega) (by omega) (Or.inr hyl.symm) hz2 hz3⟩
 induction d with
 | zero =>
  intro a y h1 h2 h3 hr hB
  have hs:gSt0 lt (l.length:Int) (20:Int) ((a:Int),((a+20:Nat):Int),y)=some (.jmp 0 ((a:Int),((a+20:Nat):Int),y)):=by
   simp only [gSt0];rw [if_neg (by omega)]
  rw [zau hs]
  exact fin a y h2 (by omega) h3 hr hB
 | succ d ih =>
  intro a y h1 h2 h3 hr hB
  have hyl:=hr.seg.len
  by_cases hb:a+20≤l.length
  ·obtain ⟨z,hz,hz2,hz3⟩:=z5g hr.keyed (a:=a) (b:=a+20) (by omega) (by omega) (by omega) (up y a (a+20) hyl hB hb)
   have e1:w64 (((a+20:Nat):Int)+(20:Int))=((a+20+20:Nat):Int):=w64_n (by omega) (by omega)
   have hs:gSt0 lt (l.length:Int) (20:Int) ((a:Int),((a+20:Nat):Int),y)=some (.next (((a+20:Nat):Int),((a+20+20:Nat):Int),z)):=by
    simp only [gSt0,hz,Option.bind_some,if_pos hz2.len,e1];rw [if_pos (by omega)]
   rw [zat hs]
   have h20:20 ∣ a+20:=(Nat.dvd_add_right h3).2 (Nat.dvd_refl _)
   exact ih (a+20) z (by omega) hb h20 (hr.next hz2 hb) (hB.seg (Nat.one_dvd _) h3 (by omega) (by omega) (by omega) (Or.inl h20) hz2 hz3)
  ·have hs:gSt0 lt (l.length:Int) (20:Int) ((a:Int),((a+20:Nat):Int),y)=some (.jmp 0 ((a:Int),((a+20:Nat):Int),y)):=by
    simp only [gSt0];rw [if_neg (by omega)]
   rw [zau hs]
   exact fin a y h2 (by omega) h3 hr hB
theorem z2e {c a b:Nat}{l y:List T} (hc:0<c) (hl:l.length<2 ^ 40) (hr:Run lt key rk l y) (hB:Blks key rk (2*c) c y a) (ha:2*c ∣ a) (h1:a+c<b) (h2:b≤a+2*c) (hb:b≤l.length):SDom lt key rk y a (a+c) b:=by
 have hyl:=hr.seg.len
 have hca:c ∣ a:=Nat.dvd_trans (Nat.dvd_mul_left _ _) ha
 have hca2:c ∣ a+c:=(Nat.dvd_add_right hca).2 (Nat.dvd_refl _)
 refine ⟨hr.keyed,by omega,h1,by omega,by omega,fun i j hi hij hj=>?_,fun i j hi hij hj=>?_,fun i j hi hi' hj hj'=>?_,hr.inj⟩
 ·exact hB.p2 i j hij (by omega) hi (zon hca hi hj)
 ·exact hB.p2 i j hij (by omega) (by omega) (zon hca2 hi (by omega))
 ·exact hB.p4 i (a+c) j hi' hj (by omega) hi hca2
theorem z59 {c:Nat}{l:List T} (hc:0<c) (hcl:c<l.length) (hl:l.length<2 ^ 40):∀ (d a:Nat) (y:List T),l.length - a≤d→a≤l.length→2*c ∣ a→Run lt key rk l y→Blks key rk (2*c) c y a →
  ∃ z,(iter (gSt2 (symS lt key rk) (l.length:Int) (c:Int)) ((a:Int),((a+2*c:Nat):Int),y)).bind (fun
   | .jmp _ (s5_19,s6_19,y2_19) =>
    if (w64 (s5_19+(c:Int)))<(l.length:Int) then
     (symS lt key rk s5_19 (w64 (s5_19+(c:Int))) (l.length:Int) y2_19).bind fun r21 =>
     if r21.length=y2_19.length then
      some (.next (w64 ((c:Int)*(2:Int)),r21))
     else none
    else
     some (.next (w64 ((c:Int)*(2:Int)),y2_19))
   | _=>none)=some (Out.next (ρ:=List T) (((2*c:Nat):Int),z))∧Run lt key rk l z∧Blks key rk (2*c) c z l.length:=by
 intro d
 have e0:w64 ((c:Int)*(2:Int))=((2*c:Nat):Int):=w64_n (by omega) (by omega)
 have e9:w64 ((2:Int)*(c:Int))=((2*c:Nat):Int):=w64_n (by omega) (by omega)
 have hdc:c ∣ 2*c:=Nat.dvd_mul_left _ _
 have fin:∀ a (y:List T),a≤l.length→l.length<a+2*c→2*c ∣ a→Run lt key rk l y→Blks key rk (2*c) c y a→∃ z,(if (w64 ((a:Int)+(c:Int)))<(l.length:Int) then
     (symS lt key rk (a:Int) (w64 ((a:Int)+(c:Int))) (l.length:Int) y).bind fun r21 =>
     if r21.length=y.length then
      some (.next (w64 ((c:Int)*(2:Int)),r21))
     else none
    else
     some (.next (w64 ((c:Int)*(2:Int)),y)))=some (Out.next (ρ:=List T) (((2*c:Nat):Int),z))∧Run lt key rk l z∧Blks key rk (2*c) c z l.length:=by
  intro a y ha hla h20 hr hB
  have hyl:=hr.seg.len
  have e1:w64 ((a:Int)+(c:Int))=((a+c:Nat):Int):=w64_n (by omega) (by omega)
  rw [e1,e0]
  by_cases hm:a+c<l.length
  ·rw [if_pos (by omega)]
   obtain ⟨z,hz,hz2,hz3⟩:=zot _ y a (a+c) l.length (Nat.lt_succ_self _) (z2e hc hl hr hB h20 hm (by omega) (Nat.le_refl _))
   refine ⟨z,by rw [hz,Option.bind_some,if_pos hz2.len],hr.next hz2 (Nat.le_refl _),hB.seg hdc h20 ha (by omega) (by omega) (Or.inr hyl.symm) hz2 hz3⟩
  ·rw [if_neg (by omega)]
   refine ⟨y,rfl,hr,hB.seg hdc h20 ha (by omega) (by omega) (Or.inr hyl.symm) (.refl ..) (fun i j hi hij hj=>?_)⟩
   exact hB.p2 i j hij (by omega) hi (zon (Nat.dvd_trans hdc h20) hi (by omega))
 induction d with
 | zero =>
  intro a y h1 h2 h3 hr hB
  have hs:gSt2 (symS lt key rk) (l.length:Int) (c:Int) ((a:Int),((a+2*c:Nat):Int),y)=some (.jmp 4 ((a:Int),((a+2*c:Nat):Int),y)):=by
   simp only [gSt2];rw [if_neg (by omega)]
  rw [zau hs]
  exact fin a y h2 (by omega) h3 hr hB
 | succ d ih =>
  intro a y h1 h2 h3 hr hB
  have hyl:=hr.seg.len
  by_cases hb:a+2*c≤l.length
  ·obtain ⟨z,hz,hz2,hz3⟩:=zot _ y a (a+c) (a+2*c) (Nat.lt_succ_self _) (z2e hc hl hr hB h3 (by omega) (Nat.le_refl _) hb)
   have e1:w64 (((a+2*c:Nat):Int)+((2*c:Nat):Int))=((a+2*c+2*c:Nat):Int):=w64_n (by omega) (by omega)
   have e2:w64 ((a:Int)+(c:Int))=((a+c:Nat):Int):=w64_n (by omega) (by omega)
   have hs:gSt2 (symS lt key rk) (l.length:Int) (c:Int) ((a:Int),((a+2*c:Nat):Int),y)=some (.next (((a+2*c:Nat):Int),((a+2*c+2*c:Nat):Int),z)):=by
    simp only [gSt2,e2,e9,hz,Option.bind_some,if_pos hz2.len,e1];rw [if_pos (by omega)]
   rw [zat hs]
   have h20:2*c ∣ a+2*c:=(Nat.dvd_add_right h3).2 (Nat.dvd_refl _)
   exact ih (a+2*c) z (by omega) hb h20 (hr.next hz2 hb) (hB.seg hdc h3 (by omega) (by omega) (by omega) (Or.inl h20) hz2 hz3)
  ·have hs:gSt2 (symS lt key rk) (l.length:Int) (c:Int) ((a:Int),((a+2*c:Nat):Int),y)=some (.jmp 4 ((a:Int),((a+2*c:Nat):Int),y)):=by
    simp only [gSt2];rw [if_neg (by omega)]
   rw [zau hs]
   exact fin a y h2 (by omega) h3 hr hB
theorem Blks.up {c d:Nat}{y:List T} (h:Blks key rk c d y y.length):Blks key rk (2*c) c y 0 :=
 ⟨fun i j _ _ h3=>absurd h3 (by omega),fun i j h1 h2 _ h4=>h.p1 i j h1 h2 h2 h4,fun i k j h1 h2 h3 h4=>h.p3 i k j h1 h2 h3 (Nat.dvd_trans (Nat.dvd_mul_left _ _) h4),fun i k j h1 h2 h3 _ h4=>h.p3 i k j h1 h2 h3 h4⟩
theorem yc3 {l:List T} (hl:l.length<2 ^ 40):∀ (f c d:Nat) (y:List T),l.length - c≤f→0<c→c<2 ^ 41→Run lt key rk l y→Blks key rk c d y l.length →
  ∃ z,(iter (gSt1 (symS lt key rk) (l.length:Int)) ((c:Int),y)).bind (fun
   | .jmp _ (s4_26,y2_26)=>some y2_26
   | _=>none)=some z∧Seg l z 0 l.length∧Asc key z 0 l.length:=by
 intro f
 have stop:∀ c d (y:List T),l.length≤c→Run lt key rk l y→Blks key rk c d y l.length→∃ z,(iter (gSt1 (symS lt key rk) (l.length:Int)) ((c:Int),y)).bind (fun
   | .jmp _ (s4_26,y2_26)=>some y2_26
   | _=>none)=some z∧Seg l z 0 l.length∧Asc key z 0 l.length:=by
  intro c d y hc hr hB
  have hyl:=hr.seg.len
  have hs:gSt1 (symS lt key rk) (l.length:Int) ((c:Int),y)=some (.jmp 2 ((c:Int),y)):=by
   simp only [gSt1];rw [if_neg (by omega)]
  rw [zau hs]
  refine ⟨y,rfl,hr.seg,fun i j hi hij hj=>hB.p1 i j hij (by omega) hj (fun k hk h1 h2=>?_)⟩
  have:=Nat.le_of_dvd (by omega) hk
  omega
 induction f with
 | zero=>intro c d y h1 h2 h3 hr hB;exact stop c d y (by omega) hr hB
 | succ f ih =>
  intro c d y h1 h2 h3 hr hB
  by_cases hc:c<l.length
  ·have hyl:=hr.seg.len
   obtain ⟨z,hz,hz2,hz3⟩:=z59 h2 hc hl _ 0 y (Nat.le_refl _) (Nat.zero_le _) (Nat.dvd_zero _) hr (by rw [← hyl] at hB;exact hB.up)
   have e9:w64 ((2:Int)*(c:Int))=((2*c:Nat):Int):=w64_n (by omega) (by omega)
   have hs:gSt1 (symS lt key rk) (l.length:Int) ((c:Int),y)=some (.next (((2*c:Nat):Int),z)):=by
    simp only [gSt1,e9]
    rw [if_pos (by omega)]
    rw [Nat.zero_add] at hz
    exact hz
   rw [zat hs]
   exact ih (2*c) c z (by omega) (by omega) (by omega) hz2 hz3
  ·exact stop c d y (by omega) hr hB
theorem z61 {l:List T} (hk:KeyR lt key rk l) (hi:InjK key l) (hu:Up rk l 0 l.length) (hl:l.length<2 ^ 40):∃ t,gStab lt (symS lt key rk) (l.length:Int) l=some t∧Seg l t 0 l.length∧Asc key t 0 l.length:=by
 have hB:Blks key rk 20 1 l 0:=⟨fun i j _ _ h3=>absurd h3 (by omega),fun i j h1 h2 _ h4=>(h4 j (Nat.one_dvd _) h1 (Nat.le_refl _)).elim,fun i k j h1 h2 h3 _=>hu i j (Nat.zero_le _) (by omega) h3,fun i k j h1 h2 h3 _ _=>hu i j (Nat.zero_le _) (by omega) h3⟩
 obtain ⟨y,hy,hy2,hy3⟩:=z8j hl _ 0 l (Nat.le_refl _) (Nat.zero_le _) (Nat.dvd_zero _) ⟨.refl ..,hk,hi⟩ hB
 obtain ⟨z,hz,hz2,hz3⟩:=yc3 hl _ 20 1 y (Nat.le_refl _) (by omega) (by omega) hy2 hy3
 refine ⟨z, ?_,hz2,hz3⟩
 unfold gStab
 rw [show (((0:Nat):Int),((0+20:Nat):Int),l)=((0:Int),(20:Int),l) from rfl] at hy
 rw [show (((20:Nat):Int),y)=((20:Int),y) from rfl] at hz
 generalize iter (gSt0 lt (l.length:Int) (20:Int)) ((0:Int),(20:Int),l)=o at hy
 match o,hy with
 | some (.jmp n (s5,s6,y2)),hy =>
  simp only [Option.bind_some] at hy ⊢
  cases hg:gIns lt s5 (l.length:Int) y2 with
  | none=>rw [hg] at hy;cases hy
  | some r =>
   rw [hg] at hy
   simp only [Option.bind_some] at hy ⊢
   split at hy
   ·rename_i hlen
    obtain rfl:=Option.some.inj hy
    rw [if_pos hlen]
    exact hz
   ·cases hy
end
end Xr

namespace Xr
open Go Go.Ev
set_option linter.unusedSimpArgs false
set_option linter.unusedVariables false
set_option linter.defProp false
noncomputable def ze4 (x0:Int) (x1:Int) (o0:(List Int)) (o2:(List Int)):Option Bool :=
 (rd o2 x0).bind fun v1 =>
 (rd o0 v1).bind fun v4 =>
 (rd o2 x1).bind fun v7 =>
 (rd o0 v7).bind fun v10 =>
 some (decide (v10<v4))
noncomputable def zca (s1:Int) (s2:Int) (s6:Int) (w0_0:(List Int)):(Int×(List Int))→Option (Out (Int×(List Int)) ((List Int)×(List Int))):=fun (s7,y2) =>
 if s1<s7 then
  (ze4 s7 (w64 (s7 - (1:Int))) w0_0 y2).bind fun r3 =>
  if r3=true then
   (swapL s7 (w64 (s7 - (1:Int))) y2).bind fun r9 =>
   if r9.length=y2.length then
    some (.next (w64 (s7 - (1:Int)),r9))
   else none
  else
   some (.jmp 2 (s7,y2))
 else
  some (.jmp 2 (s7,y2))
noncomputable def zb7 (s1:Int) (s2:Int) (w0_0:(List Int)):(Int×(List Int))→Option (Out (Int×(List Int)) ((List Int)×(List Int))):=fun (s6,y2) =>
 if s6<s2 then
  (iter (zca s1 s2 s6 w0_0) (s6,y2)).bind fun
   | .jmp _ (s7_12,y2_12) =>
    some (.next (w64 (s6+(1:Int)),y2_12))
   | _=>none
 else
  some (.jmp 0 (s6,y2))
noncomputable def zb8 (x1:Int) (x2:Int) (o0:(List Int)) (o2:(List Int)):Option ((List Int)×(List Int)) :=
 (iter (zb7 x1 x2 o0) (w64 (x1+(1:Int)),o2)).bind fun
  | .jmp _ (s6_14,y2_14) =>
   some (o0,y2_14)
  | _=>none
noncomputable def zct (s1:Int) (s2:Int) (s3:Int) (w0_0:(List Int)):(Int×(List Int))→Option (Out (Int×(List Int)) ((List Int)×(List Int))):=fun (s8,y2) =>
 if s8<s3 then
  (swapL (w64 (s1+s8)) (w64 (s2+s8)) y2).bind fun r9 =>
  if r9.length=y2.length then
   some (.next (w64 (s8+(1:Int)),r9))
  else none
 else
  some (.jmp 0 (s8,y2))
noncomputable def zci (x1:Int) (x2:Int) (x3:Int) (o0:(List Int)) (o2:(List Int)):Option ((List Int)×(List Int)) :=
 (iter (zct x1 x2 x3 o0) ((0:Int),o2)).bind fun
  | .jmp _ (s8_12,y2_12) =>
   some (o0,y2_12)
  | _=>none
noncomputable def zdy (s2:Int):(Int×Int×(List Int)×(List Int))→Option (Out (Int×Int×(List Int)×(List Int)) ((List Int)×(List Int))):=fun (s8,s9,w0_0,y2) =>
 if s8=s9 then
  some (.jmp 0 (s8,s9,w0_0,y2))
 else
  if s9<s8 then
   (zci (w64 (s2 - s8)) s2 s9 w0_0 y2).bind fun r3 =>
   if r3.2.length=y2.length then
    some (.next (w64 (s8 - s9),s9,r3.1,r3.2))
   else none
  else
   (zci (w64 (s2 - s8)) (w64 ((w64 (s2+s9)) - s8)) s8 w0_0 y2).bind fun r7 =>
   if r7.2.length=y2.length then
    some (.next (s8,w64 (s9 - s8),r7.1,r7.2))
   else none
noncomputable def zdo (x1:Int) (x2:Int) (x3:Int) (o0:(List Int)) (o2:(List Int)):Option ((List Int)×(List Int)) :=
 (iter (zdy x2) (w64 (x2 - x1),w64 (x3 - x2),o0,o2)).bind fun
  | .jmp _ (s8_12,s9_12,w0_0_12,y2_12) =>
   (zci (w64 (x2 - s8_12)) x2 s8_12 w0_0_12 y2_12).bind fun r13 =>
   if r13.2.length=y2_12.length then
    some (r13.1,r13.2)
   else none
  | _=>none
noncomputable def zb4 (rec:Int→Int→Int→(List Int)→(List Int)→Option ((List Int)×(List Int))) (s1:Int) (s2:Int) (s3:Int) (s16:Int) (s17:Int) (s20:Int) (w0_0:(List Int)) (y2:(List Int)):(Int×Int)→Option (Out (Int×Int) ((List Int)×(List Int))):=fun (s18,s19) =>
 if s18<s19 then
  (shrK .u64 (IntKind.wrap .u64 (w64 (s18+s19))) (1:Int)).bind fun q130 =>
  (ze4 (w64 (s20 - (IntKind.wrap .i64 q130))) (IntKind.wrap .i64 q130) w0_0 y2).bind fun r133 =>
  if r133=true then
   some (.next (s18,IntKind.wrap .i64 q130))
  else
   some (.next (w64 ((IntKind.wrap .i64 q130)+(1:Int)),s19))
 else
  some (.jmp 8 (s18,s19))
noncomputable def zc9 (rec:Int→Int→Int→(List Int)→(List Int)→Option ((List Int)×(List Int))) (s12:Int) (w0_0:(List Int)):(Int×(List Int))→Option (Out (Int×(List Int)) ((List Int)×(List Int))):=fun (s15,y2) =>
 if s12<s15 then
  (swapL s15 (w64 (s15 - (1:Int))) y2).bind fun r33 =>
  if r33.length=y2.length then
   some (.next (w64 (s15 - (1:Int)),r33))
  else none
 else
  some (.jmp 6 (s15,y2))
noncomputable def zda (rec:Int→Int→Int→(List Int)→(List Int)→Option ((List Int)×(List Int))) (s2:Int) (w0_0:(List Int)) (y2:(List Int)):(Int×Int)→Option (Out (Int×Int) ((List Int)×(List Int))):=fun (s12,s13) =>
 if s12<s13 then
  (shrK .u64 (IntKind.wrap .u64 (w64 (s12+s13))) (1:Int)).bind fun q21 =>
  (ze4 s2 (IntKind.wrap .i64 q21) w0_0 y2).bind fun r24 =>
  if r24=true then
   some (.next (s12,IntKind.wrap .i64 q21))
  else
   some (.next (w64 ((IntKind.wrap .i64 q21)+(1:Int)),s13))
 else
  some (.jmp 4 (s12,s13))
noncomputable def zdd (rec:Int→Int→Int→(List Int)→(List Int)→Option ((List Int)×(List Int))) (s8:Int) (w0_0:(List Int)):(Int×(List Int))→Option (Out (Int×(List Int)) ((List Int)×(List Int))):=fun (s11,y2) =>
 if s11<(w64 (s8 - (1:Int))) then
  (swapL s11 (w64 (s11+(1:Int))) y2).bind fun r15 =>
  if r15.length=y2.length then
   some (.next (w64 (s11+(1:Int)),r15))
  else none
 else
  some (.jmp 2 (s11,y2))
noncomputable def zdb (rec:Int→Int→Int→(List Int)→(List Int)→Option ((List Int)×(List Int))) (s1:Int) (w0_0:(List Int)) (y2:(List Int)):(Int×Int)→Option (Out (Int×Int) ((List Int)×(List Int))):=fun (s8,s9) =>
 if s8<s9 then
  (shrK .u64 (IntKind.wrap .u64 (w64 (s8+s9))) (1:Int)).bind fun q3 =>
  (ze4 (IntKind.wrap .i64 q3) s1 w0_0 y2).bind fun r6 =>
  if r6=true then
   some (.next (w64 ((IntKind.wrap .i64 q3)+(1:Int)),s9))
  else
   some (.next (s8,IntKind.wrap .i64 q3))
 else
  some (.jmp 0 (s8,s9))
noncomputable def sort_symMerge_funcZ.body (rec:Int→Int→Int→(List Int)→(List Int)→Option ((List Int)×(List Int))) (x1:Int) (x2:Int) (x3:Int) (o0:(List Int)) (o2:(List Int)):Option ((List Int)×(List Int)) :=
 if (w64 (x2 - x1))=(1:Int) then
  (iter (zdb rec x1 o0 o2) (x2,x3)).bind fun
   | .jmp _ (s8_11,s9_11) =>
    (iter (zdd rec s8_11 o0) (x1,o2)).bind fun
     | .jmp _ (s11_18,y2_18) =>
      some (o0,y2_18)
     | _=>none
   | _=>none
 else
  if (w64 (x3 - x2))=(1:Int) then
   (iter (zda rec x2 o0 o2) (x1,x2)).bind fun
    | .jmp _ (s12_29,s13_29) =>
     (iter (zc9 rec s12_29 o0) (x2,o2)).bind fun
      | .jmp _ (s15_36,y2_36) =>
       some (o0,y2_36)
      | _=>none
    | _=>none
  else
   (shrK .u64 (IntKind.wrap .u64 (w64 (x1+x3))) (1:Int)).bind fun q37 =>
   if (IntKind.wrap .i64 q37)<x2 then
    (iter (zb4 rec x1 x2 x3 (IntKind.wrap .i64 q37) (w64 ((IntKind.wrap .i64 q37)+x2)) (w64 ((w64 ((IntKind.wrap .i64 q37)+x2)) - (1:Int))) o0 o2) (w64 ((w64 ((IntKind.wrap .i64 q37)+x2)) - x3),IntKind.wrap .i64 q37)).bind fun
     | .jmp _ (s18_50,s19_50) =>
      if s18_50<x2 then
       if x2<(w64 ((w64 ((IntKind.wrap .i64 q37)+x2)) - s18_50)) then
        (zdo s18_50 x2 (w64 ((w64 ((IntKind.wrap .i64 q37)+x2)) - s18_50)) o0 o2).bind fun r53 =>
        if r53.2.length=o2.length then
         if x1<s18_50 then
          if s18_50<(IntKind.wrap .i64 q37) then
           (rec x1 s18_50 (IntKind.wrap .i64 q37) r53.1 r53.2).bind fun r59 =>
           if r59.2.length=r53.2.length then
            if (IntKind.wrap .i64 q37)<(w64 ((w64 ((IntKind.wrap .i64 q37)+x2)) - s18_50)) then
             if (w64 ((w64 ((IntKind.wrap .i64 q37)+x2)) - s18_50))<x3 then
              (rec (IntKind.wrap .i64 q37) (w64 ((w64 ((IntKind.wrap .i64 q37)+x2)) - s18_50)) x3 r59.1 r59.2).bind fun r65 =>
              if r65.2.length=r59.2.length then
               some (r65.1,r65.2)
              else none
             else
              some (r59.1,r59.2)
            else
             some (r59.1,r59.2)
           else none
          else
           if (IntKind.wrap .i64 q37)<(w64 ((w64 ((IntKind.wrap .i64 q37)+x2)) - s18_50)) then
            if (w64 ((w64 ((IntKind.wrap .i64 q37)+x2)) - s18_50))<x3 then
             (rec (IntKind.wrap .i64 q37) (w64 ((w64 ((IntKind.wrap .i64 q37)+x2)) - s18_50)) x3 r53.1 r53.2).bind fun r71 =>
             if r71.2.length=r53.2.length then
              some (r71.1,r71.2)
             else none
            else
             some (r53.1,r53.2)
           else
            some (r53.1,r53.2)
         else
          if (IntKind.wrap .i64 q37)<(w64 ((w64 ((IntKind.wrap .i64 q37)+x2)) - s18_50)) then
           if (w64 ((w64 ((IntKind.wrap .i64 q37)+x2)) - s18_50))<x3 then
            (rec (IntKind.wrap .i64 q37) (w64 ((w64 ((IntKind.wrap .i64 q37)+x2)) - s18_50)) x3 r53.1 r53.2).bind fun r77 =>
            if r77.2.length=r53.2.length then
             some (r77.1,r77.2)
            else none
           else
            some (r53.1,r53.2)
          else
           some (r53.1,r53.2)
        else none
       else
        if x1<s18_50 then
         if s18_50<(IntKind.wrap .i64 q37) then
          (rec x1 s18_50 (IntKind.wrap .i64 q37) o0 o2).bind fun r83 =>
          if r83.2.length=o2.length then
           if (IntKind.wrap .i64 q37)<(w64 ((w64 ((IntKind.wrap .i64 q37)+x2)) - s18_50)) then
            if (w64 ((w64 ((IntKind.wrap .i64 q37)+x2)) - s18_50))<x3 then
             (rec (IntKind.wrap .i64 q37) (w64 ((w64 ((IntKind.wrap .i64 q37)+x2)) - s18_50)) x3 r83.1 r83.2).bind fun r89 =>
             if r89.2.length=r83.2.length then
              some (r89.1,r89.2)
             else none
            else
             some (r83.1,r83.2)
           else
            some (r83.1,r83.2)
          else none
         else
          if (IntKind.wrap .i64 q37)<(w64 ((w64 ((IntKind.wrap .i64 q37)+x2)) - s18_50)) then
           if (w64 ((w64 ((IntKind.wrap .i64 q37)+x2)) - s18_50))<x3 then
            (rec (IntKind.wrap .i64 q37) (w64 ((w64 ((IntKind.wrap .i64 q37)+x2)) - s18_50)) x3 o0 o2).bind fun r95 =>
            if r95.2.length=o2.length then
             some (r95.1,r95.2)
            else none
           else
            some (o0,o2)
          else
           some (o0,o2)
        else
         if (IntKind.wrap .i64 q37)<(w64 ((w64 ((IntKind.wrap .i64 q37)+x2)) - s18_50)) then
          if (w64 ((w64 ((IntKind.wrap .i64 q37)+x2)) - s18_50))<x3 then
           (rec (IntKind.wrap .i64 q37) (w64 ((w64 ((IntKind.wrap .i64 q37)+x2)) - s18_50)) x3 o0 o2).bind fun r101 =>
           if r101.2.length=o2.length then
            some (r101.1,r101.2)
           else none
          else
           some (o0,o2)
         else
          some (o0,o2)
      else
       if x1<s18_50 then
        if s18_50<(IntKind.wrap .i64 q37) then
         (rec x1 s18_50 (IntKind.wrap .i64 q37) o0 o2).bind fun r107 =>
         if r107.2.length=o2.length then
          if (IntKind.wrap .i64 q37)<(w64 ((w64 ((IntKind.wrap .i64 q37)+x2)) - s18_50)) then
           if (w64 ((w64 ((IntKind.wrap .i64 q37)+x2)) - s18_50))<x3 then
            (rec (IntKind.wrap .i64 q37) (w64 ((w64 ((IntKind.wrap .i64 q37)+x2)) - s18_50)) x3 r107.1 r107.2).bind fun r113 =>
            if r113.2.length=r107.2.length then
             some (r113.1,r113.2)
            else none
           else
            some (r107.1,r107.2)
          else
           some (r107.1,r107.2)
         else none
        else
         if (IntKind.wrap .i64 q37)<(w64 ((w64 ((IntKind.wrap .i64 q37)+x2)) - s18_50)) then
          if (w64 ((w64 ((IntKind.wrap .i64 q37)+x2)) - s18_50))<x3 then
           (rec (IntKind.wrap .i64 q37) (w64 ((w64 ((IntKind.wrap .i64 q37)+x2)) - s18_50)) x3 o0 o2).bind fun r119 =>
           if r119.2.length=o2.length then
            some (r119.1,r119.2)
           else none
          else
           some (o0,o2)
         else
          some (o0,o2)
       else
        if (IntKind.wrap .i64 q37)<(w64 ((w64 ((IntKind.wrap .i64 q37)+x2)) - s18_50)) then
         if (w64 ((w64 ((IntKind.wrap .i64 q37)+x2)) - s18_50))<x3 then
          (rec (IntKind.wrap .i64 q37) (w64 ((w64 ((IntKind.wrap .i64 q37)+x2)) - s18_50)) x3 o0 o2).bind fun r125 =>
          if r125.2.length=o2.length then
           some (r125.1,r125.2)
          else none
         else
          some (o0,o2)
        else
         some (o0,o2)
     | _=>none
   else
    (iter (zb4 rec x1 x2 x3 (IntKind.wrap .i64 q37) (w64 ((IntKind.wrap .i64 q37)+x2)) (w64 ((w64 ((IntKind.wrap .i64 q37)+x2)) - (1:Int))) o0 o2) (x1,x2)).bind fun
     | .jmp _ (s18_138,s19_138) =>
      if s18_138<x2 then
       if x2<(w64 ((w64 ((IntKind.wrap .i64 q37)+x2)) - s18_138)) then
        (zdo s18_138 x2 (w64 ((w64 ((IntKind.wrap .i64 q37)+x2)) - s18_138)) o0 o2).bind fun r141 =>
        if r141.2.length=o2.length then
         if x1<s18_138 then
          if s18_138<(IntKind.wrap .i64 q37) then
           (rec x1 s18_138 (IntKind.wrap .i64 q37) r141.1 r141.2).bind fun r147 =>
           if r147.2.length=r141.2.length then
            if (IntKind.wrap .i64 q37)<(w64 ((w64 ((IntKind.wrap .i64 q37)+x2)) - s18_138)) then
             if (w64 ((w64 ((IntKind.wrap .i64 q37)+x2)) - s18_138))<x3 then
              (rec (IntKind.wrap .i64 q37) (w64 ((w64 ((IntKind.wrap .i64 q37)+x2)) - s18_138)) x3 r147.1 r147.2).bind fun r153 =>
              if r153.2.length=r147.2.length then
               some (r153.1,r153.2)
              else none
             else
              some (r147.1,r147.2)
            else
             some (r147.1,r147.2)
           else none
          else
           if (IntKind.wrap .i64 q37)<(w64 ((w64 ((IntKind.wrap .i64 q37)+x2)) - s18_138)) then
            if (w64 ((w64 ((IntKind.wrap .i64 q37)+x2)) - s18_138))<x3 then
             (rec (IntKind.wrap .i64 q37) (w64 ((w64 ((IntKind.wrap .i64 q37)+x2)) - s18_138)) x3 r141.1 r141.2).bind fun r159 =>
             if r159.2.length=r141.2.length then
              some (r159.1,r159.2)
             else none
            else
             some (r141.1,r141.2)
           else
            some (r141.1,r141.2)
         else
          if (IntKind.wrap .i64 q37)<(w64 ((w64 ((IntKind.wrap .i64 q37)+x2)) - s18_138)) then
           if (w64 ((w64 ((IntKind.wrap .i64 q37)+x2)) - s18_138))<x3 then
            (rec (IntKind.wrap .i64 q37) (w64 ((w64 ((IntKind.wrap .i64 q37)+x2)) - s18_138)) x3 r141.1 r141.2).bind fun r165 =>
            if r165.2.length=r141.2.length then
             some (r165.1,r165.2)
            else none
           else
            some (r141.1,r141.2)
          else
           some (r141.1,r141.2)
        else none
       else
        if x1<s18_138 then
         if s18_138<(IntKind.wrap .i64 q37) then
          (rec x1 s18_138 (IntKind.wrap .i64 q37) o0 o2).bind fun r171 =>
          if r171.2.length=o2.length then
           if (IntKind.wrap .i64 q37)<(w64 ((w64 ((IntKind.wrap .i64 q37)+x2)) - s18_138)) then
            if (w64 ((w64 ((IntKind.wrap .i64 q37)+x2)) - s18_138))<x3 then
             (rec (IntKind.wrap .i64 q37) (w64 ((w64 ((IntKind.wrap .i64 q37)+x2)) - s18_138)) x3 r171.1 r171.2).bind fun r177 =>
             if r177.2.length=r171.2.length then
              some (r177.1,r177.2)
             else none
            else
             some (r171.1,r171.2)
           else
            some (r171.1,r171.2)
          else none
         else
          if (IntKind.wrap .i64 q37)<(w64 ((w64 ((IntKind.wrap .i64 q37)+x2)) - s18_138)) then
           if (w64 ((w64 ((IntKind.wrap .i64 q37)+x2)) - s18_138))<x3 then
            (rec (IntKind.wrap .i64 q37) (w64 ((w64 ((IntKind.wrap .i64 q37)+x2)) - s18_138)) x3 o0 o2).bind fun r183 =>
            if r183.2.length=o2.length then
             some (r183.1,r183.2)
            else none
           else
            some (o0,o2)
          else
           some (o0,o2)
        else
         if (IntKind.wrap .i64 q37)<(w64 ((w64 ((IntKind.wrap .i64 q37)+x2)) - s18_138)) then
          if (w64 ((w64 ((IntKind.wrap .i64 q37)+x2)) - s18_138))<x3 then
           (rec (IntKind.wrap .i64 q37) (w64 ((w64 ((IntKind.wrap .i64 q37)+x2)) - s18_138)) x3 o0 o2).bind fun r189 =>
           if r189.2.length=o2.length then
            some (r189.1,r189.2)
           else none
          else
           some (o0,o2)
         else
          some (o0,o2)
      else
       if x1<s18_138 then
        if s18_138<(IntKind.wrap .i64 q37) then
         (rec x1 s18_138 (IntKind.wrap .i64 q37) o0 o2).bind fun r195 =>
         if r195.2.length=o2.length then
          if (IntKind.wrap .i64 q37)<(w64 ((w64 ((IntKind.wrap .i64 q37)+x2)) - s18_138)) then
           if (w64 ((w64 ((IntKind.wrap .i64 q37)+x2)) - s18_138))<x3 then
            (rec (IntKind.wrap .i64 q37) (w64 ((w64 ((IntKind.wrap .i64 q37)+x2)) - s18_138)) x3 r195.1 r195.2).bind fun r201 =>
            if r201.2.length=r195.2.length then
             some (r201.1,r201.2)
            else none
           else
            some (r195.1,r195.2)
          else
           some (r195.1,r195.2)
         else none
        else
         if (IntKind.wrap .i64 q37)<(w64 ((w64 ((IntKind.wrap .i64 q37)+x2)) - s18_138)) then
          if (w64 ((w64 ((IntKind.wrap .i64 q37)+x2)) - s18_138))<x3 then
           (rec (IntKind.wrap .i64 q37) (w64 ((w64 ((IntKind.wrap .i64 q37)+x2)) - s18_138)) x3 o0 o2).bind fun r207 =>
           if r207.2.length=o2.length then
            some (r207.1,r207.2)
           else none
          else
           some (o0,o2)
         else
          some (o0,o2)
       else
        if (IntKind.wrap .i64 q37)<(w64 ((w64 ((IntKind.wrap .i64 q37)+x2)) - s18_138)) then
         if (w64 ((w64 ((IntKind.wrap .i64 q37)+x2)) - s18_138))<x3 then
          (rec (IntKind.wrap .i64 q37) (w64 ((w64 ((IntKind.wrap .i64 q37)+x2)) - s18_138)) x3 o0 o2).bind fun r213 =>
          if r213.2.length=o2.length then
           some (r213.1,r213.2)
          else none
         else
          some (o0,o2)
        else
         some (o0,o2)
     | _=>none
end Xr

set_option linter.unusedVariables false
set_option linter.unusedSimpArgs false
namespace Xr
open Go Go.Ev
def omp {σ σ' ρ ρ':Type} (f:σ→σ') (g:ρ→ρ'):Out σ ρ→Out σ' ρ'
 | .next s=>.next (f s)
 | .jmp n s=>.jmp n (f s)
 | .ret r=>.ret (g r)
theorem zqf {σ σ' ρ ρ':Type}{step:σ→Option (Out σ ρ)}{step':σ'→Option (Out σ' ρ')}{f:σ→σ'}{g:ρ→ρ'} (h:∀ s,step' (f s)=(step s).map (omp f g)):∀ (k:Nat) (s:σ),iterN step' k (f s)=(iterN step k s).map (omp f g)
 | 0,s=>rfl
 | k+1,s=>by
  simp only [iterN,h s]
  cases hs:step s with
  | none=>rfl
  | some o =>
   cases o with
   | next s'=>exact zqf h k s'
   | jmp n s'=>rfl
   | ret r=>rfl
theorem zg2 {σ σ' ρ ρ':Type}{step:σ→Option (Out σ ρ)}{step':σ'→Option (Out σ' ρ')}{f:σ→σ'}{g:ρ→ρ'} (h:∀ s,step' (f s)=(step s).map (omp f g)) (s:σ):iter step' (f s)=(iter step s).map (omp f g):=by
 cases hs:iter step s with
 | some r =>
  obtain ⟨k,hk⟩:=zg7.1 hs
  exact zg7.2 ⟨k,by rw [zqf h,hk];rfl⟩
 | none =>
  cases hs':iter step' (f s) with
  | none=>rfl
  | some r =>
   obtain ⟨k,hk⟩:=zg7.1 hs'
   rw [zqf h] at hk
   cases h2:iterN step k s with
   | none=>rw [h2] at hk;cases hk
   | some r' =>
    have:=zg7.2 ⟨k,h2⟩
    rw [hs] at this;cases this
def ltT (w:List Int) (u v:Int):Option Bool:=(rd w u).bind fun a=>(rd w v).bind fun b=>some (decide (b<a))
theorem lessZ (i j:Int) (w y:List Int):ze4 i j w y=gLess (ltT w) i j y:=by
 unfold ze4 gLess ltT
 cases rd y i with
 | none=>rfl
 | some u =>
  simp only [Option.bind_some]
  cases rd w u with
  | none=>cases rd y j<;>rfl
  | some a=>rfl
theorem zgp {α β:Type}{c:Prop} [Decidable c] (f:α→β) (a b:Option α):(if c then a else b).map f=if c then a.map f else b.map f:=by split<;>rfl
theorem zcu {α β γ:Type} (f:β→γ) (o:Option α) (k:α→Option β):(o.bind k).map f=o.bind fun a=>(k a).map f:=by cases o<;>rfl
theorem bind_map {α β γ:Type} (f:α→β) (o:Option α) (k:β→Option γ):(o.map f).bind k=o.bind fun a=>k (f a):=by cases o<;>rfl
section
variable (w : List Int)
abbrev Wp2 (y:List Int):List Int×List Int:=(w,y)
theorem ins1Z (s1 s2 s6:Int) (s):zca s1 s2 s6 w s=(gIns1 (ltT w) s1 s).map (omp id (Wp2 w)):=by
 obtain ⟨i,y⟩:=s
 simp only [zca,gIns1,lessZ,zgp,zcu,Option.map_some,Option.map_none,omp,id]
theorem ins0Z (s1 s2:Int) (s):zb7 s1 s2 w s=(gIns0 (ltT w) s1 s2 s).map (omp id (Wp2 w)):=by
 obtain ⟨i,y⟩:=s
 simp only [zb7,gIns0,zgp,zcu,Option.map_some,omp,id]
 rw [show iter (zca s1 s2 i w) (i,y)=_ from zg2 (f:=id) (ins1Z w s1 s2 i) (i,y),bind_map]
 congr 1
 exact bnd fun o=>by cases o<;>rfl
theorem insZ (s1 s2:Int) (y:List Int):zb8 s1 s2 w y=(gIns (ltT w) s1 s2 y).map (Wp2 w):=by
 unfold zb8 gIns
 rw [show iter (zb7 s1 s2 w) (w64 (s1+1),y)=_ from zg2 (f:=id) (ins0Z w s1 s2) _,bind_map,zcu]
 exact bnd fun o=>by cases o<;>rfl
theorem swr0Z (s1 s2 s3:Int) (s):zct s1 s2 s3 w s=(gSwr0 s1 s2 s3 s).map (omp id (Wp2 w)):=by
 obtain ⟨i,y⟩:=s
 simp only [zct,gSwr0,zgp,zcu,Option.map_some,Option.map_none,omp,id]
theorem swrZ (s1 s2 s3:Int) (y:List Int):zci s1 s2 s3 w y=(gSwr s1 s2 s3 y).map (Wp2 w):=by
 unfold zci gSwr
 rw [show iter (zct s1 s2 s3 w) ((0:Int),y)=_ from zg2 (f:=id) (swr0Z w s1 s2 s3) _,bind_map,zcu]
 exact bnd fun o=>by cases o<;>rfl
abbrev W3 (s:Int×Int×List Int):Int×Int×List Int×List Int:=(s.1,s.2.1,w,s.2.2)
theorem rot0Z (s2:Int) (s):zdy s2 (W3 w s)=(gRot0 s2 s).map (omp (W3 w) (Wp2 w)):=by
 obtain ⟨i,j,y⟩:=s
 simp only [zdy,gRot0,swrZ,zgp,zcu,bind_map,Option.map_some,Option.map_none,omp,id,Wp2,W3]
theorem rotZ (s1 s2 s3:Int) (y:List Int):zdo s1 s2 s3 w y=(gRot s1 s2 s3 y).map (Wp2 w):=by
 unfold zdo gRot
 rw [show iter (zdy s2) (w64 (s2 - s1),w64 (s3 - s2),w,y)=_ from zg2 (f:=W3 w) (rot0Z w s2) (w64 (s2 - s1),w64 (s3 - s2),y),bind_map,zcu]
 refine bnd fun o=>?_
 cases o with
 | jmp n s=>simp only [omp,W3,swrZ,bind_map,zcu,zgp,Option.map_some,Option.map_none,Wp2]
 | next s=>rfl
 | ret r=>rfl
theorem s0Z {rec} (s1:Int) (y:List Int) (s):zdb rec s1 w y s=(gS0 (ltT w) s1 y s).map (omp id (Wp2 w)):=by
 obtain ⟨i,j⟩:=s
 simp only [zdb,gS0,lessZ,zgp,zcu,Option.map_some,Option.map_none,omp,id]
theorem s1Z {rec} (s1:Int) (s):zdd rec s1 w s=(gS1 s1 s).map (omp id (Wp2 w)):=by
 obtain ⟨i,y⟩:=s
 simp only [zdd,gS1,zgp,zcu,Option.map_some,Option.map_none,omp,id]
theorem s2Z {rec} (s1:Int) (y:List Int) (s):zda rec s1 w y s=(gS2 (ltT w) s1 y s).map (omp id (Wp2 w)):=by
 obtain ⟨i,j⟩:=s
 simp only [zda,gS2,lessZ,zgp,zcu,Option.map_some,Option.map_none,omp,id]
theorem s3Z {rec} (s1:Int) (s):zc9 rec s1 w s=(gS3 s1 s).map (omp id (Wp2 w)):=by
 obtain ⟨i,y⟩:=s
 simp only [zc9,gS3,zgp,zcu,Option.map_some,Option.map_none,omp,id]
theorem s4Z {rec}{a b c d e:Int} (s1:Int) (y:List Int) (s):zb4 rec a b c d e s1 w y s=(gS4 (ltT w) s1 y s).map (omp id (Wp2 w)):=by
 obtain ⟨i,j⟩:=s
 simp only [zb4,gS4,lessZ,zgp,zcu,Option.map_some,Option.map_none,omp,id]
theorem symZ {rec:Int→Int→Int→List Int→List Int→Option (List Int×List Int)}{rec':Int→Int→Int→List Int→Option (List Int)} (hr:∀ a b c y,rec a b c w y=(rec' a b c y).map (Wp2 w)) (a b c:Int) (y:List Int):sort_symMerge_funcZ.body rec a b c w y=(gSym (ltT w) rec' a b c y).map (Wp2 w):=by
 have tail:∀ (a b c:Int) (mid s e:Int) (y:List Int),
   (if s<b then if b<e then (zdo s b e w y).bind fun r53=>if r53.2.length=y.length then
    (if a<s then if s<mid then (rec a s mid r53.1 r53.2).bind fun r59=>if r59.2.length=r53.2.length then
     (if mid<e then if e<c then (rec mid e c r59.1 r59.2).bind fun r65=>if r65.2.length=r59.2.length then some (r65.1,r65.2) else none else some (r59.1,r59.2) else some (r59.1,r59.2)) else none
     else (if mid<e then if e<c then (rec mid e c r53.1 r53.2).bind fun r65=>if r65.2.length=r53.2.length then some (r65.1,r65.2) else none else some (r53.1,r53.2) else some (r53.1,r53.2))
     else (if mid<e then if e<c then (rec mid e c r53.1 r53.2).bind fun r65=>if r65.2.length=r53.2.length then some (r65.1,r65.2) else none else some (r53.1,r53.2) else some (r53.1,r53.2))) else none
    else (if a<s then if s<mid then (rec a s mid w y).bind fun r59=>if r59.2.length=y.length then
     (if mid<e then if e<c then (rec mid e c r59.1 r59.2).bind fun r65=>if r65.2.length=r59.2.length then some (r65.1,r65.2) else none else some (r59.1,r59.2) else some (r59.1,r59.2)) else none
     else (if mid<e then if e<c then (rec mid e c w y).bind fun r65=>if r65.2.length=y.length then some (r65.1,r65.2) else none else some (w,y) else some (w,y))
     else (if mid<e then if e<c then (rec mid e c w y).bind fun r65=>if r65.2.length=y.length then some (r65.1,r65.2) else none else some (w,y) else some (w,y)))
    else (if a<s then if s<mid then (rec a s mid w y).bind fun r59=>if r59.2.length=y.length then
     (if mid<e then if e<c then (rec mid e c r59.1 r59.2).bind fun r65=>if r65.2.length=r59.2.length then some (r65.1,r65.2) else none else some (r59.1,r59.2) else some (r59.1,r59.2)) else none
     else (if mid<e then if e<c then (rec mid e c w y).bind fun r65=>if r65.2.length=y.length then some (r65.1,r65.2) else none else some (w,y) else some (w,y))
     else (if mid<e then if e<c then (rec mid e c w y).bind fun r65=>if r65.2.length=y.length then some (r65.1,r65.2) else none else some (w,y) else some (w,y))))=(zri rec' a b c mid s e y).map (Wp2 w):=by
  intro a b c mid s e y
  simp (maxSteps:=2000000) only [zri,zra,zrz,rotZ,hr,zgp,zcu,bind_map,Option.map_some,Option.map_none,Wp2]
 unfold sort_symMerge_funcZ.body gSym
 by_cases c1:w64 (b - a)=1
 ·rw [if_pos c1,if_pos c1]
  rw [show iter (zdb rec a w y) (b,c)=_ from zg2 (f:=id) (s0Z w a y) _,bind_map,zcu]
  refine bnd fun o=>?_
  cases o with
  | next s=>rfl
  | ret r=>rfl
  | jmp n s =>
   simp only [omp,id]
   rw [show iter (zdd rec s.1 w) (a,y)=_ from zg2 (f:=id) (s1Z w s.1) _,bind_map,zcu]
   exact bnd fun o=>by cases o<;>rfl
 ·rw [if_neg c1,if_neg c1]
  by_cases c2:w64 (c - b)=1
  ·rw [if_pos c2,if_pos c2]
   rw [show iter (zda rec b w y) (a,b)=_ from zg2 (f:=id) (s2Z w b y) _,bind_map,zcu]
   refine bnd fun o=>?_
   cases o with
   | next s=>rfl
   | ret r=>rfl
   | jmp n s =>
    simp only [omp,id]
    rw [show iter (zc9 rec s.1 w) (b,y)=_ from zg2 (f:=id) (s3Z w s.1) _,bind_map,zcu]
    exact bnd fun o=>by cases o<;>rfl
  ·rw [if_neg c2,if_neg c2]
   rw [zcu]
   refine bnd fun q=>?_
   by_cases c3:IntKind.wrap .i64 q<b
   ·rw [if_pos c3,if_pos c3]
    rw [show iter (zb4 rec a b c (IntKind.wrap .i64 q) (w64 (IntKind.wrap .i64 q+b)) (w64 (w64 (IntKind.wrap .i64 q+b) - 1)) w y) (w64 (w64 (IntKind.wrap .i64 q+b) - c),IntKind.wrap .i64 q)=_ from zg2 (f:=id) (s4Z w _ y) _,bind_map,zcu]
    refine bnd fun o=>?_
    cases o with
    | next s=>rfl
    | ret r=>rfl
    | jmp n s=>exact tail a b c _ s.1 _ y
   ·rw [if_neg c3,if_neg c3]
    rw [show iter (zb4 rec a b c (IntKind.wrap .i64 q) (w64 (IntKind.wrap .i64 q+b)) (w64 (w64 (IntKind.wrap .i64 q+b) - 1)) w y) (a,b)=_ from zg2 (f:=id) (s4Z w _ y) _,bind_map,zcu]
    refine bnd fun o=>?_
    cases o with
    | next s=>rfl
    | ret r=>rfl
    | jmp n s=>exact tail a b c _ s.1 _ y
end
def keyT (w:List Int) (v:Int):Int:=v - w.getD v.toNat 0*1099511627776
noncomputable def symF (x1 x2 x3:Int) (w y:List Int):Option (List Int×List Int):=(symS (ltT w) (keyT w) id x1 x2 x3 y).map (Wp2 w)
def zlf (x1 x2 x3:Int) (w y:List Int):Nat:=(x3 - x1).toNat
theorem z4c (x1 x2 x3:Int) (w y:List Int) (r:List Int×List Int) (h:symF x1 x2 x3 w y=some r):sort_symMerge_funcZ.body (fun x1' x2' x3' w' y'=>if zlf x1' x2' x3' w' y'<zlf x1 x2 x3 w y then symF x1' x2' x3' w' y' else none) x1 x2 x3 w y=some r:=by
 rw [symZ w (rec':=fun y1 y2 y3 l'=>if (y3 - y1).toNat<(x3 - x1).toNat then symS (ltT w) (keyT w) id y1 y2 y3 l' else none) (fun a b c y=>by
  simp only [zlf,symF,zgp,Option.map_none]
  first | rfl | (split<;>rfl))]
 unfold symF at h
 simp only [Option.map_eq_some_iff] at h
 obtain ⟨t,ht,rfl⟩:=h
 rw [z4f ht]
 rfl
end Xr

namespace Xr
open Go Go.Ev
set_option linter.unusedVariables false
set_option linter.unusedSimpArgs false
mutual
def size:Node→Nat
 | ⟨_,_,_,ks⟩=>1+sizes ks
def sizes:List Node→Nat
 | []=>0
 | k :: ks=>size k+sizes ks
end
mutual
def zoj:Node→Nat
 | ⟨_,_,_,ks⟩=>1+zgg ks
def zgg:List Node→Nat
 | []=>0
 | k :: ks=>max (zoj k) (zgg ks)
end
theorem zio (n:Node):size n=1+sizes n.Kids:=by cases n;simp only [size]
theorem zt9 (n:Node):zoj n=1+zgg n.Kids:=by cases n;simp only [zoj]
theorem zmx (n:Node):1≤size n:=by rw [zio];omega
theorem zg8:∀ l:List Node,l.length≤sizes l
 | []=>by simp [sizes]
 | k :: ks=>by
  have:=zg8 ks
  have:=zmx k
  simp only [sizes,List.length_cons];omega
theorem zlm:∀ (l:List Node) (i:Nat) (v:Node),l[i]?=some v→sizes (l.take (i+1))=sizes (l.take i)+size v
 | [],i,v,h=>by simp at h
 | k :: ks,0,v,h=>by
  obtain rfl:k=v:=by simpa using h
  simp [sizes]
 | k :: ks,i+1,v,h=>by
  have:=zlm ks i v (by simpa using h)
  simp only [List.take_succ_cons,sizes,this];omega
theorem ziv:∀ (l:List Node) (i:Nat),sizes (l.take i)≤sizes l
 | [],i=>by simp [sizes]
 | k :: ks,0=>by simp [sizes]
 | k :: ks,i+1=>by
  have:=ziv ks i
  simp only [List.take_succ_cons,sizes];omega
theorem zxf:∀ (l:List Node) (i:Nat) (v:Node),l[i]?=some v→size v≤sizes l
 | [],i,v,h=>by simp at h
 | k :: ks,0,v,h=>by
  obtain rfl:k=v:=by simpa using h
  simp only [sizes];omega
 | k :: ks,i+1,v,h=>by
  have:=zxf ks i v (by simpa using h)
  simp only [sizes];omega
theorem zmw {n v:Node}{i:Nat} (h:n.Kids[i]?=some v):size v<size n:=by
 have:=zxf _ _ _ h
 rw [zio n];omega
def leftV (n:Node) (a b:Int):Int:=if (size n:Int)≤a∧(zoj n:Int)≤b then a - size n else -1
def zgn (n:Node) (a b:Int):Option Int:=if -2 ^ 40≤a∧a<2 ^ 40∧-2 ^ 40≤b∧b<2 ^ 40 then some (leftV n a b) else none
def ze8 (n:Node) (a b:Int):Nat:=size n
def fitTo (l:List Node) (a b:Int) (i:Nat):Prop:=(sizes (l.take i):Int)≤a∧(zgg (l.take i):Int)≤b
theorem zoc:∀ (l:List Node) (i:Nat) (v:Node),l[i]?=some v→zgg (l.take (i+1))=max (zgg (l.take i)) (zoj v)
 | [],i,v,h=>by simp at h
 | k :: ks,0,v,h=>by
  obtain rfl:k=v:=by simpa using h
  simp [zgg]
 | k :: ks,i+1,v,h=>by
  have:=zoc ks i v (by simpa using h)
  simp only [List.take_succ_cons,zgg,this];omega
theorem zlc:∀ (l:List Node) (i:Nat),zgg (l.take i)≤zgg l
 | [],i=>by simp [zgg]
 | k :: ks,0=>by simp [zgg]
 | k :: ks,i+1=>by
  have:=zlc ks i
  simp only [List.take_succ_cons,zgg];omega
theorem zzq {n:Node}{a b:Int} (ha:1≤a) (hb:1≤b):leftV n a b=if (sizes n.Kids:Int)≤a - 1∧(zgg n.Kids:Int)≤b - 1 then a - 1 - sizes n.Kids else -1:=by
 unfold leftV
 have h1:=zio n
 have h2:=zt9 n
 by_cases h:(sizes n.Kids:Int)≤a - 1∧(zgg n.Kids:Int)≤b - 1
 ·rw [if_pos h,if_pos (by omega)];omega
 ·rw [if_neg h,if_neg (by omega)]
theorem zqn (x0:Node) (x1 x2:Int) (r:Int) (h:zgn x0 x1 x2=some r):R06_left.body (fun x0' x1' x2'=>if ze8 x0' x1' x2'<ze8 x0 x1 x2 then zgn x0' x1' x2' else none) x0 x1 x2=some r:=by
 unfold zgn at h
 by_cases hb:-2 ^ 40≤x1∧x1<2 ^ 40∧-2 ^ 40≤x2∧x2<2 ^ 40
 case neg=>rw [if_neg hb] at h;cases h
 rw [if_pos hb] at h
 obtain rfl:=Option.some.inj h
 generalize hrec:(fun x0' x1' x2'=>if ze8 x0' x1' x2'<ze8 x0 x1 x2 then zgn x0' x1' x2' else none)=rec
 have hr:∀ (i:Nat) v a b,x0.Kids[i]?=some v→-2 ^ 40≤a∧a<2 ^ 40∧-2 ^ 40≤b∧b<2 ^ 40→rec v a b=some (leftV v a b):=by
  intro i v a b hv hab
  subst hrec
  have:=zmw hv
  simp only [ze8,zgn,if_pos this,if_pos hab]
 clear hrec h
 have hse:=zio x0
 have hhe:=zt9 x0
 have hlen:=zg8 x0.Kids
 have hsp:=zmx x0
 unfold R06_left.body
 by_cases h1:x1<1
 ·rw [if_pos h1,leftV,if_neg (by omega)]
 rw [if_neg h1]
 by_cases h2:x2<1
 ·rw [if_pos h2,leftV,if_neg (by omega)]
 rw [if_neg h2]
 by_cases h3:x1<(x0.Kids.length:Int)
 ·rw [if_pos h3,leftV,if_neg (by omega)]
 rw [if_neg h3,zzq (by omega) (by omega)]
 have e1:w64 (x1 - 1)=x1 - 1:=zdn (by omega) (by omega)
 have e2:w64 (x2 - 1)=x2 - 1:=zdn (by omega) (by omega)
 have key:∀ (d i:Nat),i+d=x0.Kids.length→fitTo x0.Kids (x1 - 1) (x2 - 1) i →
   iter (zhc rec x2 x0.Kind x0.Text x0.Gaps x0.Kids) (x1 - 1 - (sizes (x0.Kids.take i):Int),(i:Int)) =
    some (if (sizes x0.Kids:Int)≤x1 - 1∧(zgg x0.Kids:Int)≤x2 - 1 then .jmp 0 (x1 - 1 - (sizes x0.Kids:Int),(x0.Kids.length:Int)) else .ret (-1)):=by
  intro d
  induction d with
  | zero =>
   intro i hi hf
   obtain rfl:i=x0.Kids.length:=by omega
   unfold fitTo at hf
   rw [List.take_length] at hf ⊢
   rw [if_pos hf]
   apply zau
   simp only [zhc]
   rw [if_neg (by omega)]
  | succ d ih =>
   intro i hi hf
   have hil:i<x0.Kids.length:=by omega
   obtain ⟨v,hv⟩:∃ v,x0.Kids[i]?=some v:=⟨_,List.getElem?_eq_getElem hil⟩
   have hs:=zlm _ _ _ hv
   have hh:=zoc _ _ _ hv
   have hle:=ziv x0.Kids (i+1)
   have hhl:=zlc x0.Kids (i+1)
   unfold fitTo at hf
   have hrv:=hr i v (x1 - 1 - (sizes (x0.Kids.take i):Int)) (x2 - 1) hv (by omega)
   have hstep:zhc rec x2 x0.Kind x0.Text x0.Gaps x0.Kids (x1 - 1 - (sizes (x0.Kids.take i):Int),(i:Int)) =
     if leftV v (x1 - 1 - (sizes (x0.Kids.take i):Int)) (x2 - 1)<0 then some (.ret (-1)) else some (.next (leftV v (x1 - 1 - (sizes (x0.Kids.take i):Int)) (x2 - 1),((i+1:Nat):Int))):=by
    simp only [zhc,zb2,hv,Option.bind_some,e2,hrv,zbb (show i<2 ^ 62 by omega)]
    rw [if_pos (by omega)]
   by_cases hfv:(size v:Int)≤x1 - 1 - (sizes (x0.Kids.take i):Int)∧(zoj v:Int)≤x2 - 1
   ·have hl:leftV v (x1 - 1 - (sizes (x0.Kids.take i):Int)) (x2 - 1)=x1 - 1 - (sizes (x0.Kids.take (i+1)):Int):=by
     rw [leftV,if_pos hfv,hs];omega
    rw [hl,if_neg (by omega)] at hstep
    rw [zat hstep]
    exact ih (i+1) (by omega) (by unfold fitTo;omega)
   ·have hl:leftV v (x1 - 1 - (sizes (x0.Kids.take i):Int)) (x2 - 1)=-1:=by
     rw [leftV,if_neg hfv]
    rw [hl,if_pos (by omega)] at hstep
    rw [zj0 hstep,if_neg (by omega)]
 have h0:=key x0.Kids.length 0 (by omega) (by unfold fitTo;simp [sizes,zgg];omega)
 have e0:(x1 - 1 - (sizes (x0.Kids.take 0):Int),((0:Nat):Int))=(x1 - 1,(0:Int)):=by simp [sizes]
 rw [e0] at h0
 rw [e1,h0]
 by_cases hf:(sizes x0.Kids:Int)≤x1 - 1∧(zgg x0.Kids:Int)≤x2 - 1
 ·simp only [if_pos hf,Option.bind_some]
 ·simp only [if_neg hf,Option.bind_some]
end Xr

set_option linter.unusedVariables false
set_option linter.unusedSimpArgs false
namespace Xr
open Go Go.Ev
def addI (d c:Int):Int:=IntKind.wrap .u64 ((xorK .u64 d (IntKind.wrap .u64 c))*(1099511628211:Int))
def byI (n:Int) (s:Nat):Int:=IntKind.wrap .u8 (n.fdiv (2 ^ s))
def numI (d n:Int):Int:=addI (addI (addI (addI (addI (addI (addI (addI d (byI n 56)) (byI n 48)) (byI n 40)) (byI n 32)) (byI n 24)) (byI n 16)) (byI n 8)) (byI n 0)
def basI:Int:=14695981039346656037
def mixI (a b:Int):Int:=numI (numI basI a) b
def sumL (d:Int):List UInt8→Int
 | []=>d
 | c :: l=>sumL (addI d c.toNat) l
def sumI (s:ByteArray):Int:=sumL basI s.data.toList
theorem wu64 (s:Nat) (h:s≤64):IntKind.wrap .u64 (s:Int)=s:=by
 show (s:Int) % (2 ^ 64:Int)=s
 omega
theorem z5m {n:Int} (s:Nat) (h:s≤64):shrK .u64 n (s:Int)=some (n.fdiv (2 ^ s)):=by
 unfold shrK
 rw [if_neg (by omega)]
 rw [show min (s:Int).toNat IntKind.u64.bits=s from Nat.min_eq_left h]
theorem mxL1 (n a b i d:Int) (s:Nat) (hs:s≤56):zf6 n a b i (d,(s:Int))=some (.next (addI d (byI n s),(s:Int) - 8)):=by
 simp only [zf6,wu64 s (by omega),z5m s (show s≤64 by omega),Option.bind_some,zib]
 rw [if_pos (by omega),zdn (by omega) (by omega)];rfl
theorem nmL0 (n d:Int) (s:Nat) (hs:s≤56):zgb n (d,(s:Int))=some (.next (addI d (byI n s),(s:Int) - 8)):=by
 simp only [zgb,z5m s (show s≤64 by omega),Option.bind_some,zki]
 rw [if_pos (by omega),zdn (by omega) (by omega)];rfl
theorem eight {step:(Int×Int)→Option (Out (Int×Int) Int)}{n:Int}{k:Nat} (h:∀ d (s:Nat),s≤56→step (d,(s:Int))=some (.next (addI d (byI n s),(s:Int) - 8))) (he:∀ d,step (d,(-8:Int))=some (.jmp k (d,(-8:Int)))) (d:Int):iter step (d,(56:Int))=some (.jmp k (numI d n,(-8:Int))):=by
 rw [show (56:Int)=((56:Nat):Int) from rfl,zat (h d 56 (by omega)),show ((56:Nat):Int) - 8=((48:Nat):Int) from rfl,zat (h _ 48 (by omega)),show ((48:Nat):Int) - 8=((40:Nat):Int) from rfl,zat (h _ 40 (by omega)),
  show ((40:Nat):Int) - 8=((32:Nat):Int) from rfl,zat (h _ 32 (by omega)),show ((32:Nat):Int) - 8=((24:Nat):Int) from rfl,zat (h _ 24 (by omega)),
  show ((24:Nat):Int) - 8=((16:Nat):Int) from rfl,zat (h _ 16 (by omega)),show ((16:Nat):Int) - 8=((8:Nat):Int) from rfl,zat (h _ 8 (by omega)),
  show ((8:Nat):Int) - 8=((0:Nat):Int) from rfl,zat (h _ 0 (by omega)),show ((0:Nat):Int) - 8=(-8:Int) from rfl,zau (he _)]
 rfl
theorem mxI (n a b i d:Int):iter (zf6 n a b i) (d,(56:Int))=some (.jmp 2 (numI d n,(-8:Int))) :=
 eight (fun d s hs=>mxL1 n a b i d s hs) (fun d=>by simp only [zf6];rw [if_neg (by omega)]) d
theorem zkg (a b:Int):zhq a b=some (mixI a b):=by
 unfold zhq
 have h0:zej a b (basI,(0:Int))=some (.next (numI basI a,(1:Int))):=by
  simp only [zej]
  rw [if_pos (by omega),show rd [a,b] (0:Int)=some a from rfl]
  simp only [Option.bind_some,mxI];rfl
 have h1:zej a b (numI basI a,(1:Int))=some (.next (mixI a b,(2:Int))):=by
  simp only [zej]
  rw [if_pos (by omega),show rd [a,b] (1:Int)=some b from rfl]
  simp only [Option.bind_some,mxI];rfl
 have h2:zej a b (mixI a b,(2:Int))=some (.jmp 0 (mixI a b,(2:Int))):=by
  simp only [zej]
  rw [if_neg (by omega)]
 show (iter (zej a b) (basI,(0:Int))).bind _=_
 rw [zat h0,zat h1,zau h2];rfl
theorem ybe {s:ByteArray}{i:Nat}:bt s (i:Int)=(s.data.toList[i]?).map fun b=>(b.toNat:Int):=by
 unfold bt
 rw [if_pos (by omega)]
 congr 1
 rw [Array.getElem?_toList];rfl
theorem z5j {step:(Int×Int)→Option (Out (Int×Int) Int)}{s:ByteArray}{m:Nat} (hm:s.data.toList.length=m)
  (h:∀ d (i:Nat) c,s.data.toList[i]?=some c→step (d,(i:Int))=some (.next (addI d c.toNat,((i+1:Nat):Int)))) (he:∀ d,step (d,(m:Int))=some (.jmp 0 (d,(m:Int)))) :
  ∀ (l:List UInt8) (i:Nat) (d:Int),s.data.toList.drop i=l→i≤m→iter step (d,(i:Int))=some (.jmp 0 (sumL d l,(m:Int)))
 | [],i,d,hl,hi=>by
  have:i=m:=by have:=congrArg List.length hl;simp only [List.length_drop,List.length_nil] at this;omega
  subst this
  rw [zau (he d)];rfl
 | c :: l,i,d,hl,hi=>by
  have hc:s.data.toList[i]?=some c:=by
   have:=congrArg (fun x=>x[0]?) hl
   simpa [List.getElem?_drop] using this
  have hl':s.data.toList.drop (i+1)=l:=by
   have:=congrArg List.tail hl
   simpa [List.tail_drop] using this
  have hi':i+1≤m:=by
   have:=(List.getElem?_eq_some_iff.1 hc).1
   omega
  rw [zat (h d i c hc)]
  exact z5j hm h he l (i+1) _ hl' hi'
theorem zm0 (s:ByteArray):s.data.toList.length=s.size:=by rw [Array.length_toList];rfl
theorem zmv {s:ByteArray} (hs:s.size<2 ^ 40):zi4 s=some (sumI s):=by
 unfold zi4
 have:=z5j (step:=zf5 s (s.size:Int)) (s:=s) (m:=s.size) (zm0 s) (fun d i c hc=>by
  have hi:=(List.getElem?_eq_some_iff.1 hc).1
  rw [zm0] at hi
  simp only [zf5,ybe,hc,Option.map_some,Option.bind_some,zib]
  rw [if_pos (by omega),zdn (by omega) (by omega)];rfl) (fun d=>by
  simp only [zf5]
  rw [if_neg (by omega)]) s.data.toList 0 basI rfl (by omega)
 show (iter (zf5 s (s.size:Int)) (basI,((0:Nat):Int))).bind _=_
 rw [this];rfl
theorem zrt {s:ByteArray} (hs:s.size<2 ^ 40):znu s=some (sumI s):=by
 unfold znu
 have:=z5j (step:=zh1 s) (s:=s) (m:=s.size) (zm0 s) (fun d i c hc=>by
  have hi:=(List.getElem?_eq_some_iff.1 hc).1
  rw [zm0] at hi
  simp only [zh1,ybe,hc,Option.map_some,Option.bind_some,zki]
  rw [if_pos (by omega),zdn (by omega) (by omega)];rfl) (fun d=>by
  simp only [zh1]
  rw [if_neg (by omega)]) s.data.toList 0 basI rfl (by omega)
 show (iter (zh1 s) (basI,((0:Nat):Int))).bind _=_
 rw [this];rfl
theorem zsv (d n:Int):zh5 d n=some (numI d n):=by
 unfold zh5
 rw [eight (step:=zgb n) (n:=n) (k:=0) (fun d s hs=>nmL0 n d s hs) (fun d=>by simp only [zgb];rw [if_neg (by omega)])]
 rfl
theorem z0c (a b:Int):zs3 a b=some (mixI a b):=by
 unfold zs3
 rw [zrt (by decide)]
 simp only [Option.bind_some,zsv]
 rfl
end Xr

set_option linter.unusedVariables false
set_option linter.unusedSimpArgs false
namespace Xr
open Go Go.Ev
set_option maxRecDepth 4000
theorem zg5 {T:Type}{l ks:List T}{i:Nat}{k:T} (h:l.drop i=k :: ks):l[i]?=some k∧l.drop (i+1)=ks∧i<l.length:=by
 have hk:l[i]?=some k:=by
  have:=congrArg (fun x=>x[0]?) h
  simpa [List.getElem?_drop] using this
 refine ⟨hk, ?_,(List.getElem?_eq_some_iff.1 hk).1⟩
 have:=congrArg List.tail h
 simpa [List.tail_drop] using this
theorem zig {T:Type}{l:List T}{i:Nat} (h:l.drop i=[]) (hi:i≤l.length):i=l.length:=by
 have:=congrArg List.length h
 simp only [List.length_drop,List.length_nil] at this
 omega
def gapW:List ByteArray→Nat
 | []=>0
 | g :: l=>g.size+1+gapW l
theorem zyj:∀ l:List ByteArray,l.length≤gapW l
 | []=>Nat.le_refl _
 | g :: l=>by have:=zyj l;simp only [List.length_cons,gapW];omega
mutual
def zho:Node→Nat
 | ⟨_,t,g,ks⟩=>t.size+gapW g+weights ks
def weights:List Node→Nat
 | []=>0
 | k :: ks=>zho k+weights ks
end
theorem zuz (n:Node):zho n=n.Text.size+gapW n.Gaps+weights n.Kids:=by cases n;simp only [zho]
def zfj (n:Node) (a:Int):Option Int:=if size n<2 ^ 40∧-2 ^ 40≤a∧a<2 ^ 40 then some (if (zho n:Int)≤a then a - zho n else -1) else none
def zcx (n:Node) (a:Int):Nat:=size n
theorem zrg {rec:Node→Int→Option Int}{k:Int}{t:ByteArray}{g:List ByteArray}{ks:List Node} (hg:g.length<2 ^ 40):∀ (l:List ByteArray) (i:Nat) (x:Int),g.drop i=l→i≤g.length→0≤x→x<2 ^ 40 →
  iter (zfo rec k t g ks) (x,(i:Int))=some (if (gapW l:Int)≤x then .jmp 0 (x - gapW l,(g.length:Int)) else .ret (-1))
 | [],i,x,hl,hi,h0,h1=>by
  obtain rfl:=zig hl hi
  rw [if_pos (by simp only [gapW];omega)]
  rw [show x - ((gapW []:Nat):Int)=x by simp [gapW]]
  apply zau
  simp only [zfo]
  rw [if_neg (by omega)]
 | c :: l,i,x,hl,hi,h0,h1=>by
  obtain ⟨hc,hl',hi'⟩:=zg5 hl
  by_cases hx:x≤(c.size:Int)
  ·have hs:zfo rec k t g ks (x,(i:Int))=some (.ret (-1)):=by
    simp only [zfo,zb2,hc,Option.bind_some]
    rw [if_pos (by omega),if_pos hx]
   rw [zj0 hs,if_neg (by simp only [gapW];omega)]
  ·have hs:zfo rec k t g ks (x,(i:Int))=some (.next (x - (c.size:Int) - 1,((i+1:Nat):Int))):=by
    simp only [zfo,zb2,hc,Option.bind_some]
    rw [if_pos (by omega),if_neg hx,zdn (x:=x - (c.size:Int)) (by omega) (by omega),zdn (x:=x - (c.size:Int) - 1) (by omega) (by omega),zdn (x:=(i:Int)+1) (by omega) (by omega)]
    rfl
   rw [zat hs,zrg hg l (i+1) _ hl' (by omega) (by omega) (by omega)]
   have eg:gapW (c :: l)=c.size+1+gapW l:=rfl
   by_cases hf:(gapW l:Int)≤x - (c.size:Int) - 1
   ·rw [if_pos hf,if_pos (by omega)]
    congr 3;omega
   ·rw [if_neg hf,if_neg (by omega)]
theorem zq1 {rec:Node→Int→Option Int}{k:Int}{t:ByteArray}{g:List ByteArray}{n:List Node} (hn:n.length<2 ^ 40)
  (hr:∀ (i:Nat) v (a:Int),n[i]?=some v→0≤a→a<2 ^ 40→rec v a=some (if (zho v:Int)≤a then a - zho v else -1)):∀ (l:List Node) (i:Nat) (x:Int),n.drop i=l→i≤n.length→0≤x→x<2 ^ 40 →
  iter (zfq rec k t g n) (x,(i:Int))=some (if (weights l:Int)≤x then .jmp 2 (x - weights l,(n.length:Int)) else .ret (-1))
 | [],i,x,hl,hi,h0,h1=>by
  obtain rfl:=zig hl hi
  rw [if_pos (by simp only [weights];omega)]
  rw [show x - ((weights []:Nat):Int)=x by simp [weights]]
  apply zau
  simp only [zfq]
  rw [if_neg (by omega)]
 | c :: l,i,x,hl,hi,h0,h1=>by
  obtain ⟨hc,hl',hi'⟩:=zg5 hl
  have hv:=hr i c x hc h0 h1
  by_cases hx:(zho c:Int)≤x
  ·rw [if_pos hx] at hv
   have hs:zfq rec k t g n (x,(i:Int))=some (.next (x - (zho c:Int),((i+1:Nat):Int))):=by
    simp only [zfq,zb2,hc,Option.bind_some,hv]
    rw [if_pos (by omega),if_neg (by omega),zdn (x:=(i:Int)+1) (by omega) (by omega)]
    rfl
   rw [zat hs,zq1 hn hr l (i+1) _ hl' (by omega) (by omega) (by omega)]
   have eg:weights (c :: l)=zho c+weights l:=by simp only [weights]
   by_cases hf:(weights l:Int)≤x - (zho c:Int)
   ·rw [if_pos hf,if_pos (by omega)]
    congr 3;omega
   ·rw [if_neg hf,if_neg (by omega)]
  ·rw [if_neg hx] at hv
   have hs:zfq rec k t g n (x,(i:Int))=some (.ret (-1)):=by
    simp only [zfq,zb2,hc,Option.bind_some,hv]
    rw [if_pos (by omega),if_pos (by omega)]
   rw [zj0 hs,if_neg (by simp only [weights];omega)]
theorem zo5 (x0:Node) (x1:Int) (r:Int) (h:zfj x0 x1=some r):R06_weigh.body (fun x0' x1'=>if zcx x0' x1'<zcx x0 x1 then zfj x0' x1' else none) x0 x1=some r:=by
 unfold zfj at h
 split at h
 case isFalse=>cases h
 rename_i hb
 obtain rfl:=Option.some.inj h
 clear h
 have hw:=zuz x0
 have hlen:=zg8 x0.Kids
 have hse:=zio x0
 have hgl:=zyj x0.Gaps
 generalize hrec:(fun x0' x1'=>if zcx x0' x1'<zcx x0 x1 then zfj x0' x1' else none)=rec
 have hr:∀ (i:Nat) v (a:Int),x0.Kids[i]?=some v→0≤a→a<2 ^ 40→rec v a=some (if (zho v:Int)≤a then a - zho v else -1):=by
  intro i v a hv h0 h1
  subst hrec
  have:=zmw hv
  show (if zcx v a<zcx x0 x1 then zfj v a else none)=_
  rw [if_pos (show zcx v a<zcx x0 x1 from this),zfj,if_pos (by omega)]
 clear hrec
 unfold R06_weigh.body
 by_cases h1:x1<(x0.Text.size:Int)
 ·rw [if_pos h1,if_neg (by omega)]
 rw [if_neg h1]
 by_cases h2:x1<(x0.Gaps.length:Int)
 ·rw [if_pos h2,if_neg (by omega)]
 rw [if_neg h2,zdn (by omega) (by omega)]
 have e1:=zrg (rec:=rec) (k:=x0.Kind) (t:=x0.Text) (ks:=x0.Kids) (show x0.Gaps.length<2 ^ 40 by omega) x0.Gaps 0 (x1 - (x0.Text.size:Int)) rfl (by omega) (by omega) (by omega)
 rw [show ((0:Nat):Int)=0 from rfl] at e1
 rw [e1]
 by_cases h3:(gapW x0.Gaps:Int)≤x1 - (x0.Text.size:Int)
 ·simp only [if_pos h3,Option.bind_some]
  have e2:=zq1 (rec:=rec) (k:=x0.Kind) (t:=x0.Text) (g:=x0.Gaps) (show x0.Kids.length<2 ^ 40 by omega) hr x0.Kids 0 (x1 - (x0.Text.size:Int) - (gapW x0.Gaps:Int)) rfl (by omega) (by omega) (by omega)
  rw [show ((0:Nat):Int)=0 from rfl] at e2
  rw [e2]
  by_cases h4:(weights x0.Kids:Int)≤x1 - (x0.Text.size:Int) - (gapW x0.Gaps:Int)
  ·rw [if_pos h4,if_pos (by omega)]
   simp only [Option.bind_some]
   congr 1;omega
  ·rw [if_neg h4,if_neg (by omega)]
   simp only [Option.bind_some]
 ·simp only [if_neg h3,Option.bind_some]
  rw [if_neg (by omega)]
mutual
def hsO (p:Node→Option ByteArray):Node→Option (List Int)
 | ⟨k,t,g,ks⟩=>(p ⟨k,t,g,ks⟩).bind fun x=>if x.size<2 ^ 40 then (hsL p ks (mixI (IntKind.wrap .u64 k) (sumI x))).map fun y=>mixI y.1 (IntKind.wrap .u64 (ks.length:Int)) :: y.2 else none
def hsL (p:Node→Option ByteArray):List Node→Int→Option (Int×List Int)
 | [],d=>some (d,[])
 | n :: ks,d=>(hsO p n).bind fun h=>(hsL p ks (mixI d (h.headD 0))).map fun y=>(y.1,h++y.2)
end
mutual
theorem z3s (p:Node→Option ByteArray):∀ (n:Node) (h:List Int),hsO p n=some h→h.length=size n
 | ⟨k,t,g,ks⟩,h,e=>by
  simp only [hsO,Option.bind_eq_some_iff] at e
  obtain ⟨x,_,e⟩:=e
  split at e
  ·simp only [Option.map_eq_some_iff] at e
   obtain ⟨y,ey,rfl⟩:=e
   have:=z5c p ks _ y ey
   simp only [List.length_cons,size];omega
  ·cases e
theorem z5c (p:Node→Option ByteArray):∀ (l:List Node) (d:Int) (y:Int×List Int),hsL p l d=some y→y.2.length=sizes l
 | [],d,y,e=>by
  simp only [hsL,Option.some.injEq] at e
  subst e;rfl
 | n :: ks,d,y,e=>by
  simp only [hsL,Option.bind_eq_some_iff,Option.map_eq_some_iff] at e
  obtain ⟨h,eh,z,ez,rfl⟩:=e
  have h1:=z3s p n h eh
  have h2:=z5c p ks _ z ez
  simp only [List.length_append,sizes];omega
end
def zdw (p:Node→Option ByteArray) (l:List Int) (n:Node):Option (List Int×Int):=if l.length+size n<2 ^ 30 then (hsO p n).map fun h=>(l++h,h.headD 0) else none
def zbz (l:List Int) (n:Node):Nat:=size n
theorem z5v {p:Node→Option ByteArray}{rec:List Int→Node→Option (List Int×Int)}{b:Int}{n:List Node}{k:Int}{t:ByteArray}{g:List ByteArray} (hn:n.length<2 ^ 40)
  (hr:∀ (i:Nat) v y h,n[i]?=some v→y.length+size v<2 ^ 30→hsO p v=some h→rec y v=some (y++h,h.headD 0)):∀ (l:List Node) (i:Nat) (d:Int) (y:List Int) (z:Int×List Int),n.drop i=l→i≤n.length→y.length+sizes l<2 ^ 30→hsL p l d=some z →
  iter (zfr rec p b n (n.length:Int) k t g n) (d,(i:Int),y)=some (.jmp 0 (z.1,(n.length:Int),y++z.2))
 | [],i,d,y,z,hl,hi,hy,hz=>by
  obtain rfl:=zig hl hi
  simp only [hsL,Option.some.injEq] at hz
  subst hz
  rw [List.append_nil]
  apply zau
  simp only [zfr]
  rw [if_neg (by omega)]
 | c :: l,i,d,y,z,hl,hi,hy,hz=>by
  obtain ⟨hc,hl',hi'⟩:=zg5 hl
  simp only [hsL,Option.bind_eq_some_iff,Option.map_eq_some_iff] at hz
  obtain ⟨h,eh,w,ew,rfl⟩:=hz
  have hlh:=z3s p c h eh
  simp only [sizes] at hy
  have hs:zfr rec p b n (n.length:Int) k t g n (d,(i:Int),y)=some (.next (mixI d (h.headD 0),((i+1:Nat):Int),y++h)):=by
   simp only [zfr,zb2,hc,Option.bind_some,hr i c y h hc (by omega) eh,zkg]
   rw [if_pos (by omega),zdn (x:=(i:Int)+1) (by omega) (by omega)]
   rfl
  rw [zat hs,z5v hn hr l (i+1) _ (y++h) w hl' (by omega) (by rw [List.length_append];omega) ew,List.append_assoc]
theorem zk3 (p2:Node→Option ByteArray) (x0:List Int) (x1:Node) (r:List Int×Int) (h:zdw p2 x0 x1=some r):hash_fill.body (fun x0' x1'=>if zbz x0' x1'<zbz x0 x1 then zdw p2 x0' x1' else none) p2 x0 x1=some r:=by
 unfold zdw at h
 split at h
 case isFalse=>cases h
 rename_i hb
 simp only [Option.map_eq_some_iff] at h
 obtain ⟨hh,e,rfl⟩:=h
 have hse:=zio x1
 have hlen:=zg8 x1.Kids
 have e0:(p2 x1).bind (fun x=>if x.size<2 ^ 40 then (hsL p2 x1.Kids (mixI (IntKind.wrap .u64 x1.Kind) (sumI x))).map fun y=>mixI y.1 (IntKind.wrap .u64 (x1.Kids.length:Int)) :: y.2 else none)=some hh:=by
  cases x1;simpa only [hsO] using e
 simp only [Option.bind_eq_some_iff] at e0
 obtain ⟨x,hx,e0⟩:=e0
 split at e0
 case isFalse=>cases e0
 rename_i hxs
 simp only [Option.map_eq_some_iff] at e0
 obtain ⟨y,hy,rfl⟩:=e0
 generalize hrec:(fun x0' x1'=>if zbz x0' x1'<zbz x0 x1 then zdw p2 x0' x1' else none)=rec
 have hr:∀ (i:Nat) v y h,x1.Kids[i]?=some v→y.length+size v<2 ^ 30→hsO p2 v=some h→rec y v=some (y++h,h.headD 0):=by
  intro i v y h hv hl he
  subst hrec
  have:=zmw hv
  show (if zbz y v<zbz x0 x1 then zdw p2 y v else none)=_
  rw [if_pos (show zbz y v<zbz x0 x1 from this),zdw,if_pos hl,he]
  rfl
 clear hrec
 unfold hash_fill.body
 rw [if_pos (by omega),hx]
 simp only [Option.bind_some,zmv hxs,zkg]
 have e2:=z5v (rec:=rec) (b:=(x0.length:Int)) (k:=x1.Kind) (t:=x1.Text) (g:=x1.Gaps) (show x1.Kids.length<2 ^ 40 by omega) hr x1.Kids 0 (mixI (IntKind.wrap .u64 x1.Kind) (sumI x)) (x0++[0]) y rfl (by omega) (by rw [List.length_append,List.length_singleton];omega) hy
 rw [show ((0:Nat):Int)=0 from rfl] at e2
 rw [e2]
 simp only [Option.bind_some]
 rw [zb2,List.append_assoc,List.getElem?_append_right (Nat.le_refl _),Nat.sub_self]
 simp only [List.cons_append,List.nil_append,List.getElem?_cons_zero,Option.bind_some,Int.toNat_natCast]
 rw [List.set_append_right _ _ (Nat.le_refl _),Nat.sub_self,List.set_cons_zero]
 rfl
end Xr

set_option linter.unusedVariables false
set_option linter.unusedSimpArgs false
namespace Xr
open Go Go.Ev
def stN (d c:Nat):Nat:=(Nat.xor d c*1099511628211) % 18446744073709551616
def sumN (d:Nat):List UInt8→Nat
 | []=>d
 | c :: l=>sumN (stN d c.toNat) l
def byN (n:Nat) (k:Nat):Nat:=n / k % 256
def numN (d n:Nat):Nat:=stN (stN (stN (stN (stN (stN (stN (stN d (byN n 72057594037927936)) (byN n 281474976710656)) (byN n 1099511627776)) (byN n 4294967296)) (byN n 16777216)) (byN n 65536)) (byN n 256)) (byN n 1)
def mixN (a b:Nat):Nat:=numN (numN 14695981039346656037 a) b
theorem zmz (d c:Nat):stN d c<18446744073709551616:=Nat.mod_lt _ (by decide)
theorem ziy {d c:Nat} (hd:d<18446744073709551616) (hc:c<18446744073709551616):addI d c=(stN d c:Nat):=by
 unfold addI stN
 have e1:IntKind.wrap .u64 (c:Int)=c:=by
  show (c:Int) % (2 ^ 64:Int)=c
  omega
 rw [e1]
 have e2:xorK .u64 (d:Int) (c:Int)=((Nat.xor d c:Nat):Int):=by
  have h:Nat.xor d c<2 ^ 64:=Nat.xor_lt_two_pow (by simpa using hd) (by simpa using hc)
  unfold xorK
  show IntKind.wrap .u64 (((BitVec.ofInt 64 (d:Int) ^^^ BitVec.ofInt 64 (c:Int)).toNat:Nat):Int)=_
  rw [BitVec.toNat_xor,BitVec.ofInt_natCast,BitVec.ofInt_natCast,BitVec.toNat_ofNat,BitVec.toNat_ofNat,Nat.mod_eq_of_lt hd,Nat.mod_eq_of_lt hc]
  show ((d ^^^ c:Nat):Int) % (2 ^ 64:Int)=_
  have h':(d ^^^ c)<2 ^ 64:=h
  show ((d ^^^ c:Nat):Int) % (2 ^ 64:Int)=((d ^^^ c:Nat):Int)
  omega
 rw [e2]
 generalize Nat.xor d c=x
 show ((x:Int)*1099511628211) % (2 ^ 64:Int)=_
 omega
theorem zlb (n:Nat) (s k:Nat) (hk:2 ^ s=k):byI n s=(byN n k:Nat):=by
 unfold byI byN
 have e:(n:Int).fdiv (2 ^ s)=((n / k:Nat):Int):=by
  rw [Int.fdiv_eq_ediv_of_nonneg _ (by exact_mod_cast Nat.zero_le (2 ^ s)),← hk]
  push_cast;rfl
 rw [e]
 generalize n / k=x
 show (x:Int) % (2 ^ 8:Int)=_
 omega
theorem zn2 (n k:Nat):byN n k<18446744073709551616:=by
 have:=Nat.mod_lt (n / k) (show 0<256 by decide)
 unfold byN;omega
theorem zyg {d n:Nat} (hd:d<18446744073709551616):numI d n=(numN d n:Nat):=by
 unfold numI numN
 rw [zlb n 56 72057594037927936 (by decide),zlb n 48 281474976710656 (by decide),zlb n 40 1099511627776 (by decide),zlb n 32 4294967296 (by decide),zlb n 24 16777216 (by decide),zlb n 16 65536 (by decide),zlb n 8 256 (by decide),zlb n 0 1 (by decide)]
 rw [ziy hd (zn2 _ _),ziy (zmz _ _) (zn2 _ _),ziy (zmz _ _) (zn2 _ _),ziy (zmz _ _) (zn2 _ _),ziy (zmz _ _) (zn2 _ _),ziy (zmz _ _) (zn2 _ _),ziy (zmz _ _) (zn2 _ _),ziy (zmz _ _) (zn2 _ _)]
theorem z74 (a b:Nat):mixI a b=(mixN a b:Nat):=by
 unfold mixI mixN
 rw [show basI=((14695981039346656037:Nat):Int) from rfl,zyg (by decide),zyg (by unfold numN;exact zmz _ _)]
theorem zxh:∀ (l:List UInt8) (d:Nat),d<18446744073709551616→sumL d l=(sumN d l:Nat)
 | [],d,_=>rfl
 | c :: l,d,h=>by
  simp only [sumL,sumN]
  rw [ziy h (by have:=c.toNat_lt;omega),zxh l _ (zmz _ _)]
theorem z8v (s:ByteArray):sumI s=(sumN 14695981039346656037 s.data.toList:Nat):=zxh _ _ (by decide)
def mixS:List Dv→Option (Dv×List Ob)
 | [.p (.v (.int .u64 (.ofNat a))),.p (.v (.int .u64 (.ofNat b)))]=>some (.p (.v (.int .u64 (.ofNat (mixN a b)))),[])
 | _=>none
def sumS:List Dv→Option (Dv×List Ob)
 | [.p (.v (.string s))]=>bif Nat.blt s.size 1099511627776 then some (.p (.v (.int .u64 (.ofNat (sumN 14695981039346656037 s.data.toList)))),[]) else none
 | _=>none
theorem z45 {args:List Dv}{r:Dv×List Ob} (h:mixS args=some r):∃ a b:Int,args=[.p (.v (.int .u64 a)),.p (.v (.int .u64 b))]∧r=(.p (.v (.int .u64 (mixI a b))),[]):=by
 unfold mixS at h
 split at h
 ·rename_i a b
  obtain rfl:=Option.some.inj h
  exact ⟨(a:Int),(b:Int),rfl,by rw [z74];rfl⟩
 ·cases h
theorem z02 {args:List Dv}{r:Dv×List Ob} (h:sumS args=some r):∃ s:ByteArray,args=[.p (.v (.string s))]∧s.size<2 ^ 40∧r=(.p (.v (.int .u64 (sumI s))),[]):=by
 unfold sumS at h
 split at h
 ·rename_i s
  cases hb:Nat.blt s.size 1099511627776 with
  | false=>rw [hb] at h;cases h
  | true =>
   rw [hb] at h
   obtain rfl:=Option.some.inj h
   exact ⟨s,rfl,Nat.le_of_ble_eq_true hb,by rw [z8v];rfl⟩
 ·cases h
end Xr

set_option linter.unusedVariables false
set_option linter.unusedSimpArgs false
namespace Xr
open Go Go.Ev
theorem zyp {α:Type} [DecidableEq α] (step:Int→Option (Out Int Bool)) (a b:List α) (hl:a.length=b.length)
  (hs:∀ (i:Nat) (h:i<a.length) (h':i<b.length),step i=if a[i]=b[i] then some (.next (((i+1:Nat)):Int)) else some (.ret false)) (he:step (a.length:Int)=some (.jmp 0 (a.length:Int))) :
  iter step 0=if a=b then some (.jmp 0 (a.length:Int)) else some (.ret false):=by
 classical
 have:=z83 (step:=step) (fun i=>(i:Int)) (fun i=>a[i]?=b[i]?) false 0 (a.length:Int) a.length (fun i hi _=>by
  have h':i<b.length:=by omega
  rw [hs i hi h',List.getElem?_eq_getElem hi,List.getElem?_eq_getElem h']
  simp only [Option.some.injEq]) (fun _=>he)
 have e0:iter step ((0:Nat):Int)=iter step 0:=rfl
 rw [← e0,this]
 by_cases hab:a=b
 ·rw [if_pos hab,if_pos (fun i _=>by rw [hab])]
 ·rw [if_neg hab,if_neg]
  intro h
  apply hab
  apply List.ext_getElem?
  intro i
  by_cases hi:i<a.length
  ·exact h i hi
  ·rw [List.getElem?_eq_none (by omega),List.getElem?_eq_none (by omega)]
mutual
def barV:Node→Node
 | ⟨k,t,_,ks⟩=>⟨k,t,[],barVs ks⟩
def barVs:List Node→List Node
 | []=>[]
 | x :: l=>barV x :: barVs l
end
theorem zp1:∀ l,barVs l=l.map barV
 | []=>by simp only [barVs,List.map_nil]
 | x :: l=>by simp only [barVs,List.map_cons,zp1 l]
theorem zsj (n:Node):barV n=⟨n.Kind,n.Text,[],n.Kids.map barV⟩:=by cases n;simp only [barV,zp1]
open Classical in
noncomputable def zgd (a b:Node):Option Bool:=if size a<2 ^ 40 then some (decide (barV a=barV b)) else none
def ze7 (a b:Node):Nat:=size a
theorem zql (x0 x1:Node) (r:Bool) (h:zgd x0 x1=some r):R06_Same.body (fun x0' x1'=>if ze7 x0' x1'<ze7 x0 x1 then zgd x0' x1' else none) x0 x1=some r:=by
 classical
 unfold zgd at h
 by_cases hb:size x0<2 ^ 40
 case neg=>rw [if_neg hb] at h;cases h
 rw [if_pos hb] at h
 obtain rfl:=Option.some.inj h
 have hk:x0.Kids.length<2 ^ 40:=by have:=zg8 x0.Kids;have:=zio x0;omega
 unfold R06_Same.body
 generalize hrec:(fun x0' x1'=>if ze7 x0' x1'<ze7 x0 x1 then zgd x0' x1' else none)=rec
 have hr:∀ (i:Nat) v w,x0.Kids[i]?=some v→rec v w=some (decide (barV v=barV w)):=by
  intro i v w hv
  subst hrec
  have:=zmw hv
  simp only [ze7,zgd,if_pos this,if_pos (Nat.lt_trans this hb)]
 have e0:=zsj x0
 have e1:=zsj x1
 by_cases h1:x0.Kind=x1.Kind
 case neg=>rw [if_neg h1,decide_eq_false (fun e=>h1 (by rw [e0,e1] at e;exact (Node.mk.inj e).1))]
 rw [if_pos h1]
 by_cases h2:x0.Text=x1.Text
 case neg=>rw [if_neg h2,decide_eq_false (fun e=>h2 (by rw [e0,e1] at e;exact (Node.mk.inj e).2.1))]
 rw [if_pos h2]
 by_cases h4:x0.Kids.length=x1.Kids.length
 case neg=>rw [if_neg (by omega),decide_eq_false (fun e=>h4 (by rw [e0,e1] at e;simpa using congrArg List.length (Node.mk.inj e).2.2.2))]
 have hc:=zyp (zic rec x0.Kind x0.Text x0.Gaps x0.Kids x1.Kind x1.Text x1.Gaps x1.Kids) (x0.Kids.map barV) (x1.Kids.map barV) (by simpa using h4) (fun i hi hi'=>by
  have hi2:i<x0.Kids.length:=by simpa using hi
  have hi3:i<x1.Kids.length:=by simpa using hi'
  simp only [zic,zb2,List.getElem?_eq_getElem hi2,List.getElem?_eq_getElem hi3,Option.bind_some,List.getElem_map]
  rw [if_pos (by omega),hr i _ _ (List.getElem?_eq_getElem hi2),Option.bind_some,zbb (by omega)]
  by_cases he:barV x0.Kids[i]=barV x1.Kids[i]
  ·rw [decide_eq_true he,if_pos rfl,if_pos he]
  ·rw [decide_eq_false he,if_neg (by simp),if_neg he]) (by simp only [zic,List.length_map];rw [if_neg (by omega)])
 rw [if_pos (by omega),hc]
 by_cases h5:x0.Kids.map barV=x1.Kids.map barV
 ·rw [if_pos h5,decide_eq_true (by rw [e0,e1,h1,h2,h5])];rfl
 ·rw [if_neg h5,decide_eq_false (fun e=>h5 (by rw [e0,e1] at e;exact (Node.mk.inj e).2.2.2))];rfl
mutual
def subs:Node→List Node
 | ⟨k,t,g,ks⟩=>⟨k,t,g,ks⟩ :: subss ks
def subss:List Node→List Node
 | []=>[]
 | n :: ks=>subs n++subss ks
end
theorem z07 (n:Node):subs n=n :: subss n.Kids:=by cases n;simp only [subs]
mutual
theorem zez:∀ n:Node,(subs n).length=size n
 | ⟨k,t,g,ks⟩=>by simp only [subs,size,List.length_cons,zuw ks];omega
theorem zuw:∀ l:List Node,(subss l).length=sizes l
 | []=>by simp only [subss,sizes,List.length_nil]
 | n :: ks=>by simp only [subss,sizes,List.length_append,zez n,zuw ks]
end
end Xr

set_option linter.unusedVariables false
set_option linter.unusedSimpArgs false
namespace Xr
open Go Go.Ev
open Classical in
noncomputable def zf2 (a b:Node):Option Bool:=if size a<2 ^ 40 then some (decide (barV a=barV b)) else none
def zek (a b:Node):Nat:=size a
theorem zp2 (x0 x1:Node) (r:Bool) (h:zf2 x0 x1=some r):tree_Same.body (fun x0' x1'=>if zek x0' x1'<zek x0 x1 then zf2 x0' x1' else none) x0 x1=some r:=by
 classical
 unfold zf2 at h
 by_cases hb:size x0<2 ^ 40
 case neg=>rw [if_neg hb] at h;cases h
 rw [if_pos hb] at h
 obtain rfl:=Option.some.inj h
 have hk:x0.Kids.length<2 ^ 40:=by have:=zg8 x0.Kids;have:=zio x0;omega
 unfold tree_Same.body
 generalize hrec:(fun x0' x1'=>if zek x0' x1'<zek x0 x1 then zf2 x0' x1' else none)=rec
 have hr:∀ (i:Nat) v w,x0.Kids[i]?=some v→rec v w=some (decide (barV v=barV w)):=by
  intro i v w hv
  subst hrec
  have:=zmw hv
  simp only [zek,zf2,if_pos this,if_pos (Nat.lt_trans this hb)]
 have e0:=zsj x0
 have e1:=zsj x1
 by_cases h1:x0.Kind=x1.Kind
 case neg=>rw [if_neg h1,decide_eq_false (fun e=>h1 (by rw [e0,e1] at e;exact (Node.mk.inj e).1))]
 rw [if_pos h1]
 by_cases h2:x0.Text=x1.Text
 case neg=>rw [if_neg h2,decide_eq_false (fun e=>h2 (by rw [e0,e1] at e;exact (Node.mk.inj e).2.1))]
 rw [if_pos h2]
 by_cases h4:x0.Kids.length=x1.Kids.length
 case neg=>rw [if_neg (by omega),decide_eq_false (fun e=>h4 (by rw [e0,e1] at e;simpa using congrArg List.length (Node.mk.inj e).2.2.2))]
 have hc:=zyp (zhi rec (x0.Kids.length:Int) x0.Kind x0.Text x0.Gaps x0.Kids x1.Kind x1.Text x1.Gaps x1.Kids) (x0.Kids.map barV) (x1.Kids.map barV) (by simpa using h4) (fun i hi hi'=>by
  have hi2:i<x0.Kids.length:=by simpa using hi
  have hi3:i<x1.Kids.length:=by simpa using hi'
  simp only [zhi,zb2,List.getElem?_eq_getElem hi2,List.getElem?_eq_getElem hi3,Option.bind_some,List.getElem_map]
  rw [if_pos (by omega),hr i _ _ (List.getElem?_eq_getElem hi2),Option.bind_some,zbb (by omega)]
  by_cases he:barV x0.Kids[i]=barV x1.Kids[i]
  ·rw [decide_eq_true he,if_pos rfl,if_pos he]
  ·rw [decide_eq_false he,if_neg (by simp),if_neg he]) (by simp only [zhi,List.length_map];rw [if_neg (by omega)])
 rw [if_pos (by omega),hc]
 by_cases h5:x0.Kids.map barV=x1.Kids.map barV
 ·rw [if_pos h5,decide_eq_true (by rw [e0,e1,h1,h2,h5])];rfl
 ·rw [if_neg h5,decide_eq_false (fun e=>h5 (by rw [e0,e1] at e;exact (Node.mk.inj e).2.2.2))];rfl
def zcn (l:List Node) (n:Node):Option (List Node):=if l.length+size n<2 ^ 30 then some (l++subs n) else none
def zbn (l:List Node) (n:Node):Nat:=size n
theorem zm3 {rec:List Node→Node→Option (List Node)}{n:List Node} (hn:n.length<2 ^ 40)
  (hr:∀ (i:Nat) v (y:List Node),n[i]?=some v→y.length+size v<2 ^ 30→rec y v=some (y++subs v)):∀ (l:List Node) (i:Nat) (y:List Node),n.drop i=l→i≤n.length→y.length+sizes l<2 ^ 30 →
  iter (ze6 rec n (n.length:Int)) ((i:Int),y)=some (.jmp 0 ((n.length:Int),y++subss l))
 | [],i,y,hl,hi,hy=>by
  obtain rfl:=zig hl hi
  have e:subss []=[]:=by simp only [subss]
  rw [e,List.append_nil]
  apply zau
  simp only [ze6]
  rw [if_neg (by omega)]
 | c :: l,i,y,hl,hi,hy=>by
  obtain ⟨hc,hl',hi'⟩:=zg5 hl
  simp only [sizes] at hy
  have hs:ze6 rec n (n.length:Int) ((i:Int),y)=some (.next (((i+1:Nat):Int),y++subs c)):=by
   simp only [ze6,zb2,hc,Option.bind_some,hr i c y hc (by omega)]
   rw [if_pos (by omega),zdn (x:=(i:Int)+1) (by omega) (by omega)];rfl
  have e:subss (c :: l)=subs c++subss l:=by simp only [subss]
  rw [zat hs,zm3 hn hr l (i+1) (y++subs c) hl' (by omega) (by rw [List.length_append,zez];omega),e,List.append_assoc]
theorem zkv (x0:List Node) (x1:Node) (r:List Node) (h:zcn x0 x1=some r):hash_parts.body (fun x0' x1'=>if zbn x0' x1'<zbn x0 x1 then zcn x0' x1' else none) x0 x1=some r:=by
 unfold zcn at h
 split at h
 case isFalse=>cases h
 rename_i hb
 obtain rfl:=Option.some.inj h
 clear h
 have hlen:=zg8 x1.Kids
 have hse:=zio x1
 generalize hrec:(fun x0' x1'=>if zbn x0' x1'<zbn x0 x1 then zcn x0' x1' else none)=rec
 have hr:∀ (i:Nat) v (y:List Node),x1.Kids[i]?=some v→y.length+size v<2 ^ 30→rec y v=some (y++subs v):=by
  intro i v y hv hl
  subst hrec
  have:=zmw hv
  show (if zbn y v<zbn x0 x1 then zcn y v else none)=_
  rw [if_pos (show zbn y v<zbn x0 x1 from this),zcn,if_pos hl]
 clear hrec
 unfold hash_parts.body
 have e1:=zm3 (rec:=rec) (show x1.Kids.length<2 ^ 40 by omega) hr x1.Kids 0 (x0++[x1]) rfl (by omega) (by rw [List.length_append,List.length_singleton];omega)
 rw [show ((0:Nat):Int)=0 from rfl] at e1
 rw [if_pos (by omega),e1]
 simp only [Option.bind_some]
 rw [z07 x1,List.append_assoc]
 rfl
def zfe (l:List Node) (n:Node):Option (List Node):=if l.length+size n<2 ^ 30 then some (l++subs n) else none
def zcd (l:List Node) (n:Node):Nat:=size n
theorem zqk {rec:List Node→Node→Option (List Node)}{n:List Node}{k:Int}{t:ByteArray}{g:List ByteArray} (hn:n.length<2 ^ 40)
  (hr:∀ (i:Nat) v (y:List Node),n[i]?=some v→y.length+size v<2 ^ 30→rec y v=some (y++subs v)):∀ (l:List Node) (i:Nat) (y:List Node),n.drop i=l→i≤n.length→y.length+sizes l<2 ^ 30 →
  iter (zf4 rec k t g n) ((i:Int),y)=some (.jmp 0 ((n.length:Int),y++subss l))
 | [],i,y,hl,hi,hy=>by
  obtain rfl:=zig hl hi
  have e:subss []=[]:=by simp only [subss]
  rw [e,List.append_nil]
  apply zau
  simp only [zf4]
  rw [if_neg (by omega)]
 | c :: l,i,y,hl,hi,hy=>by
  obtain ⟨hc,hl',hi'⟩:=zg5 hl
  simp only [sizes] at hy
  have hs:zf4 rec k t g n ((i:Int),y)=some (.next (((i+1:Nat):Int),y++subs c)):=by
   simp only [zf4,zb2,hc,Option.bind_some,hr i c y hc (by omega)]
   rw [if_pos (by omega),zdn (x:=(i:Int)+1) (by omega) (by omega)];rfl
  have e:subss (c :: l)=subs c++subss l:=by simp only [subss]
  rw [zat hs,zqk hn hr l (i+1) (y++subs c) hl' (by omega) (by rw [List.length_append,zez];omega),e,List.append_assoc]
theorem zl6 (x0:List Node) (x1:Node) (r:List Node) (h:zfe x0 x1=some r):R06_list.body (fun x0' x1'=>if zcd x0' x1'<zcd x0 x1 then zfe x0' x1' else none) x0 x1=some r:=by
 unfold zfe at h
 split at h
 case isFalse=>cases h
 rename_i hb
 obtain rfl:=Option.some.inj h
 clear h
 have hlen:=zg8 x1.Kids
 have hse:=zio x1
 generalize hrec:(fun x0' x1'=>if zcd x0' x1'<zcd x0 x1 then zfe x0' x1' else none)=rec
 have hr:∀ (i:Nat) v (y:List Node),x1.Kids[i]?=some v→y.length+size v<2 ^ 30→rec y v=some (y++subs v):=by
  intro i v y hv hl
  subst hrec
  have:=zmw hv
  show (if zcd y v<zcd x0 x1 then zfe y v else none)=_
  rw [if_pos (show zcd y v<zcd x0 x1 from this),zfe,if_pos hl]
 clear hrec
 unfold R06_list.body
 have e1:=zqk (rec:=rec) (k:=x1.Kind) (t:=x1.Text) (g:=x1.Gaps) (show x1.Kids.length<2 ^ 40 by omega) hr x1.Kids 0 (x0++[x1]) rfl (by omega) (by rw [List.length_append,List.length_singleton];omega)
 rw [show ((0:Nat):Int)=0 from rfl] at e1
 rw [if_pos (by omega),e1]
 simp only [Option.bind_some]
 rw [z07 x1,List.append_assoc]
 rfl
mutual
theorem znh:∀ (n:Node) (i:Nat) (v:Node),(subs n)[i]?=some v→size v≤size n
 | ⟨k,t,g,ks⟩,i,v,h=>by
  simp only [subs] at h
  cases i with
  | zero =>
   simp only [List.getElem?_cons_zero,Option.some.injEq] at h
   subst h
   exact Nat.le_refl _
  | succ i =>
   simp only [List.getElem?_cons_succ] at h
   have:=zqv ks i v h
   simp only [size];omega
theorem zqv:∀ (l:List Node) (i:Nat) (v:Node),(subss l)[i]?=some v→size v≤sizes l
 | [],i,v,h=>by simp [subss] at h
 | n :: ks,i,v,h=>by
  simp only [subss] at h
  simp only [sizes]
  by_cases hi:i<(subs n).length
  ·rw [List.getElem?_append_left hi] at h
   have:=znh n i v h
   omega
  ·rw [List.getElem?_append_right (by omega)] at h
   have:=zqv ks _ v h
   omega
end
end Xr

set_option linter.unusedVariables false
set_option linter.unusedSimpArgs false
namespace Xr
open Go Go.Ev
mutual
theorem zs6:∀ n:Node,size (barV n)=size n
 | ⟨k,t,g,ks⟩=>by simp only [barV,size,zus ks]
theorem zus:∀ l:List Node,sizes (barVs l)=sizes l
 | []=>by simp only [barVs]
 | n :: ks=>by simp only [barVs,sizes,zs6 n,zus ks]
end
theorem ztl {x y:Node} (h:barV x=barV y):size x=size y:=by rw [← zs6 x,h,zs6]
mutual
theorem zv5:∀ (n:Node) (i:Nat) (v:Node),(subs n)[i]?=some v→∀ k,k<size v→(subs n)[i+k]?=(subs v)[k]?
 | ⟨a,t,g,ks⟩,i,v,h,k,hk=>by
  cases i with
  | zero =>
   simp only [subs,List.getElem?_cons_zero,Option.some.injEq] at h
   subst h
   rw [Nat.zero_add]
  | succ i =>
   simp only [subs,List.getElem?_cons_succ] at h
   have:=zyl ks i v h k hk
   rw [show i+1+k=i+k+1 from by omega]
   conv=>lhs;rw [subs]
   rw [List.getElem?_cons_succ]
   exact this
theorem zyl:∀ (l:List Node) (i:Nat) (v:Node),(subss l)[i]?=some v→∀ k,k<size v→(subss l)[i+k]?=(subs v)[k]?
 | [],i,v,h,k,hk=>by simp [subss] at h
 | n :: ks,i,v,h,k,hk=>by
  simp only [subss] at h ⊢
  by_cases hi:i<(subs n).length
  ·rw [List.getElem?_append_left hi] at h
   have h1:=zv5 n i v h k hk
   have hv:(subs v)[k]?≠none:=by
    rw [List.getElem?_eq_getElem (by rw [zez];exact hk)];simp
   have h2:i+k<(subs n).length:=by
    apply Nat.lt_of_not_le
    intro h3
    rw [List.getElem?_eq_none h3] at h1
    exact hv h1.symm
   rw [List.getElem?_append_left h2]
   exact h1
  ·rw [List.getElem?_append_right (by omega)] at h
   rw [List.getElem?_append_right (by omega),show i+k - (subs n).length=i - (subs n).length+k from by omega]
   exact zyl ks _ v h k hk
end
theorem zsx {n:Node}{i:Nat}{v:Node} (h:(subs n)[i]?=some v):i+size v≤(subs n).length:=by
 have hp:=zmx v
 have h1:=zv5 n i v h (size v - 1) (by omega)
 rw [List.getElem?_eq_getElem (l:=subs v) (by rw [zez];omega)] at h1
 have:=(List.getElem?_eq_some_iff.1 h1).1
 omega
end Xr

set_option linter.unusedVariables false
set_option linter.unusedSimpArgs false
namespace Xr
open Go Go.Ev
def zf1 (n:Node):Option Int:=if size n<2 ^ 40 then some (size n) else none
def zem (n:Node):Nat:=size n
theorem zpb (x0:Node) (r:Int) (h:zf1 x0=some r):tree_Size.body (fun x0'=>if zem x0'<zem x0 then zf1 x0' else none) x0=some r:=by
 unfold zf1 at h
 by_cases hb:size x0<2 ^ 40
 case neg=>rw [if_neg hb] at h;cases h
 rw [if_pos hb] at h
 obtain rfl:=Option.some.inj h
 have hse:=zio x0
 have hlen:=zg8 x0.Kids
 unfold tree_Size.body
 generalize hrec:(fun x0'=>if zem x0'<zem x0 then zf1 x0' else none)=rec
 have hr:∀ (i:Nat) v,x0.Kids[i]?=some v→rec v=some ((size v:Nat):Int):=by
  intro i v hv
  subst hrec
  have:=zmw hv
  simp only [zem,zf1,if_pos this,if_pos (show size v<2 ^ 40 by omega)]
 have h1:=zj2 (step:=zhk rec x0.Kids (x0.Kids.length:Int)) (fun i=>(((1+sizes (x0.Kids.take i):Nat):Int),(i:Int))) x0.Kids.length (fun i hi=>by
  obtain ⟨v,hv⟩:∃ v,x0.Kids[i]?=some v:=⟨_,List.getElem?_eq_getElem hi⟩
  have hs:=zlm _ _ _ hv
  have hle:=ziv x0.Kids (i+1)
  have e1:w64 (((1+sizes (x0.Kids.take i):Nat):Int)+(size v:Int))=((1+sizes (x0.Kids.take (i+1)):Nat):Int):=by
   rw [zdn (by omega) (by omega)];omega
  simp only [zhk,zb2,hv,Option.bind_some,hr i v hv,e1,zbb (show i<2 ^ 62 by omega)]
  rw [if_pos (by omega)])
 have e0:(((1+sizes (x0.Kids.take 0):Nat):Int),((0:Nat):Int))=((1:Int),(0:Int)):=by simp [sizes]
 rw [← e0,h1,zau (n:=0) (s':=(((1+sizes (x0.Kids.take x0.Kids.length):Nat):Int),(x0.Kids.length:Int)))]
 ·simp [hse]
 ·simp only [zhk]
  rw [if_neg (by omega)]
def zgk (n:Node):Option Int:=if size n<2 ^ 40 then some (size n) else none
def ze9 (n:Node):Nat:=size n
theorem zqo (x0:Node) (r:Int) (h:zgk x0=some r):R06_Size.body (fun x0'=>if ze9 x0'<ze9 x0 then zgk x0' else none) x0=some r:=by
 unfold zgk at h
 by_cases hb:size x0<2 ^ 40
 case neg=>rw [if_neg hb] at h;cases h
 rw [if_pos hb] at h
 obtain rfl:=Option.some.inj h
 have hse:=zio x0
 have hlen:=zg8 x0.Kids
 unfold R06_Size.body
 generalize hrec:(fun x0'=>if ze9 x0'<ze9 x0 then zgk x0' else none)=rec
 have hr:∀ (i:Nat) v,x0.Kids[i]?=some v→rec v=some ((size v:Nat):Int):=by
  intro i v hv
  subst hrec
  have:=zmw hv
  simp only [ze9,zgk,if_pos this,if_pos (show size v<2 ^ 40 by omega)]
 have h1:=zj2 (step:=zh7 rec x0.Kind x0.Text x0.Gaps x0.Kids) (fun i=>(((1+sizes (x0.Kids.take i):Nat):Int),(i:Int))) x0.Kids.length (fun i hi=>by
  obtain ⟨v,hv⟩:∃ v,x0.Kids[i]?=some v:=⟨_,List.getElem?_eq_getElem hi⟩
  have hs:=zlm _ _ _ hv
  have hle:=ziv x0.Kids (i+1)
  have e1:w64 (((1+sizes (x0.Kids.take i):Nat):Int)+(size v:Int))=((1+sizes (x0.Kids.take (i+1)):Nat):Int):=by
   rw [zdn (by omega) (by omega)];omega
  simp only [zh7,zb2,hv,Option.bind_some,hr i v hv,e1,zbb (show i<2 ^ 62 by omega)]
  rw [if_pos (by omega)])
 have e0:(((1+sizes (x0.Kids.take 0):Nat):Int),((0:Nat):Int))=((1:Int),(0:Int)):=by simp [sizes]
 rw [← e0,h1,zau (n:=0) (s':=(((1+sizes (x0.Kids.take x0.Kids.length):Nat):Int),(x0.Kids.length:Int)))]
 ·simp [hse]
 ·simp only [zh7]
  rw [if_neg (by omega)]
noncomputable def pdqF (x1 x2 x3:Int) (o1:List Pair):Option (List Pair):=pdqS cmpT o1 x1 x2 x3
def zmg (x1 x2 x3:Int) (o1:List Pair):Nat:=(x2 - x1).toNat
theorem z41 (x1 x2 x3:Int) (o1:List Pair) (r:List Pair) (h:pdqF x1 x2 x3 o1=some r):sort_pdqsort_func.body (fun x1' x2' x3' o1'=>if zmg x1' x2' x3' o1'<zmg x1 x2 x3 o1 then pdqF x1' x2' x3' o1' else none) x1 x2 x3 o1=some r:=by
 have h':=z2f cmpT o1 x1 x2 x3 r h
 unfold sort_pdqsort_func.body
 rw [yif]
 unfold slices_pdqsortCmpFunc.body at h'
 rw [← h']
 exact bnd fun o=>by cases o<;>rfl
end Xr

namespace Xr
open Go Go.Ev
set_option linter.unusedSimpArgs false
set_option linter.unusedVariables false
set_option linter.defProp false
noncomputable def zm4 (x0:Node) (x1:Int) (x2:Int):Option Bool :=
 (zgn x0 x1 x2).bind fun r1 =>
 some (decide ((0:Int)≤r1))
noncomputable def zjd (x0:Node) (x1:Int) (x2:Int) (x3:Int):Option Bool :=
 (zm4 x0 x1 x2).bind fun r1 =>
 if r1=true then
  (zfj x0 x3).bind fun r5 =>
  some (decide ((0:Int)≤r5))
 else
  some false
noncomputable def zh9:Option Bool :=
 some true
noncomputable def zdv (s1:Int) (s4:Int):(Int×Int×(List Int)×(List Int))→Option (Out (Int×Int×(List Int)×(List Int)) ((List Int)×(List Int))):=fun (s5,s6,w0_0,y2) =>
 if s6≤s1 then
  (symF s5 (w64 (s5+s4)) s6 w0_0 y2).bind fun r14 =>
  if r14.2.length=y2.length then
   some (.next (s6,w64 (s6+(w64 ((2:Int)*s4))),r14.1,r14.2))
  else none
 else
  some (.jmp 4 (s5,s6,w0_0,y2))
noncomputable def zdz (s1:Int):(Int×(List Int)×(List Int))→Option (Out (Int×(List Int)×(List Int)) ((List Int)×(List Int))):=fun (s4,w0_0,y2) =>
 if s4<s1 then
  (iter (zdv s1 s4) ((0:Int),w64 ((2:Int)*s4),w0_0,y2)).bind fun
   | .jmp _ (s5_19,s6_19,w0_0_19,y2_19) =>
    if (w64 (s5_19+s4))<s1 then
     (symF s5_19 (w64 (s5_19+s4)) s1 w0_0_19 y2_19).bind fun r21 =>
     if r21.2.length=y2_19.length then
      some (.next (w64 (s4*(2:Int)),r21.1,r21.2))
     else none
    else
     some (.next (w64 (s4*(2:Int)),w0_0_19,y2_19))
   | _=>none
 else
  some (.jmp 2 (s4,w0_0,y2))
noncomputable def zdu (s1:Int) (s4:Int):(Int×Int×(List Int)×(List Int))→Option (Out (Int×Int×(List Int)×(List Int)) ((List Int)×(List Int))):=fun (s5,s6,w0_0,y2) =>
 if s6≤s1 then
  (zb8 s5 s6 w0_0 y2).bind fun r2 =>
  if r2.2.length=y2.length then
   some (.next (s6,w64 (s6+s4),r2.1,r2.2))
  else none
 else
  some (.jmp 0 (s5,s6,w0_0,y2))
noncomputable def zfb (x1:Int) (o0:(List Int)) (o2:(List Int)):Option ((List Int)×(List Int)) :=
 (iter (zdu x1 (20:Int)) ((0:Int),(20:Int),o0,o2)).bind fun
  | .jmp _ (s5_7,s6_7,w0_0_7,y2_7) =>
   (zb8 s5_7 x1 w0_0_7 y2_7).bind fun r8 =>
   if r8.2.length=y2_7.length then
    (iter (zdz x1) ((20:Int),r8.1,r8.2)).bind fun
     | .jmp _ (s4_26,w0_0_26,y2_26) =>
      some (w0_0_26,y2_26)
     | _=>none
   else none
  | _=>none
noncomputable def zgz (o0:(List Int)) (o1:(List Int)):Option ((List Int)×(List Int)) :=
 if 2≤o0.length then
  (zfb (o0.length:Int) o1 o0).bind fun r10 =>
  if r10.2.length=o0.length then
   some (r10.2,r10.1)
  else none
 else none
noncomputable def zew (o0:(List Int)) (o1:(List Int)):Option ((List Int)×(List Int)) :=
 if o0.length<2 then some (o0,o1) else zgz o0 o1
noncomputable def zlo (o0:(List Pair)):Option (List Pair) :=
 if 2≤o0.length then
  (zdj (IntKind.wrap .u64 (o0.length:Int))).bind fun r10 =>
  (pdqF (0:Int) (o0.length:Int) r10 o0).bind fun r13 =>
  if r13.length=o0.length then
   some r13
  else none
 else none
noncomputable def zhf (o0:(List Pair)):Option (List Pair) :=
 if o0.length<2 then some o0 else zlo o0
noncomputable def zg3 (s9:(List Node)) (s10:Int):(Int×(List Int))→Option (Out (Int×(List Int)) (List Int)):=fun (s11,y0) =>
 if s11<s10 then
  (rd s9 s11).bind fun v4 =>
  (zf1 v4).bind fun r7 =>
  (rd y0 s11).bind fun v10 =>
  some (.next (w64 (s11+(1:Int)),(y0.set s11.toNat r7)))
 else
  some (.jmp 0 (s11,y0))
noncomputable def zkb (x0:(List Node)):Option (List Int) :=
 if 0≤(x0.length:Int)∧(x0.length:Int)*8≤140737488355328 then
  (iter (zg3 x0 (x0.length:Int)) ((0:Int),(List.replicate (x0.length:Int).toNat (0:Int)))).bind fun
   | .jmp _ (s11_15,y0_15) =>
    some y0_15
   | _=>none
 else none
noncomputable def zbt (x0:Node):Option ByteArray :=
 some x0.Text
noncomputable def zi3 (x0:Node):Option (List Int) :=
 (zdw zbt ([]:List Int) x0).bind fun r1 =>
 some r1.1
def nodeL (l:List Node) (k:Int):Node:=l.getD k.toNat ⟨0,ByteArray.empty,[],[]⟩
theorem ziu {L:List Node}{k:Nat}{v:Node} (h:L[k]?=some v):nodeL L (k:Int)=v:=by unfold nodeL;rw [Int.toNat_natCast,List.getD_eq_getElem?_getD,h];rfl
theorem zk0 (n:Node) (i:Nat) (h:i<(subs n).length):i+size (nodeL (subs n) (i:Int))≤(subs n).length:=by
 have e:=List.getElem?_eq_getElem h
 rw [ziu e]
 exact zsx e
def mrk (u:List Bool) (i:Nat):Nat→List Bool
 | 0=>u
 | j+1=>(mrk u i j).set (i+j) true
structure Tw where
 ua:List Bool
 ub:List Bool
 out:List Pair
open Classical in
noncomputable def zpa (L R:List Node) (hx hy:List Int) (t:Tw) (i:Nat):Option Nat :=
 (List.range R.length).find? fun k=>decide (hy.getD k 0=hx.getD i 0) && (!(t.ub.getD k false) && decide (barV (nodeL L (i:Int))=barV (nodeL R (k:Int))))
noncomputable def zg4 (L R:List Node) (hx hy:List Int) (t:Tw) (i:Nat):Tw :=
 if t.ua.getD i false=true then t else
 match zpa L R hx hy t i with
 | none=>t
 | some k=>⟨mrk t.ua i (size (nodeL L (i:Int))),mrk t.ub k (size (nodeL L (i:Int))),t.out++[⟨(i:Int),(k:Int)⟩]⟩
noncomputable def twAll (L R:List Node) (hx hy:List Int) (o:List Nat):Tw :=
 o.foldl (zg4 L R hx hy) ⟨List.replicate L.length false,List.replicate R.length false,[]⟩
def szL (l:List Node):List Int:=l.map fun v=>(size v:Int)
noncomputable def zi6 (a b:Node):Option (List Pair) :=
 (zi3 a).bind fun hx=>(zi3 b).bind fun hy =>
 if size a<2 ^ 20∧size b<2 ^ 20∧hx.length=size a∧hy.length=size b then
  (zew ((List.range (size a)).map fun (k:Nat)=>(k:Int)) (szL (subs a))).bind fun o =>
  open Classical in
  if o.2=szL (subs a)∧o.1.length=size a∧∀ v∈o.1,0≤v∧v<(size a:Int) then
   zhf (twAll (subs a) (subs b) hx hy (o.1.map Int.toNat)).out
  else none
 else none
noncomputable def zkf (x0:Node):Option (List Node) :=
 (zfe ([]:List Node) x0).bind fun r1 =>
 some r1
noncomputable def zhl (s0:(List Node)):(Int×(List Int))→Option (Out (Int×(List Int)) (List Int)):=fun (s4,y0) =>
 if s4<(s0.length:Int) then
  (rd s0 s4).bind fun v2 =>
  (zgk v2).bind fun r5 =>
  if (y0.length+1)*8≤140737488355328 then
   some (.next (w64 (s4+(1:Int)),(y0++[r5])))
  else none
 else
  some (.jmp 0 (s4,y0))
noncomputable def zj8 (x0:(List Node)):Option (List Int) :=
 (iter (zhl x0) ((0:Int),([]:List Int))).bind fun
  | .jmp _ (s4_11,y0_11) =>
   some y0_11
  | _=>none
noncomputable def zn9 (x0:Int) (x1:Int) (x2:Int):Option Bool :=
 if x1≤x0 then
  some (decide (x0<(w64 (x1+x2))))
 else
  some false
noncomputable def zhd (s0:(List Pair)) (s1:(List Int)) (s2:Int) (s3:Bool):Int→Option (Out (Int) Bool):=fun s9 =>
 if s9<(s0.length:Int) then
  (rd s0 s9).bind fun v2 =>
  if s3=true then
   (rd s1 v2.Old).bind fun v8 =>
   (zn9 s2 v2.Old v8).bind fun r11 =>
   if r11=true then
    some (.ret false)
   else
    some (.next (w64 (s9+(1:Int))))
  else
   (rd s1 v2.Old).bind fun v16 =>
   (zn9 s2 v2.New v16).bind fun r19 =>
   if r19=true then
    some (.ret false)
   else
    some (.next (w64 (s9+(1:Int))))
 else
  some (.jmp 0 s9)
noncomputable def zjp (x0:(List Pair)) (x1:(List Int)) (x2:Int) (x3:Bool):Option Bool :=
 (iter (zhd x0 x1 x2 x3) (0:Int)).bind fun
  | .jmp _ s9_24 =>
   some true
  | .ret r25 =>
   some r25
  | .next _=>none
noncomputable def zcy (s0:(List Pair)) (w0_0:Int) (w0_1:Int):(Bool×Int×(List Pair))→Option (Out (Bool×Int×(List Pair)) (List Pair)):=fun (s6,s7,y1) =>
 if s7<(s0.length:Int) then
  if s6=true then
   (rd s0 s7).bind fun v3 =>
   if (y1.length+1)*16≤140737488355328 then
    some (.next (s6,w64 (s7+(1:Int)),(y1++[v3])))
   else none
  else
   (rd s0 s7).bind fun v8 =>
   if w0_0<v8.Old then
    if (y1.length+1)*16≤140737488355328 then
     if ((y1++[(Pair.mk w0_0 w0_1)]).length+1)*16≤140737488355328 then
      some (.next (true,w64 (s7+(1:Int)),((y1++[(Pair.mk w0_0 w0_1)])++[v8])))
     else none
    else none
   else
    if (y1.length+1)*16≤140737488355328 then
     some (.next (s6,w64 (s7+(1:Int)),(y1++[v8])))
    else none
 else
  some (.jmp 0 (s6,s7,y1))
noncomputable def zi1 (x0:(List Pair)) (x1:Pair):Option (List Pair) :=
 (iter (zcy x0 x1.Old x1.New) (false,(0:Int),([]:List Pair))).bind fun
  | .jmp _ (s6_21,s7_21,y1_21) =>
   if s6_21=true then
    some y1_21
   else
    if (y1_21.length+1)*16≤140737488355328 then
     some (y1_21++[x1])
    else none
  | _=>none
noncomputable def zcp (s5:(List Node)) (s6:(List Node)) (s7:(List Int)) (s9:Int) (s10:Int):((List Pair)×Int)→Option (Out ((List Pair)×Int) (List Pair)):=fun (s8,s11) =>
 if s11<(s6.length:Int) then
  (zjp s8 s7 s10 true).bind fun r17 =>
  if r17=true then
   (zjp s8 s7 s11 false).bind fun r21 =>
   if r21=true then
    (rd s5 s10).bind fun v25 =>
    (rd s6 s11).bind fun v28 =>
    (zgd v25 v28).bind fun r31 =>
    if r31=true then
     (zi1 s8 (Pair.mk s10 s11)).bind fun r35 =>
     some (.next (r35,w64 (s11+(1:Int))))
    else
     some (.next (s8,w64 (s11+(1:Int))))
   else
    some (.next (s8,w64 (s11+(1:Int))))
  else
   some (.next (s8,w64 (s11+(1:Int))))
 else
  some (.jmp 4 (s8,s11))
noncomputable def zfp (s5:(List Node)) (s6:(List Node)) (s7:(List Int)) (s9:Int):((List Pair)×Int)→Option (Out ((List Pair)×Int) (List Pair)):=fun (s8,s10) =>
 if s10<(s5.length:Int) then
  (rd s7 s10).bind fun v12 =>
  if v12=s9 then
   (iter (zcp s5 s6 s7 s9 s10) (s8,(0:Int))).bind fun
    | .jmp _ (s8_39,s11_39) =>
     some (.next (s8_39,w64 (s10+(1:Int))))
    | _=>none
  else
   some (.next (s8,w64 (s10+(1:Int))))
 else
  some (.jmp 2 (s8,s10))
noncomputable def zgr (s5:(List Node)) (s6:(List Node)) (s7:(List Int)):((List Pair)×Int)→Option (Out ((List Pair)×Int) (List Pair)):=fun (s8,s9) =>
 if (0:Int)<s9 then
  (iter (zfp s5 s6 s7 s9) (s8,(0:Int))).bind fun
   | .jmp _ (s8_41,s10_41) =>
    some (.next (s8_41,w64 (s9 - (1:Int))))
   | _=>none
 else
  some (.jmp 0 (s8,s9))
noncomputable def zkc (x0:Node) (x1:Node):Option (List Pair) :=
 (zkf x0).bind fun r1 =>
 (zkf x1).bind fun r4 =>
 (zj8 r1).bind fun r7 =>
 (iter (zgr r1 r4 r7) (([]:List Pair),(r1.length:Int))).bind fun
  | .jmp _ (s8_43,s9_43) =>
   some s8_43
  | _=>none
noncomputable def zfk (s0:(List Pair)) (s1:(List Pair)):Int→Option (Out (Int) Bool):=fun s5 =>
 if s5<(s0.length:Int) then
  (rd s0 s5).bind fun v3 =>
  (rd s1 s5).bind fun v6 =>
  if v3.Old=v6.Old∧v3.New=v6.New then
   some (.next (w64 (s5+(1:Int))))
  else
   some (.ret false)
 else
  some (.jmp 0 s5)
noncomputable def zgv (x0:(List Pair)) (x1:(List Pair)):Option Bool :=
 if (x0.length:Int)=(x1.length:Int) then
  (iter (zfk x0 x1) (0:Int)).bind fun
   | .jmp _ s5_11 =>
    some true
   | .ret r12 =>
    some r12
   | .next _=>none
 else
  some false
noncomputable def zgm (x0:Node) (x1:Node):Option Bool :=
 (zjd x0 (40:Int) (40:Int) (4000:Int)).bind fun r1 =>
 if r1=true then
  (zjd x1 (40:Int) (40:Int) (4000:Int)).bind fun r5 =>
  if r5=true then
   (zh9).bind fun r9 =>
   if r9=true then
    (zi6 x0 x1).bind fun r13 =>
    (zkc x0 x1).bind fun r16 =>
    (zgv r13 r16).bind fun r19 =>
    some r19
   else
    some false
  else
   (zh9).bind fun r22 =>
   some r22
 else
  (zh9).bind fun r25 =>
  some r25
end Xr

