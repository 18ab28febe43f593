/- A part of the proof: E6. No conditions of its own. -/
import Derived.Test.YtcpenhffpgajoaaE5
set_option linter.unusedVariables false
namespace Go.Ev
open Go
section
variable {P : Program} {A : Ann} {f : FuncId} {k : Nat}
theorem evC_W [Gl]:∀ (c:Code) {s:St}{r:Ex×St},evC P A (callW P A) k f c s=some r→evW P A f c s=some r
 | .region id ops draw,s,r,h=>by
  rw [zl1]
  simpa only [evC] using h
 | .seq a b,s,r,h=>by
  rw [z1p]
  simp only [evC] at h
  split at h
  ·rename_i s1 h1
   rw [evC_W a h1]
   exact evC_W b h
  ·rename_i hne
   rw [evC_W a h]
   obtain ⟨e,s1⟩:=r
   cases e with
   | normal=>exact absurd h (hne s1)
   | exit i=>rfl
   | ret=>rfl
 | .cond x t e,s,r,h=>by
  rw [zx3]
  simp only [evC] at h
  split at h
  ·rename_i b hb
   rw [hb]
   simp only []
   split at h
   ·rename_i hb;rw [if_pos hb];exact evC_W t h
   ·rename_i hb;rw [if_neg hb];exact evC_W e h
  ·cases h
 | .block id b,s,r,h=>by
  rw [ztz]
  simp only [evC] at h
  split at h
  ·rename_i i s1 h1
   rw [evC_W b h1]
   exact h
  ·rename_i hne
   rw [evC_W b h]
   obtain ⟨e,s1⟩:=r
   cases e with
   | exit i=>exact absurd h (hne i s1)
   | normal=>rfl
   | ret=>rfl
 | .loop b,s,r,h=>by
  simp only [evC] at h
  have key:∀ (j:Nat) (s:St),loopD (evC P A (callW P A) k f b) j s=some r→evW P A f (.loop b) s=some r:=by
   intro j
   induction j with
   | zero=>intro s h;simp [loopD] at h
   | succ j ih =>
    intro s h
    rw [zxb]
    simp only [loopD] at h
    split at h
    ·rename_i s1 h1
     rw [evC_W b h1]
     exact ih s1 h
    ·rename_i hne
     rw [evC_W b h]
     obtain ⟨e,s1⟩:=r
     cases e with
     | normal=>exact absurd h (hne s1)
     | exit i=>rfl
     | ret=>rfl
  exact key k s h
 | .skip,s,r,h=>by rw [zye];simpa only [evC] using h
 | .label _,s,r,h=>by rw [z3a];simpa only [evC] using h
 | .exit _,s,r,h=>by rw [zyo];simpa only [evC] using h
 | .ret,s,r,h=>by rw [z2k];simpa only [evC] using h
 | .goto _,s,r,h=>by simp only [evC] at h;cases h
 | .rangeFunc ..,s,r,h=>by simp only [evC] at h;cases h
 | .scope _,s,r,h=>by simp only [evC] at h;cases h
 | .refuse _,s,r,h=>by simp only [evC] at h;cases h
theorem yau [Gl] {args:List Dv}{H:List Ob}{r:Dv×List Ob} (hcl:((A.outer f).isSome || (A.clone f).isSome && zjm args H)=false) (h:runD P A (callW P A) k f args H=some r):callW P A f args H=some r:=by
 unfold runD at h
 split at h
 ·rename_i ho
  split at h
  ·rename_i fn hf
   split at h
   ·rename_i c hb
    rw [zxw hcl ho hf hb]
    split at h
    ·rename_i s h1
     have h1:evC P A (callW P A) k f c (initS fn args H)=some (.normal,s):=h1
     rw [evC_W c h1];exact h
    ·rename_i s h1
     have h1:evC P A (callW P A) k f c (initS fn args H)=some (.ret,s):=h1
     rw [evC_W c h1];exact h
    ·cases h
   ·cases h
  ·cases h
 ·cases h
end
def callS [Gl] (P:Program) (A:Ann) (S:CallF):Nat→CallF
 | 0=>fun _ _ _=>none
 | k+1=>fun f args H =>
  match S f args H with
  | some r=>some r
  | none =>
  match A.outer f with
  | some e=>extD P e args H
  | none =>
  match A.clone f with
  | none=>runF P A (callS P A S k) k f args H
  | some sz=>if zjm args H then some (if sz=0 then (.p (.lst false 0 []),[]) else (.ref 0 0 0 sz,[.arr []])) else runF P A (callS P A S k) k f args H
theorem zs0 [Gl] {P:Program}{A:Ann}{S:CallF} (hS:zkx S (callW P A)):∀ k,zkx (callS P A S k) (callW P A)
 | 0=>fun _ _ _ _ h=>by simp [callS] at h
 | k+1=>by
  intro f args H r h
  simp only [callS] at h
  split at h
  ·rename_i r' hr
   cases h
   exact hS _ _ _ _ hr
  ·cases hx:A.outer f with
   | some e =>
    simp only [hx] at h
    exact zee.2 ⟨1,by simp only [callN,hx];exact h⟩
   | none =>
    simp only [hx] at h
    split at h
    ·rename_i hc
     exact yau (by simp [hx,hc]) (zm8 (zs0 hS k) (Nat.le_refl k) (z2a h))
    ·rename_i sz hc
     split at h
     ·rename_i he
      exact zee.2 ⟨1,by simp only [callN,hx,hc,if_pos he];exact h⟩
     ·rename_i he
      exact yau (by simp [hx,hc,he]) (zm8 (zs0 hS k) (Nat.le_refl k) (z2a h))
end Go.Ev

set_option linter.unusedVariables false
namespace Go.Ev
open Go
theorem z0g {P:Program}{t e n:TypeId}{k:IntKind}{l:List Int}{i v:Int} (hu:P.underlying t=some (.array n e)) (ha:aggT P e=some false) (hz:szOf P e=some 1) (hn:n=l.length) (h:rd l i=some v):zrm P t (.p (.agg (l.map fun x=>.v (.int k x)))) (.p (.v (.int .i64 i)))=some (.p (.v (.int k v))):=by
 obtain ⟨h0,h1,h2⟩:=zhr h
 subst hn
 simp only [zrm,hu,intD,Option.bind_some,hz,if_pos (And.intro h0 h1),partD,ha,Nat.mul_one,List.getElem?_map,h2,Option.map_some]
end Go.Ev

set_option linter.unusedVariables false
set_option linter.unusedSimpArgs false
namespace Go.Ev
open Go
theorem z11 (kk:IntKind) (k x:Int):Instr.sameNow (.int kk) (.int kk k) (.int kk x)=some (decide (k=x)):=by
 simp only [Instr.sameNow,if_true]
 congr 1
theorem zrk (kk:IntKind) (k:Int):∀ (l:List Int) (i:Nat),zkh (.int kk) (.int kk k) (l.map fun x=>.int kk x) i=some ((l.findIdx? fun x=>decide (k=x)).map (·+i))
 | [],i=>rfl
 | x :: l,i=>by
  simp only [List.map_cons,zkh,z11,List.findIdx?_cons]
  by_cases h:k=x
  ·simp [h]
  ·simp only [h,decide_false,Bool.false_eq_true,if_false]
   rw [zrk kk k l (i+1)]
   cases l.findIdx? fun x=>decide (k=x) with
   | none=>rfl
   | some j=>simp only [Option.map_some];congr 2;omega
theorem zs8 {P:Program}{kt:TypeId}{kk:IntKind} (h:P.underlying kt=some (.int kk)) (k:Int) (l:List Int):findD P kt (.int kk k) (l.map fun x=>.int kk x)=some (l.findIdx? fun x=>decide (k=x)):=by
 simp only [findD,h,Option.bind_some,zrk]
 cases l.findIdx? fun x=>decide (k=x)<;>rfl
structure MapTy (P:Program) (t ke ve:TypeId) (kk:IntKind):Prop where
 map:P.underlying t=some (.map ke ve)
 key:P.underlying ke=some (.int kk)
 chk:∀ (k:Int) b,keyD P b ke (.int kk k)=some ()
 zero:zeroP P ve=some (.lst true 0 [])
 val:P.underlying ve=some (.slice 3)
 sz:szOf P 3=some 1
 by_:bytesOf P 3=some 8
 zc:zey P 3=some [.v (.int .i64 (0:Int))]
def en1 (x:Int):List Pv:=[.v (.int .i64 x)]
theorem yct (x:Int):(en1 x).length=1:=rfl
abbrev Fam:=List (Int×Nat×List Int)
def mpOf (kk:IntKind) (T:Fam):List (Value×Dv):=T.map fun e=>(.int kk e.1,.ref e.2.1 0 e.2.2.length 1)
structure FamI (kk:IntKind) (z:Nat) (T:Fam) (H:List Ob):Prop where
 mp:H[z]?=some (.mp (mpOf kk T))
 row:∀ e∈T,H[e.2.1]?=some (.arr (encL en1 e.2.2))
 nd:(T.map (·.2.1)).Nodup
def atK (T:Fam) (k:Int):Option Nat:=(T.map (·.1)).findIdx? fun x=>decide (k=x)
def lookR (T:Fam) (k:Int):List Int:=match atK T k with | some i=>((T[i]?).map (·.2.2)).getD [] | none=>[]
theorem znd (kk:IntKind) (T:Fam):(mpOf kk T).map (·.1)=(T.map (·.1)).map fun x=>Value.int kk x:=by simp [mpOf]
theorem zou {T:Fam}{k:Int}{i:Nat} (h:atK T k=some i):∃ e,T[i]?=some e∧e.1=k:=by
 unfold atK at h
 rw [List.findIdx?_eq_some_iff_getElem] at h
 obtain ⟨h1,h2,_⟩:=h
 have hi:i<T.length:=by simpa using h1
 refine ⟨T[i],List.getElem?_eq_getElem hi, ?_⟩
 have:k=T[i].1:=by simpa using h2
 exact this.symm
section
variable {P : Program} {t ke ve : TypeId} {kk : IntKind} {z : Nat}
theorem FamI.ents {T:Fam}{H:List Ob} (h:FamI kk z T H):entsD H (.mp z)=some (mpOf kk T):=by simp [entsD,h.mp]
theorem FamI.lookup_some (M:MapTy P t ke ve kk) {T:Fam}{H:List Ob} (h:FamI kk z T H) {k:Int}{i:Nat}{e:Int×Nat×List Int} (ha:atK T k=some i) (he:T[i]?=some e):zia P H t (.mp z) (.p (.v (.int kk k))) false=some (.ref e.2.1 0 e.2.2.length 1):=by
 have e2:(mpOf kk T)[i]?=some (.int kk e.1,.ref e.2.1 0 e.2.2.length 1):=by simp [mpOf,he]
 unfold atK at ha
 simp only [zia,M.map,h.ents,concD,conc,Option.bind_some,M.chk,znd,zs8 M.key,ha,e2,Option.map_some,Bool.false_eq_true,if_false]
theorem FamI.lookup_none (M:MapTy P t ke ve kk) {T:Fam}{H:List Ob} (h:FamI kk z T H) {k:Int} (ha:atK T k=none):zia P H t (.mp z) (.p (.v (.int kk k))) false=some (.p (.lst true 0 [])):=by
 unfold atK at ha
 simp only [zia,M.map,h.ents,concD,conc,Option.bind_some,M.chk,znd,zs8 M.key,ha,M.zero,Option.map_some,Bool.false_eq_true,if_false]
theorem zvq (M:MapTy P t ke ve kk) {T:Fam}{H:List Ob} (h:H[z]?=some (.mp (mpOf kk T))) {k:Int}{i:Nat} (ha:atK T k=some i) (x:Dv):zfa P H t (.mp z) (.p (.v (.int kk k))) x=some (H.set z (.mp ((mpOf kk T).set i (.int kk k,x)))):=by
 obtain ⟨e,he,hk⟩:=zou ha
 have e2:(mpOf kk T)[i]?=some (.int kk e.1,.ref e.2.1 0 e.2.2.length 1):=by simp [mpOf,he]
 have e3:Instr.sameBits 10000 (.int kk e.1) (.int kk k)=true:=by rw [hk];simp [Instr.sameBits]
 unfold atK at ha
 simp only [zfa,M.map,h,concD,conc,Option.bind_some,M.chk,znd,zs8 M.key,ha,e2,e3,if_true]
theorem zv4 (M:MapTy P t ke ve kk) {T:Fam}{H:List Ob} (h:H[z]?=some (.mp (mpOf kk T))) {k:Int} (ha:atK T k=none) (x:Dv):zfa P H t (.mp z) (.p (.v (.int kk k))) x=some (H.set z (.mp (mpOf kk T++[(.int kk k,x)]))):=by
 unfold atK at ha
 simp only [zfa,M.map,h,concD,conc,Option.bind_some,M.chk,znd,zs8 M.key,ha]
theorem zjt {H:List Ob}{i:Nat}{o x:Ob} (h:H[i]?=some o):(H++[x])[i]?=some o:=by
 have:=(List.getElem?_eq_some_iff.1 h).1
 rw [List.getElem?_append_left this];exact h
theorem FamI.lt {T:Fam}{H:List Ob} (h:FamI kk z T H) {e:Int×Nat×List Int} (he:e∈T):e.2.1<H.length:=(List.getElem?_eq_some_iff.1 (h.row e he)).1
theorem FamI.zlt {T:Fam}{H:List Ob} (h:FamI kk z T H):z<H.length:=(List.getElem?_eq_some_iff.1 h.mp).1
theorem FamI.ne0 {T:Fam}{H:List Ob} (h:FamI kk z T H) {e:Int×Nat×List Int} (he:e∈T):e.2.1≠z:=by
 intro e0
 have:=h.row e he
 rw [e0,h.mp] at this;cases this
theorem FamI.of {T:Fam}{H H':List Ob} (h:FamI kk z T H) (hz:H'[z]?=H[z]?) (hr:∀ e∈T,H'[e.2.1]?=H[e.2.1]?):FamI kk z T H' :=
 ⟨hz.trans h.mp,fun e he=>(hr e he).trans (h.row e he),h.nd⟩
theorem ztk {T:Fam}{i:Nat}{e x:Int×Nat×List Int} (he:T[i]?=some e) (hx:x.1=e.1):(T.set i x).map (·.1)=T.map (·.1):=by
 rw [List.map_set,hx]
 apply List.ext_getElem?
 intro j
 by_cases hj:i=j
 ·subst hj
  have hi:=(List.getElem?_eq_some_iff.1 he).1
  rw [List.getElem?_set_self (by simpa using hi)]
  simp [he]
 ·rw [List.getElem?_set_ne hj]
theorem ycn {H:List Ob}{id n:Nat}{x:Int}{row:List Int}{s:TypeId} (hs:P.underlying s=some (.slice 3)) (hz:szOf P 3=some 1) (hb3:bytesOf P 3=some 8) (hzc:zey P 3=some [.v (.int .i64 (0:Int))]) (hid:H[id]?=some (.arr (encL en1 row))) (hn:n=row.length) (hb:row.length≤2 ^ 30) :
  zer P H #[s,s] (.ref id 0 n 1) (.p (.lst true 1 [.v (.int .i64 x)]))=some (.ref H.length 0 (row++[x]).length 1,H.set id .dead++[.arr (encL en1 (row++[x]))]):=by
 rw [zi7 hs hs hz hb3 hzc ⟨by decide,by decide,rfl⟩,hid]
 exact zjk (y:=[x]) yct hn rfl rfl (by omega)
theorem yc6 {H:List Ob}{x:Int}{s:TypeId} (hs:P.underlying s=some (.slice 3)) (hz:szOf P 3=some 1) (hb3:bytesOf P 3=some 8) (hzc:zey P 3=some [.v (.int .i64 (0:Int))]):zer P H #[s,s] (.p (.lst true 0 [])) (.p (.lst true 1 [.v (.int .i64 x)]))=some (.ref H.length 0 1 1,H++[.arr (encL en1 [x])]):=by
 rw [zvm hs hs hz hb3 hzc ⟨by decide,by decide,rfl⟩]
 rfl
theorem ydd (M:MapTy P t ke ve kk) {T:Fam}{H1:List Ob} (h1:FamI kk z T H1) (k0 x0:Int) (hb:∀ k,(lookR T k).length≤2 ^ 30):∃ d e H2 H3 T',zia P H1 t (.mp z) (.p (.v (.int kk k0))) false=some d ∧
  zer P H1 #[ve,ve] d (.p (.lst true 1 [.v (.int .i64 x0)]))=some (e,H2)∧zfa P H2 t (.mp z) (.p (.v (.int kk k0))) e=some H3 ∧
  FamI kk z T' H3∧(∀ k,lookR T' k=lookR T k++if k0=k then [x0] else [])∧(∀ y o,H1[y]?=some o→y≠z→(∀ e∈T,e.2.1≠y)→H3[y]?=some o)∧(∀ e∈T',(∃ e'∈T,e'.2.1=e.2.1)∨e.2.1=H1.length)∧H3.length=H1.length+1:=by
 have hzl:=h1.zlt
 cases ha:atK T k0 with
 | some i =>
  obtain ⟨e,he,hk⟩:=zou ha
  have hm:e∈T:=List.mem_of_getElem? he
  have hlt:=h1.lt hm
  have hi:=(List.getElem?_eq_some_iff.1 he).1
  have hrow:lookR T k0=e.2.2:=by simp [lookR,ha,he]
  have hne0:=h1.ne0 hm
  have h2mp:(H1.set e.2.1 .dead++[.arr (encL en1 (e.2.2++[x0]))])[z]?=some (.mp (mpOf kk T)):=zjt (by rw [List.getElem?_set_ne hne0];exact h1.mp)
  refine ⟨_,_,_,_,T.set i (k0,H1.length,e.2.2++[x0]),h1.lookup_some M ha he,ycn M.val M.sz M.by_ M.zc (h1.row e hm) rfl (by rw [← hrow];exact hb _),zvq M h2mp ha _,⟨?_, ?_, ?_⟩, ?_, ?_, ?_,by simp⟩
  ·rw [List.getElem?_set_self (by simp;omega)]
   simp [mpOf]
  ·intro x hx
   obtain ⟨j,hj⟩:=List.mem_iff_getElem?.1 hx
   by_cases hij:i=j
   ·subst hij
    rw [List.getElem?_set_self hi] at hj
    obtain rfl:=Option.some.inj hj
    show (List.set _ z _)[H1.length]?=_
    rw [List.getElem?_set_ne (by omega)]
    simp
   ·rw [List.getElem?_set_ne hij] at hj
    have hxT:x∈T:=List.mem_of_getElem? hj
    have hne:e.2.1≠x.2.1:=by
     intro e'
     have hil:i<(T.map (·.2.1)).length:=by simpa using hi
     exact hij ((List.getElem?_inj (i:=i) (j:=j) (l:=T.map (·.2.1)) hil h1.nd).1 (by simp [he,hj,e']))
    have hx0:=h1.ne0 hxT
    rw [List.getElem?_set_ne (fun e'=>hx0 e'.symm)]
    exact zjt (by rw [List.getElem?_set_ne hne];exact h1.row x hxT)
  ·rw [List.map_set]
   have nd:=List.pairwise_iff_getElem.1 h1.nd
   have hltT:∀ c (hc:c<(T.map (·.2.1)).length),(T.map (·.2.1))[c]<H1.length:=by
    intro c hc
    have hm':=List.getElem_mem hc
    obtain ⟨z,hz,e'⟩:=List.mem_map.1 hm'
    have:=h1.lt hz
    rw [← e'];omega
   refine List.pairwise_iff_getElem.2 (fun a b ha' hb' hab=>?_)
   have ha2:a<(T.map (·.2.1)).length:=by simpa using ha'
   have hb2:b<(T.map (·.2.1)).length:=by simpa using hb'
   rw [List.getElem_set,List.getElem_set]
   by_cases hia:i=a
   ·rw [if_pos hia,if_neg (by omega)]
    have:=hltT b hb2
    show H1.length≠_
    omega
   ·rw [if_neg hia]
    by_cases hib:i=b
    ·rw [if_pos hib]
     have:=hltT a ha2
     show _≠H1.length
     omega
    ·rw [if_neg hib]
     exact nd a b ha2 hb2 hab
  ·intro k
   have hat:atK (T.set i (k0,H1.length,e.2.2++[x0])) k=atK T k:=by unfold atK;rw [ztk he (by simpa using hk.symm)]
   unfold lookR
   rw [hat]
   by_cases hkk:k0=k
   ·subst hkk
    rw [ha,if_pos rfl]
    have hTi:T[i]=e:=Option.some.inj ((List.getElem?_eq_getElem hi).symm.trans he)
    simp [hi,hTi]
   ·rw [if_neg hkk,List.append_nil]
    cases hb':atK T k with
    | none=>rfl
    | some j =>
     obtain ⟨e',he',hk'⟩:=zou hb'
     have hij:i≠j:=by
      intro e0;subst e0
      rw [he] at he'
      obtain rfl:=Option.some.inj he'
      exact hkk (hk.symm.trans hk')
     simp only [List.getElem?_set_ne hij]
  ·intro y o hy hyz hyT
   rw [List.getElem?_set_ne (Ne.symm hyz)]
   exact zjt (by rw [List.getElem?_set_ne (hyT e hm)];exact hy)
  ·intro x hx
   obtain ⟨j,hj⟩:=List.mem_iff_getElem?.1 hx
   by_cases hij:i=j
   ·subst hij
    rw [List.getElem?_set_self hi] at hj
    obtain rfl:=Option.some.inj hj
    exact Or.inr rfl
   ·rw [List.getElem?_set_ne hij] at hj
    exact Or.inl ⟨x,List.mem_of_getElem? hj,rfl⟩
 | none =>
  have hrow:lookR T k0=[]:=by simp [lookR,ha]
  have h2mp:(H1++[.arr (encL en1 [x0])])[z]?=some (.mp (mpOf kk T)):=zjt h1.mp
  refine ⟨_,_,_,_,T++[(k0,H1.length,[x0])],h1.lookup_none M ha,yc6 M.val M.sz M.by_ M.zc,zv4 M h2mp ha _,⟨?_, ?_, ?_⟩, ?_, ?_, ?_,by simp⟩
  ·rw [List.getElem?_set_self (by simp;omega)]
   simp [mpOf]
  ·intro x hx
   rcases List.mem_append.1 hx with hx | hx
   ·have hx0:=h1.ne0 hx
    rw [List.getElem?_set_ne (fun e'=>hx0 e'.symm)]
    exact zjt (h1.row x hx)
   ·obtain rfl:x=(k0,H1.length,[x0]):=by simpa using hx
    show (List.set _ z _)[H1.length]?=_
    rw [List.getElem?_set_ne (by omega)]
    simp
  ·rw [List.map_append,List.nodup_append]
   refine ⟨h1.nd,by simp,fun a hA b hB=>?_⟩
   obtain ⟨x,hx,rfl⟩:=List.mem_map.1 hA
   obtain rfl:b=H1.length:=by simpa using hB
   have:=h1.lt hx
   omega
  ·intro k
   unfold lookR atK at *
   rw [List.map_append,List.findIdx?_append]
   by_cases hkk:k0=k
   ·subst hkk
    rw [ha,if_pos rfl]
    simp [List.findIdx?_cons]
   ·rw [if_neg hkk,List.append_nil]
    cases hb':(T.map (·.1)).findIdx? (fun x=>decide (k=x)) with
    | none=>simp [List.findIdx?_cons,Ne.symm hkk]
    | some j =>
     have:j<T.length:=by
      rw [List.findIdx?_eq_some_iff_getElem] at hb'
      simpa using hb'.1
     simp [List.getElem?_append_left this]
  ·intro y o hy hyz hyT
   rw [List.getElem?_set_ne (Ne.symm hyz)]
   exact zjt hy
  ·intro x hx
   rcases List.mem_append.1 hx with hx | hx
   ·exact Or.inl ⟨x,hx,rfl⟩
   ·obtain rfl:x=(k0,H1.length,[x0]):=by simpa using hx
    exact Or.inr rfl
end
end Go.Ev

set_option linter.unusedVariables false
namespace Go.Ev
open Go
theorem zve [Gl] {P:Program}{A:Ann}{f:FuncId}{T:Type}{en:T→List Pv}{l t:List T}{n e:Nat}{hd:Value}{i j:Int} (ho:A.outer f=some .swap) (hh:zaq P (Extern.Rtype.ofHandle hd)=some e) (hs:szOf P e=some 1) (ha:aggT P e=some false)
  (hc:∀ x,∃ p,en x=[p]∧cellsD (.p p)=some [.p p]) (hn:n=l.length) (h:swapL i j l=some t) :
  callW P A f [.p (.v (.int .i64 i)),.p (.v (.int .i64 j)),.ref 0 0 n 1,.p (.v hd)] [.arr (encL en l)]=some (.p (.tup []),[.arr (encL en t)]):=by
 subst hn
 have he:∀ x,(en x).length=1:=fun x=>by obtain ⟨p,hp,_⟩:=hc x;rw [hp];rfl
 unfold swapL at h
 obtain ⟨x,hx,h⟩:=bsm h
 obtain ⟨y,hy,h⟩:=bsm h
 cases h
 obtain ⟨x0,x1,_⟩:=zhr hx
 obtain ⟨y0,y1,_⟩:=zhr hy
 obtain ⟨p,hp,hp2⟩:=hc x
 obtain ⟨q,hq,hq2⟩:=hc y
 have ld:∀ {l:List T}{k:Int}{v:T}{r:Pv},rd l k=some v→en v=[r]→ldOb (some (.arr (encL en l))) (k.toNat*1)=some (.p r):=by
  intro l k v r h1 h2
  have:=zhx he h1 (k:=0) (by decide)
  rw [Nat.add_zero,h2] at this
  rw [zos,this];rfl
 refine zee.2 ⟨1, ?_⟩
 simp only [callN,ho,extD,hh,hs,Option.bind_some]
 rw [if_pos ⟨trivial,x0,x1,y0,y1⟩]
 rw [Nat.zero_add,Nat.zero_add,zab ha,zab ha]
 rw [show ([Ob.arr (encL en l)]:List Ob)[0]?=some (.arr (encL en l)) from rfl,ld hx hp,ld hy hq]
 simp only [Option.bind_some]
 rw [zjg hs hq2,show ([Ob.arr (encL en l)]:List Ob)[0]?=some (.arr (encL en l)) from rfl,zlw he hx (by decide) (v':=y) (by rw [hp,hq];rfl)]
 simp only [Option.bind_some,List.set_cons_zero]
 obtain ⟨z,hz⟩:∃ z,rd (l.set i.toNat y) j=some z:=⟨_,rd_lt y0 (by rw [List.length_set];exact y1)⟩
 obtain ⟨r,hr,_⟩:=hc z
 rw [zjg hs hp2,show ([Ob.arr (encL en (l.set i.toNat y))]:List Ob)[0]?=some (.arr (encL en (l.set i.toNat y))) from rfl,zlw he hz (by decide) (v':=x) (by rw [hr,hp];rfl)]
 rfl
end Go.Ev

