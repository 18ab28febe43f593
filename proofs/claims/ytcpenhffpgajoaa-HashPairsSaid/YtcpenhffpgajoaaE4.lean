/- A part of the proof: E4. No conditions of its own. -/
import Derived.Test.YtcpenhffpgajoaaE3
import Derived.Laws.Externs
import Derived.LoopN
import Derived.WalkKit
import Derived.ProofKit
import Derived.OpenShut
import Derived.ShutString
import Derived.ChangeOld
import Derived.Below
import Derived.Carry
import Derived.SizedLaws
import Derived.ChangeShapes
import Derived.ChangeMaps5
import Derived.WideShapes
import Derived.JoinedOf
set_option linter.unusedVariables false
set_option linter.unusedSimpArgs false
namespace Go.Ev
section
variable {P : Program} {X M : Nat → Prop} {w : World} {H : List Ob} {ρ : Pl}
theorem TOk.setD {vs:Array Value}{tm:List Dv} (h:TOk w M H ρ vs tm) {t:Nat}{d:Dv} (hd:t<tm.length→RepD w M H ρ (vs.getD t undef) d):TOk w M H ρ vs (tm.set t d):=by
 refine ⟨by simp [h.1],fun j hj=>?_⟩
 simp only [List.length_set] at hj
 by_cases ht:t=j
 ·subst ht
  have e:(tm.set t d)[t]'(by simpa using hj)=d:=by simp
  rw [e];exact hd hj
 ·have e:(tm.set t d)[j]'(by simpa using hj)=tm[j]:=by simp [List.getElem_set,ht]
  rw [e];exact h.2 j hj
theorem zys:∀ (l:List Nat) {vs:Array Value}{tm:List Dv},TOk w M H ρ vs tm→TOk w M H ρ vs (killD l tm)
 | [],_,_,h=>h
 | i :: l,_,_,h=>zys l (h.setD (fun _=>.junk _))
theorem zq2 [Gl] (hs:Sim X w H ρ):∀ {ds:List Dv}{xs:List Pv}{l:List Nat},zo2 H ds=some (xs,l)→∀ (l':List Nat),(∀ i∈l,i∈l') →
  xs.length=ds.length∧∀ j (h1:j<xs.length) (h2:j<ds.length) (v:Value),RepD w (Mut X H ρ) H ρ v ds[j]→RepP w (Mut X (zan H l') ρ) v xs[j]
 | [],xs,l,h,l',hl=>by
  simp only [zo2,Option.some.injEq,Prod.mk.injEq] at h
  obtain ⟨rfl,rfl⟩:=h
  exact ⟨rfl,fun j h1=>absurd h1 (by simp)⟩
 | d :: ds,xs,l,h,l',hl=>by
  simp only [zo2] at h
  split at h
  ·rename_i x l1 ys l2 h1 h2
   simp only [Option.some.injEq,Prod.mk.injEq] at h
   obtain ⟨rfl,rfl⟩:=h
   obtain ⟨e,ih⟩:=zq2 hs h2 l' (fun i hi=>hl i (by simp [hi]))
   refine ⟨by simp [e],fun j h3 h4 v hv=>?_⟩
   cases j with
   | zero =>
    simp only [List.getElem_cons_zero] at hv ⊢
    have hl1:∀ i∈l1,i∈l':=fun i hi=>hl i (by simp [hi])
    unfold z2p at h1
    split at h1
    ·rename_i es
     simp only [Option.map_eq_some_iff,Prod.mk.injEq] at h1
     obtain ⟨⟨zs,l3⟩,h5,rfl,rfl⟩:=h1
     cases hv with
     | agg vs cs hl2 h1' hr =>
      obtain ⟨e2,h6⟩:=zh4 hs (vs:=vs) h5 l' hl1
      exact .agg vs zs (by rw [e2];exact hl2) (fun j hj=>h1' j (by rw [← e2];exact hj)) (fun j hj=>h6 j hj (by rw [← e2];exact hj) _ (hr j (by rw [← e2];exact hj)))
    ·exact zqa hs hv h1 l' hl1
   | succ j=>exact ih j (by simpa using h3) (by simpa using h4) v (by simpa using hv)
  ·cases h
theorem zrp [Gl] (hs:Sim X w H ρ) {v:Value}{d:Dv}{x:Pv}{l:List Nat} (hv:RepD w (Mut X H ρ) H ρ v d) (h:zk9 H d=some (x,l)):RepP w (Mut X (zan H l) ρ) v x:=by
 unfold zk9 at h
 split at h
 ·simp only [Option.map_eq_some_iff,Prod.mk.injEq] at h
  obtain ⟨⟨zs,l3⟩,h5,rfl,rfl⟩:=h
  cases hv with
  | agg vs cs hl2 h1' hr =>
   obtain ⟨e2,h6⟩:=zh4 hs (vs:=vs) h5 l3 (fun i hi=>hi)
   exact .agg vs zs (by rw [e2];exact hl2) (fun j hj=>h1' j (by rw [← e2];exact hj)) (fun j hj=>h6 j hj (by rw [← e2];exact hj) _ (hr j (by rw [← e2];exact hj)))
 ·simp only [Option.map_eq_some_iff,Prod.mk.injEq] at h
  obtain ⟨⟨zs,l3⟩,h5,rfl,rfl⟩:=h
  cases hv with
  | tup vs cs hl2 hr =>
   obtain ⟨e2,h6⟩:=zq2 hs h5 l3 (fun i hi=>hi)
   exact .tup vs zs (by rw [e2];exact hl2) (fun j hj=>h6 j hj (by rw [← e2];exact hj) _ (hr j (by rw [← e2];exact hj)))
 ·simp only [Option.map_eq_some_iff,Prod.mk.injEq] at h
  obtain ⟨⟨zs,l3⟩,h5,rfl,rfl⟩:=h
  cases hv with
  | fn f vs cs hl2 hr =>
   obtain ⟨e2,h6⟩:=zh4 hs (vs:=vs) h5 l3 (fun i hi=>hi)
   exact .fn _ vs zs (by rw [e2];exact hl2) (fun j hj=>h6 j hj (by rw [← e2];exact hj) _ (hr j (by rw [← e2];exact hj)))
 ·exact zqa hs hv h l (fun i hi=>hi)
theorem zws (tm:List Dv) (l:List Nat):(tm.zipIdx.map fun (d,i)=>if l.contains i then d else Dv.junk).length=tm.length ∧
  ∀ j (h:j<tm.length) (h':j<(tm.zipIdx.map fun (d,i)=>if l.contains i then d else Dv.junk).length),(tm.zipIdx.map fun (d,i)=>if l.contains i then d else Dv.junk)[j]=if l.contains j then tm[j] else .junk:=by
 refine ⟨by simp,fun j h h'=>by simp⟩
theorem RepP.weak {w:World}{M:Nat→Prop}{v:Value}{b:Bool}{n:Nat}{cells:List Pv} (h:RepP w M v (.lst b n cells)):RepP w M v (.lst false n cells):=by
 cases h with
 | lst full n cells A cap us hn hf ha h1 hr=>exact .lst false n cells A cap us hn (by simp) ha h1 hr
theorem RepD.weak {v:Value}{d:Dv} (h:RepD w M H ρ v d):RepD w M H ρ v (weakD d):=by
 unfold weakD
 split
 ·cases h with
  | p _ _ h=>exact .p _ _ h.weak
 ·exact h
theorem zw4:∀ (l:List Nat) {vs:Array Value}{tm:List Dv},TOk w M H ρ vs tm→TOk w M H ρ vs (z3o l tm)
 | [],_,_,h=>h
 | i :: l,_,_,h=>zw4 l (h.setD (fun _=>(h.get i).weak))
theorem z8e [Gl] {g:Ghost}{s s':St}{a:Act} (hs:StOk X w s ρ a) (hn:s.nin≤s.heap.length) (h:zj7 g s=some s'):∃ ρ',StOk X w s' ρ' a∧Evo s.nin w s.heap ρ w s'.heap ρ'∧s'.nin=s.nin:=by
 cases g with
 | keep l =>
  simp only [zj7,keepD] at h
  obtain ⟨hml,hmask⟩:=zws s.tmps l
  generalize (s.tmps.zipIdx.map fun (d,i)=>if l.contains i then d else Dv.junk)=tm at *
  generalize zen s.heap 256 (List.range s.nin++zav tm) []=acc at *
  split at h
  ·rename_i hc
   simp only [Bool.and_eq_true,decide_eq_true_eq] at hc
   obtain ⟨h1,h2⟩:=hc
   have ha:=zlx h1
   simp only [Option.some.injEq] at h
   subst h
   have htm:TOk w (Mut X s.heap ρ) s.heap ρ a.tmps tm:=by
    refine ⟨by rw [hml];exact hs.tok.1,fun j hj=>?_⟩
    rw [hmask j (by rw [← hml];exact hj) hj]
    split
    ·exact hs.tok.2 j _
    ·exact .junk _
   refine ⟨accPl ρ acc,⟨hs.sim.take ha (fun b hb=>.inl hb) (fun b hb hl=>(hs.sim.live_x (zfm ha hl)).1 hb),htm.take ha (fun b hb=>?_),hs.defers⟩,zsz hs.sim ha h2,rfl⟩
   rcases hb with hb | hb
   ·exact .inl hb
   ·exact .inr (zfm ha hb)
  ·cases h
 | own t esz =>
  simp only [zj7] at h
  split at h
  ·rename_i hnil
   simp only [Option.some.injEq] at h
   subst h
   obtain ⟨he,hs'⟩:=zli hs.sim
   refine ⟨updPl ρ s.heap.length none,⟨hs',(hs.tok.evo he).setD (fun ht=>?_),hs.defers⟩,he.mono hn,rfl⟩
   have hv:=hs.tok.get t
   unfold zw9 at hnil
   split at hnil
   ·rename_i e
    rw [e] at hv
    obtain ⟨A,cap,us,ev,hle,hf,_⟩:=zku hv.toP
    rw [ev,hf rfl]
    exact .ref s.heap.length 0 0 esz A 0 (by simp) (Nat.le_refl _) (fun h=>absurd h (by omega))
   ·cases hnil
  ·simp only [Option.some.injEq] at h
   subst h
   exact ⟨ρ,hs,(Evo.refl ..).mono hn,rfl⟩
 | freeze t =>
  simp only [zj7] at h
  split at h
  ·rename_i x l hp
   simp only [Option.some.injEq] at h
   subst h
   obtain ⟨he,hs'⟩:=zgf l hs.sim
   exact ⟨ρ,⟨hs',(hs.tok.evo he).setD (fun ht=>.p _ _ (zrp hs.sim (hs.tok.get t) hp)),hs.defers⟩,he.mono hn,rfl⟩
  ·cases h
 | kill l =>
  simp only [zj7,Option.some.injEq] at h
  subst h
  exact ⟨ρ,⟨hs.sim,zys l hs.tok,hs.defers⟩,(Evo.refl ..).mono hn,rfl⟩
 | weak l =>
  simp only [zj7,Option.some.injEq] at h
  subst h
  exact ⟨ρ,⟨hs.sim,zw4 l hs.tok,hs.defers⟩,(Evo.refl ..).mono hn,rfl⟩
 | ownC t off esz =>
  have same:some s=some s'→∃ ρ',StOk X w s' ρ' a∧Evo s.nin w s.heap ρ w s'.heap ρ'∧s'.nin=s.nin:=by
   intro e
   simp only [Option.some.injEq] at e
   subst e
   exact ⟨ρ,hs,(Evo.refl ..).mono hn,rfl⟩
  simp only [zj7] at h
  split at h
  ·rename_i id o hptr
   split at h
   ·rename_i cs hid
    split at h
    ·rename_i hnil
     simp only [Option.some.injEq] at h
     subst h
     have hidl:id<s.heap.length:=(List.getElem?_eq_some_iff.1 hid).1
     obtain ⟨he,hs1⟩:=zli hs.sim
     have hid1:(s.heap++[Ob.arr []])[id]?=some (.var cs):=by rw [List.getElem?_append_left hidl];exact hid
     obtain ⟨b,bs,C,e,hx,hC,hcs⟩:=hs1.obs id _ hid1
     have hlt:o+off<cs.length:=by
      rcases Nat.lt_or_ge (o+off) cs.length with h | h
      ·exact h
      ·rw [List.getD_eq_getElem?_getD,List.getElem?_eq_none h] at hnil
       cases hnil
     have hev:Evo (s.heap++[Ob.arr []]).length w (s.heap++[Ob.arr []]) (updPl ρ s.heap.length none) w ((s.heap++[Ob.arr []]).set id (.var (cs.set (o+off) (.ref s.heap.length 0 0 esz)))) (updPl ρ s.heap.length none) :=
      Evo.setOb rfl rfl rfl rfl (fun _ _=>rfl) (fun b D h=>⟨D,h,rfl⟩) (fun _=>⟨_,hid1,rfl⟩) (fun _=>⟨_,hid1,rfl⟩)
     have hsim:Sim X w ((s.heap++[Ob.arr []]).set id (.var (cs.set (o+off) (.ref s.heap.length 0 0 esz)))) (updPl ρ s.heap.length none):=by
      refine hs1.setOb rfl rfl rfl rfl (fun _ _=>rfl) (fun b D h=>⟨D,h,rfl⟩) (fun _=>⟨_,hid1,rfl⟩) (fun _=>⟨_,hid1,rfl⟩) (fun _=>?_)
      have hcs':=hcs.evo hev
      refine ⟨b,bs,C,e,hx,hC,by rw [List.length_set];exact hcs'.1,fun j hj=>?_⟩
      rw [List.length_set] at hj
      refine ⟨(hcs'.2 j hj).1, ?_⟩
      by_cases hjo:o+off=j
      ·subst hjo
       rw [List.getElem_set_self]
       have hv:=(hcs'.2 _ hlt).2
       have hc:cs[o+off]=.p (.lst true 0 []):=by
        rw [List.getD_eq_getElem?_getD,List.getElem?_eq_getElem hlt,Option.getD_some] at hnil
        unfold zw9 at hnil
        split at hnil
        ·assumption
        ·cases hnil
       rw [hc] at hv
       obtain ⟨A,cap,us,ev,hle,hf,_⟩:=zku hv.toP
       rw [ev,hf rfl]
       exact .ref s.heap.length 0 0 esz A 0 (by simp) (Nat.le_refl _) (fun h=>absurd h (by omega))
      ·rw [List.getElem_set_ne hjo]
       exact (hcs'.2 j hj).2
     have e2:(s.heap++[Ob.arr []]).set id (.var (cs.set (o+off) (.ref s.heap.length 0 0 esz)))=s.heap.set id (.var (cs.set (o+off) (.ref s.heap.length 0 0 esz)))++[.arr []]:=List.set_append_left _ _ hidl
     rw [e2] at hsim hev
     exact ⟨updPl ρ s.heap.length none,⟨hsim,(hs.tok.evo he).evo hev,hs.defers⟩,(he.mono hn).trans (hev.mono (by simp only [List.length_append,List.length_cons,List.length_nil];omega)),rfl⟩
    ·exact same h
   ·exact same h
  ·exact same h
 | trim t =>
  have same:some s=some s'→∃ ρ',StOk X w s' ρ' a∧Evo s.nin w s.heap ρ w s'.heap ρ'∧s'.nin=s.nin:=by
   intro e
   simp only [Option.some.injEq] at e
   subst e
   exact ⟨ρ,hs,(Evo.refl ..).mono hn,rfl⟩
  simp only [zj7] at h
  split at h
  ·rename_i id off n esz hptr
   split at h
   ·rename_i cs hid
    simp only [Option.some.injEq] at h
    subst h
    have hev:Evo s.heap.length w s.heap ρ w (s.heap.set id (.arr (cs.take (off+n*esz)))) ρ:=Evo.setOb rfl rfl rfl rfl (fun _ _=>rfl) (fun b D h=>⟨D,h,rfl⟩) (fun _=>⟨_,hid,rfl⟩) (fun _=>⟨_,hid,rfl⟩)
    refine ⟨ρ,⟨hs.sim.setOb rfl rfl rfl rfl (fun _ _=>rfl) (fun b D h=>⟨D,h,rfl⟩) (fun _=>⟨_,hid,rfl⟩) (fun _=>⟨_,hid,rfl⟩) (fun _=>?_),hs.tok.evo hev,hs.defers⟩,hev.mono hn,rfl⟩
    rcases hs.sim.obs id _ hid with ⟨h0,e⟩ | ⟨b,bs,C,e,hx,hC,hcs⟩
    ·exact .inl ⟨by rw [h0];simp,e⟩
    ·have hcs':=hcs.evo hev
     refine .inr ⟨b,bs,C,e,hx,hC,by have:=hcs'.1;simp only [List.length_take];omega,fun j hj=>?_⟩
     have hj':j<cs.length:=by simp only [List.length_take] at hj;omega
     rw [List.getElem_take]
     exact hcs'.2 j hj'
   ·exact same h
  ·exact same h
 | vary t =>
  have same:some s=some s'→∃ ρ',StOk X w s' ρ' a∧Evo s.nin w s.heap ρ w s'.heap ρ'∧s'.nin=s.nin:=by
   intro e
   simp only [Option.some.injEq] at e
   subst e
   exact ⟨ρ,hs,(Evo.refl ..).mono hn,rfl⟩
  simp only [zj7] at h
  split at h
  ·rename_i id off n esz hptr
   split at h
   ·rename_i c cs hid
    simp only [Option.some.injEq] at h
    subst h
    have hev:Evo s.heap.length w s.heap ρ w (s.heap.set id (.var ((c :: cs).map .p))) ρ:=Evo.setOb rfl rfl rfl rfl (fun _ _=>rfl) (fun b D h=>⟨D,h,rfl⟩) (fun _=>⟨_,hid,rfl⟩) (fun _=>⟨_,hid,rfl⟩)
    refine ⟨ρ,⟨hs.sim.setOb rfl rfl rfl rfl (fun _ _=>rfl) (fun b D h=>⟨D,h,rfl⟩) (fun _=>⟨_,hid,rfl⟩) (fun _=>⟨_,hid,rfl⟩) (fun _=>?_),hs.tok.evo hev,hs.defers⟩,hev.mono hn,rfl⟩
    rcases hs.sim.obs id _ hid with ⟨h0,_⟩ | ⟨b,bs,C,e,hx,hC,hcs⟩
    ·cases h0
    ·have hcs':=hcs.evo hev
     refine ⟨b,bs,C,e,hx,hC,by rw [List.length_map];exact hcs'.1,fun j hj=>?_⟩
     rw [List.length_map] at hj
     rw [List.getElem_map]
     exact ⟨(hcs'.2 j hj).1,.p _ _ (hcs'.2 j hj).2⟩
   ·exact same h
  ·exact same h
 | pack t =>
  have same:some s=some s'→∃ ρ',StOk X w s' ρ' a∧Evo s.nin w s.heap ρ w s'.heap ρ'∧s'.nin=s.nin:=by
   intro e
   simp only [Option.some.injEq] at e
   subst e
   exact ⟨ρ,hs,(Evo.refl ..).mono hn,rfl⟩
  simp only [zj7] at h
  split at h
  ·rename_i id off hptr
   split at h
   ·rename_i ds hid
    split at h
    ·rename_i cs hcs0
     simp only [Option.some.injEq] at h
     subst h
     obtain rfl:=zin hcs0
     have hev:Evo s.heap.length w s.heap ρ w (s.heap.set id (.arr cs)) ρ:=Evo.setOb rfl rfl rfl rfl (fun _ _=>rfl) (fun b D h=>⟨D,h,rfl⟩) (fun _=>⟨_,hid,rfl⟩) (fun _=>⟨_,hid,rfl⟩)
     refine ⟨ρ,⟨hs.sim.setOb rfl rfl rfl rfl (fun _ _=>rfl) (fun b D h=>⟨D,h,rfl⟩) (fun _=>⟨_,hid,rfl⟩) (fun _=>⟨_,hid,rfl⟩) (fun _=>?_),hs.tok.evo hev,hs.defers⟩,hev.mono hn,rfl⟩
     obtain ⟨b,bs,C,e,hx,hC,hcs⟩:=hs.sim.obs id _ hid
     exact .inr ⟨b,bs,C,e,hx,hC,hcs.pure.evo hev⟩
    ·exact same h
   ·exact same h
  ·exact same h
 | packV t =>
  have same:some s=some s'→∃ ρ',StOk X w s' ρ' a∧Evo s.nin w s.heap ρ w s'.heap ρ'∧s'.nin=s.nin:=by
   intro e
   simp only [Option.some.injEq] at e
   subst e
   exact ⟨ρ,hs,(Evo.refl ..).mono hn,rfl⟩
  simp only [zj7] at h
  split at h
  ·rename_i v off hptr
   split at h
   ·rename_i id o1 n1 e1 hv
    split at h
    ·rename_i ds hid
     split at h
     ·rename_i cs l hpu
      split at h
      ·exact same h
      ·rename_i hnot
       simp only [Option.some.injEq] at h
       subst h
       obtain ⟨he,hs1⟩:=zgf l hs.sim
       have hid1:(zan s.heap l)[id]?=some (.var ds):=by rw [zkl l s.heap hnot];exact hid
       have hev:Evo (zan s.heap l).length w (zan s.heap l) ρ w ((zan s.heap l).set id (.arr cs)) ρ:=Evo.setOb rfl rfl rfl rfl (fun _ _=>rfl) (fun b D h=>⟨D,h,rfl⟩) (fun _=>⟨_,hid1,rfl⟩) (fun _=>⟨_,hid1,rfl⟩)
       refine ⟨ρ,⟨hs1.setOb rfl rfl rfl rfl (fun _ _=>rfl) (fun b D h=>⟨D,h,rfl⟩) (fun _=>⟨_,hid1,rfl⟩) (fun _=>⟨_,hid1,rfl⟩) (fun _=>?_),(hs.tok.evo he).evo hev,hs.defers⟩,(he.mono hn).trans (hev.mono (by rw [zcs];exact hn)),rfl⟩
       obtain ⟨b,bs,C,e,hx,hC,hcs⟩:=hs.sim.obs id _ hid
       obtain ⟨e2,h6⟩:=zh4 hs.sim (vs:=#[]) hpu l (fun i hi=>hi)
       have hP:CellsP w (Mut X (zan s.heap l) ρ) C bs cs:=⟨by rw [e2];exact hcs.1,fun j hj=>⟨(hcs.2 j (by omega)).1,h6 j hj (by omega) _ (hcs.2 j (by omega)).2⟩⟩
       exact .inr ⟨b,bs,C,e,hx,hC,hP.evo hev⟩
     ·exact same h
    ·exact same h
   ·exact same h
  ·exact same h
theorem zvb [Gl]:∀ {l:List Ghost}{s s':St}{ρ:Pl}{a:Act},StOk X w s ρ a→s.nin≤s.heap.length→zaj l s=some s'→∃ ρ',StOk X w s' ρ' a∧Evo s.nin w s.heap ρ w s'.heap ρ'∧s'.nin=s.nin
 | [],s,s',ρ,a,hs,hn,h=>by
  simp only [zaj,Option.some.injEq] at h
  subst h
  exact ⟨ρ,hs,(Evo.refl ..).mono hn,rfl⟩
 | g :: l,s,s',ρ,a,hs,hn,h=>by
  simp only [zaj,Option.bind_eq_some_iff] at h
  obtain ⟨s1,h1,h2⟩:=h
  obtain ⟨ρ1,k1,k2,k3⟩:=z8e hs hn h1
  obtain ⟨ρ2,k4,k5,k6⟩:=zvb k1 (by rw [k3];exact k2.len') h2
  rw [k3] at k5
  exact ⟨ρ2,k4,k2.trans k5,k6.trans k3⟩
def Ex.toExit:Ex→Exit
 | .normal=>.normal
 | .exit id=>.exit id
 | .ret=>.ret
theorem znn [Gl] {call:CallF} (hc:zir P call) {A:Ann}{quiet:Bool}{ops:Array Oper}:∀ {l:List Oper}{s s':St},opsD P A call quiet ops l s=some s'→s'.nin=s.nin
 | [],s,s',h=>by simp only [opsD,Option.some.injEq] at h;subst h;rfl
 | o :: l,s,s',h=>by
  simp only [opsD,Option.bind_eq_some_iff] at h
  obtain ⟨s1,h1,h2⟩:=h
  exact (znn hc h2).trans (z8y hc h1)
theorem yfn [Gl] {call:CallF} (hc:zir P call) (hN:Names P) (hm:P.follows .mixedOrders=true) {A:Ann}{k:Nat}{fid:FuncId}:∀ (c:Code),zkw A fid c=true →
  ∀ (s s':St) (ex:Ex) (w:World) (ρ:Pl) (a:Act) (Q:Exit→Act→World→Prop),evC P A call k fid c s=some (ex,s')→StOk X w s ρ a→s.nin≤s.heap.length →
  (∀ w' ρ' a',Evo s.nin w s.heap ρ w' s'.heap ρ'→StOk X w' s' ρ' a'→s'.nin=s.nin→Q ex.toExit a' w')→c.wp P Q a w:=by
 intro c
 induction c with
 | skip =>
  intro _ s s' ex w ρ a Q h hs hn hQ
  simp only [evC,Option.some.injEq,Prod.mk.injEq] at h
  obtain ⟨rfl,rfl⟩:=h
  exact wp_skip (hQ w ρ a ((Evo.refl ..).mono hn) hs rfl)
 | label l =>
  intro _ s s' ex w ρ a Q h hs hn hQ
  simp only [evC,Option.some.injEq,Prod.mk.injEq] at h
  obtain ⟨rfl,rfl⟩:=h
  exact wp_label (hQ w ρ a ((Evo.refl ..).mono hn) hs rfl)
 | ret =>
  intro _ s s' ex w ρ a Q h hs hn hQ
  simp only [evC,Option.some.injEq,Prod.mk.injEq] at h
  obtain ⟨rfl,rfl⟩:=h
  exact wp_ret (hQ w ρ a ((Evo.refl ..).mono hn) hs rfl)
 | exit id =>
  intro _ s s' ex w ρ a Q h hs hn hQ
  simp only [evC,Option.some.injEq,Prod.mk.injEq] at h
  obtain ⟨rfl,rfl⟩:=h
  exact wp_exit (hQ w ρ a ((Evo.refl ..).mono hn) hs rfl)
 | region id ops draw =>
  intro hB s s' ex w ρ a Q h hs hn hQ
  simp only [evC,Option.bind_eq_some_iff] at h
  obtain ⟨s1,h1,s2,h2,h3⟩:=h
  obtain ⟨ρ1,k1,k2,k3⟩:=zvb hs hn h1
  simp only [zkw] at hB
  unfold endR at h3
  cases hx:A.lp fid id with
  | some pairs =>
   rw [hx] at hB h3
   simp only [] at hB h3
   split at h3
   ·rename_i hd
    simp only [Option.some.injEq,Prod.mk.injEq] at h3
    obtain ⟨rfl,rfl⟩:=h3
    cases draw with
    | false=>exact wp_region_list (zs5 hc hN ops.toList s1 s2 w ρ1 a k1 h2 k2.len' (fun w' ρ' a' he hs'=>hQ w' ρ' a' (k2.trans he) hs' ((znn hc h2).trans k3)))
    | true =>
     simp only [Bool.not_true,Bool.false_or,Bool.and_eq_true] at hB hd
     simp only [Bool.true_and] at h2
     exact zy1 hc hN hm hB k1 h2 hd k2.len' (fun w' ρ' a' he hs'=>hQ w' ρ' a' (k2.trans he) hs' ((znn hc h2).trans k3))
   ·cases h3
  | none =>
  rw [hx] at hB h3
  simp only [] at hB h3
  cases hy:A.dyn fid id with
  | none =>
   rw [hy] at hB h3
   simp only [Option.some.injEq,Prod.mk.injEq] at h3
   obtain ⟨rfl,rfl⟩:=h3
   exact z3t hc hN hm hB k1 h2 (n:=s.nin) k2.len' (fun w' ρ' a' he hs'=>hQ w' ρ' a' (k2.trans he) hs' ((znn hc h2).trans k3))
  | some pairs =>
   rw [hy] at hB h3
   simp only [] at hB h3
   split at h3
   ·rename_i hd
    simp only [Option.some.injEq,Prod.mk.injEq] at h3
    obtain ⟨rfl,rfl⟩:=h3
    cases draw with
    | false=>exact wp_region_list (zs5 hc hN ops.toList s1 s2 w ρ1 a k1 h2 k2.len' (fun w' ρ' a' he hs'=>hQ w' ρ' a' (k2.trans he) hs' ((znn hc h2).trans k3)))
    | true =>
     simp only [Bool.not_true,Bool.false_or,Bool.and_eq_true,Bool.not_eq_true'] at hB hd
     obtain ⟨hq,hB⟩:=hB
     simp only [hq,Bool.not_false,Bool.and_self] at h2
     exact zzc hc hN hm hB k1 h2 hd k2.len' (fun w' ρ' a' he hs'=>hQ w' ρ' a' (k2.trans he) hs' ((znn hc h2).trans k3))
   ·cases h3
 | seq x y ihx ihy =>
  intro hB s s' ex w ρ a Q h hs hn hQ
  simp only [zkw,Bool.and_eq_true] at hB
  simp only [evC] at h
  apply wp_seq
  split at h
  ·rename_i s1 h1
   refine ihx hB.1 s s1 .normal w ρ a _ h1 hs hn (fun w1 ρ1 a1 he hs1 e1=>?_)
   exact ihy hB.2 s1 s' ex w1 ρ1 a1 Q h hs1 (by rw [e1];exact he.len') (fun w' ρ' a' he' hs' e2=>hQ w' ρ' a' (he.trans (e1 ▸ he')) hs' (e2.trans e1))
  ·rename_i hne
   refine ihx hB.1 s s' ex w ρ a _ h hs hn (fun w1 ρ1 a1 he hs1 e1=>?_)
   have:=hQ w1 ρ1 a1 he hs1 e1
   cases ex with
   | normal=>exact absurd h (hne s')
   | exit id=>exact this
   | ret=>exact this
 | cond c x y ihx ihy =>
  intro hB s s' ex w ρ a Q h hs hn hQ
  simp only [zkw,Bool.and_eq_true] at hB
  simp only [evC] at h
  split at h
  ·rename_i b hb
   refine wp_cond (zya (zr1 hs.sim hs.tok c) hb) ?_
   cases b with
   | true=>exact ihx hB.1 s s' ex w ρ a Q (by simpa using h) hs hn hQ
   | false=>exact ihy hB.2 s s' ex w ρ a Q (by simpa using h) hs hn hQ
  ·cases h
 | block id x ih =>
  intro hB s s' ex w ρ a Q h hs hn hQ
  simp only [evC] at h
  apply wp_block
  split at h
  ·rename_i id' s1 h1
   split at h
   ·rename_i hid
    simp only [Option.some.injEq,Prod.mk.injEq] at h
    obtain ⟨rfl,rfl⟩:=h
    refine ih hB s s1 (.exit id') w ρ a _ h1 hs hn (fun w1 ρ1 a1 he hs1 e1=>?_)
    simp only [Ex.toExit,Exit.inBlock,hid,if_true]
    exact hQ w1 ρ1 a1 he hs1 e1
   ·rename_i hid
    simp only [Option.some.injEq,Prod.mk.injEq] at h
    obtain ⟨rfl,rfl⟩:=h
    refine ih hB s s1 (.exit id') w ρ a _ h1 hs hn (fun w1 ρ1 a1 he hs1 e1=>?_)
    simp only [Ex.toExit,Exit.inBlock,hid,if_false]
    exact hQ w1 ρ1 a1 he hs1 e1
  ·rename_i hne
   refine ih hB s s' ex w ρ a _ h hs hn (fun w1 ρ1 a1 he hs1 e1=>?_)
   have:=hQ w1 ρ1 a1 he hs1 e1
   cases ex with
   | normal=>exact this
   | exit id'=>exact absurd h (hne id' s')
   | ret=>exact this
 | loop x ih =>
  intro hB s s' ex w ρ a Q h hs hn hQ
  simp only [evC] at h
  have key:∀ (j:Nat) (s s':St) (ex:Ex) (w:World) (ρ:Pl) (a:Act),loopD (evC P A call k fid x) j s=some (ex,s')→StOk X w s ρ a→s.nin≤s.heap.length →
    (∀ w' ρ' a',Evo s.nin w s.heap ρ w' s'.heap ρ'→StOk X w' s' ρ' a'→s'.nin=s.nin→Q ex.toExit a' w')→Code.rounds P x Q j a w:=by
   intro j
   induction j with
   | zero=>intro s s' ex w ρ a h;simp [loopD] at h
   | succ j ihj =>
    intro s s' ex w ρ a h hs hn hQ
    simp only [loopD] at h
    rw [rounds_succ]
    split at h
    ·rename_i s1 h1
     refine ih hB s s1 .normal w ρ a _ h1 hs hn (fun w1 ρ1 a1 he hs1 e1=>?_)
     exact ihj s1 s' ex w1 ρ1 a1 h hs1 (by rw [e1];exact he.len') (fun w' ρ' a' he' hs' e2=>hQ w' ρ' a' (he.trans (e1 ▸ he')) hs' (e2.trans e1))
    ·rename_i hne
     refine ih hB s s' ex w ρ a _ h hs hn (fun w1 ρ1 a1 he hs1 e1=>?_)
     have:=hQ w1 ρ1 a1 he hs1 e1
     cases ex with
     | normal=>exact absurd h (hne s')
     | exit id=>exact this
     | ret=>exact this
  exact wp_loop_rounds k (key k s s' ex w ρ a h hs hn hQ)
 | _=>intro _ s s' ex w ρ a Q h;simp [evC] at h
def ztw (tmps:Array Value):ResultVar→Sem Value
 | .tmp t=>pure (tmps.getD t undef)
 | .cell a t=>do loadVar t (← asAddr (tmps.getD a undef))
def oneV:List Value→Value
 | [v]=>v
 | vs=>.tuple vs.toArray
theorem z22 [Gl] {s:St}{a:Act} (hst:StOk X w s ρ a):∀ {l:List ResultVar}{ds:List Dv},resD P s l=some ds →
  ∃ vs:List Value,(l.mapM (ztw a.tmps)).run P w=.ok vs w∧vs.length=ds.length∧∀ j (h1:j<vs.length) (h2:j<ds.length),RepD w (Mut X s.heap ρ) s.heap ρ vs[j] ds[j]
 | [],ds,h=>by
  simp only [resD,Option.some.injEq] at h
  subst h
  exact ⟨[],rfl,rfl,fun j h1=>absurd h1 (by simp)⟩
 | .tmp t :: l,ds,h=>by
  simp only [resD,Option.map_eq_some_iff] at h
  obtain ⟨ds',h1,rfl⟩:=h
  obtain ⟨vs,h2,h3,h4⟩:=z22 hst h1
  refine ⟨a.tmps.getD t undef :: vs, ?_,by simp [h3],fun j h5 h6=>?_⟩
  ·simp only [List.mapM_cons,ztw,Sem.run_bind,Sem.run_pure,Result.andThen_ok,h2]
  ·cases j with
   | zero=>exact hst.tok.get t
   | succ j=>exact h4 j (by simpa using h5) (by simpa using h6)
 | .cell c t :: l,ds,h=>by
  simp only [resD] at h
  split at h
  ·rename_i d ds' h1 h2
   simp only [Option.some.injEq] at h
   subst h
   obtain ⟨vs,h3,h4,h5⟩:=z22 hst h2
   have hc:=hst.tok.get c
   obtain ⟨v,h6,h7⟩:=zo3 hst.sim hc h1
   have hptr:∃ ad,a.tmps.getD c undef=.pointer (some ad):=by
    unfold loadD at h1
    split at h1
    ·cases h1
    ·generalize hcd:s.tmps.getD c .junk=cd at *
     split at h1
     ·exact zqh hc
     ·exact zor hc.toP
     ·cases h1
   obtain ⟨ad,had⟩:=hptr
   rw [had,zhm] at h6
   refine ⟨v :: vs, ?_,by simp [h4],fun j h8 h9=>?_⟩
   ·have e:(ztw a.tmps (.cell c t)).run P w=.ok v w:=by
     show (asAddr (a.tmps.getD c undef) >>= fun x=>loadVar t x:Sem Value).run P w=.ok v w
     rw [had];simp only [asAddr,Sem.run_bind,Sem.run_pure,Result.andThen_ok,h6]
    rw [List.mapM_cons,Sem.run_bind,e]
    simp only [Result.andThen_ok,Sem.run_bind,h3,Sem.run_pure]
   ·cases j with
    | zero=>exact h7
    | succ j=>exact h5 j (by simpa using h8) (by simpa using h9)
  ·cases h
theorem z0o (fn:Func) (tmps:Array Value):results fn tmps=(fn.results.mapM (ztw tmps)) >>= fun vs=>pure (if h:vs.size=1 then vs[0] else .tuple vs):=by
 unfold results
 congr 1
theorem zwj {fn:Func}{a:Act}{vs:List Value} (h:(fn.results.toList.mapM (ztw a.tmps)).run P w=.ok vs w):(results fn a.tmps).run P w=.ok (oneV vs) w:=by
 rw [z0o,Array.mapM_eq_mapM_toList]
 simp only [Sem.run_bind,Sem.run_map,h,Result.andThen_ok,Sem.run_pure]
 congr 1
 match vs with
 | []=>rfl
 | [v]=>rfl
 | v :: u :: vs=>simp [oneV]
theorem yiq {vs:List Value}{ds:List Dv} (hl:vs.length=ds.length) (h:∀ j (h1:j<vs.length) (h2:j<ds.length),RepD w M H ρ vs[j] ds[j]) :
  RepD w M H ρ (oneV vs) (oneD ds):=by
 match vs,ds,hl with
 | [],[],_=>exact RepD.mkTup (vs:=#[]) (ds:=[]) ⟨rfl,fun j hj=>absurd hj (by simp)⟩
 | [v],[d],_=>exact h 0 (by simp) (by simp)
 | v :: u :: vs,d :: e :: ds,hl =>
  refine RepD.mkTup (ds:=d :: e :: ds) ⟨by simpa using hl,fun j hj=>?_⟩
  have h1:j<(v :: u :: vs).length:=by rw [hl];exact hj
  have h2:=h j h1 hj
  have e:(v :: u :: vs).toArray.getD j undef=(v :: u :: vs)[j]:=by
   rw [Array.getD_eq_getD_getElem?,List.getElem?_toArray,List.getElem?_eq_getElem h1];rfl
  rw [e];exact h2
theorem z14 [Gl] {A:Ann}{f:FuncId}{fn:Func}{s:St}{a:Act}{r:Dv}{H':List Ob} (hst:StOk X w s ρ a) (hn:s.nin≤s.heap.length) (h:zap P A f fn s=some (r,H')) :
  ∃ v ρ',(results fn a.tmps).run P w=.ok v w∧Evo s.nin w s.heap ρ w H' ρ'∧Sim X w H' ρ'∧RepD w (Mut X H' ρ') H' ρ' v r:=by
 unfold zap at h
 simp only [Option.bind_eq_some_iff] at h
 obtain ⟨ds,h1,⟨d,H1⟩,h5,h⟩:=h
 obtain ⟨vs,h2,h3,h4⟩:=z22 hst h1
 have hr:=zwj h2
 have hone:=yiq h3 h4
 generalize oneV vs=v at *
 simp only [] at h
 have hd:Evo s.heap.length w s.heap ρ w H1 ρ∧Sim X w H1 ρ∧RepD w (Mut X H1 ρ) H1 ρ v d∧H1.length=s.heap.length:=by
  split at h5
  ·simp only [Option.some.injEq,Prod.mk.injEq] at h5
   obtain ⟨rfl,rfl⟩:=h5
   exact ⟨Evo.refl ..,hst.sim,hone,rfl⟩
  ·simp only [Option.map_eq_some_iff,Prod.mk.injEq] at h5
   obtain ⟨⟨x,l⟩,h6,rfl,rfl⟩:=h5
   obtain ⟨he,hs'⟩:=zgf l hst.sim
   exact ⟨he,hs',.p _ _ (zrp hst.sim hone h6).wk,zcs _ _⟩
 obtain ⟨he,hs',hrep,hl1⟩:=hd
 generalize zen H1 256 (List.range s.nin++za8 d) []=acc at *
 split at h
 ·rename_i hc
  simp only [Bool.and_eq_true,decide_eq_true_eq] at hc
  have ha:=zlx hc.1
  simp only [Option.some.injEq,Prod.mk.injEq] at h
  obtain ⟨rfl,rfl⟩:=h
  refine ⟨v,accPl ρ acc,hr,(he.mono hn).trans (zsz hs' ha hc.2),hs'.take ha (fun b hb=>.inl hb) (fun b hb hl=>(hs'.live_x (zfm ha hl)).1 hb), ?_⟩
  refine hrep.map (fun b hb=>?_) (fun i hi hlt=>⟨by rw [zjv];exact zrx (ha.refs i hi),fun hal=>zlu ha (ha.refs i hi) hal⟩)
  rcases hb with hb | hb
  ·exact .inl hb
  ·exact .inr (zfm ha hb)
 ·cases h
end
def ExtIs (P:Program) (k:ExtK) (e:Array Value→Sem Value):Prop :=
 match k with
 | .pure e'=>e=e'
 | .swap=>∃ b,e=Extern.ReflectliteSwapper.swap b
 | .swapper l=>∀ t f0 f1 f2 h,l.lookup t=some (f0,f1,f2,h)→∀ (w:World) (s:Option Addr) (n cap:Nat),
   (e #[.iface t (.slice s n cap)]).run P w=.ok (if n=0 then .func (.func f0) #[] #[] else if n=1 then .func (.func f1) #[] #[] else .func (.func f2) #[] #[.slice s n cap,typeHandle P h]) w
 | .valueOf=>e=fun args=>Extern.ReflectliteValue.unpack (args.getD 0 (.tuple #[]))
 | .valLen=>e=Extern.ReflectliteValue.method (Extern.ReflectliteValue.valueError "reflectlite.Value.Len" 0) Extern.ReflectliteValue.len
def ExtOk (P:Program) (A:Ann):Prop:=∀ (f:FuncId) (k:ExtK),A.outer f=some k→∃ fn e,P.funcs[f]?=some fn∧(fn.name == "runtime.NumGoroutine")=false∧fn.body.isNone=true∧Extern.findNext fn=none∧Extern.find fn=some e∧ExtIs P k e
section
variable {P : Program} {X M : Nat → Prop} {w : World} {H : List Ob} {ρ : Pl}
theorem zpj (t:TypeId) (a:Addr) (v:Value) (w:World):(Instr.storeAt t (.pointer (some a)) v).run P w=(storeVar t a v).run P w:=by
 simp [Instr.storeAt,Instr.sureAddr]
theorem z8z:RepD w M H ρ (.tuple #[]) (.p (.tup [])):=.p _ _ (.tup _ _ rfl fun j hj=>absurd hj (by simp))
theorem args1 {vs:Array Value}{d:Dv} (h:TOk w M H ρ vs [d]):∃ v,vs=#[v]∧RepD w M H ρ v d:=by
 have h1:vs.size=1:=h.1
 obtain ⟨v,rfl⟩:∃ v,vs=#[v]:=by
  refine ⟨vs[0], ?_⟩
  apply Array.ext<;>simp [h1]
  intro i hi;obtain rfl:i=0:=by omega
  rfl
 have:=h.get 0
 simp at this
 exact ⟨v,rfl,this⟩
theorem args4 {vs:Array Value}{d0 d1 d2 d3:Dv} (h:TOk w M H ρ vs [d0,d1,d2,d3]):∃ v0 v1 v2 v3,vs=#[v0,v1,v2,v3]∧RepD w M H ρ v0 d0∧RepD w M H ρ v1 d1∧RepD w M H ρ v2 d2∧RepD w M H ρ v3 d3:=by
 have h1:vs.size=4:=h.1
 obtain ⟨v0,v1,v2,v3,rfl⟩:∃ v0 v1 v2 v3,vs=#[v0,v1,v2,v3]:=by
  refine ⟨vs[0],vs[1],vs[2],vs[3], ?_⟩
  apply Array.ext<;>simp [h1]
  intro i hi
  rcases (show i=0∨i=1∨i=2∨i=3 by omega) with rfl | rfl | rfl | rfl<;>intros<;>rfl
 have e0:=h.get 0
 have e1:=h.get 1
 have e2:=h.get 2
 have e3:=h.get 3
 simp at e0 e1 e2 e3
 exact ⟨v0,v1,v2,v3,rfl,e0,e1,e2,e3⟩
theorem yb4 [Gl] (hs:Sim X w H ρ) {b:Bool}{vs:Array Value}{args:List Dv} (ht:TOk w (Mut X H ρ) H ρ vs args) {r:Dv}{H':List Ob} (h:extD P .swap args H=some (r,H')) :
  ∃ v w' ρ',(Extern.ReflectliteSwapper.swap b vs).run P w=.ok v w'∧Fin X w H ρ w' H' ρ' v r:=by
 unfold extD at h
 simp only [] at h
 split at h
 ·rename_i i j id off n esz hd
  simp only [Option.bind_eq_some_iff] at h
  obtain ⟨e,he,sz,hsz,h⟩:=h
  split at h
  ·rename_i hc
   obtain ⟨rfl,hi0,hin,hj0,hjn⟩:=hc
   simp only [Option.bind_eq_some_iff,Option.map_eq_some_iff,Prod.mk.injEq] at h
   obtain ⟨x,hx,y,hy,H1,h1,H2,h2,rfl,rfl⟩:=h
   obtain ⟨v0,v1,v2,v3,rfl,e0,e1,e2,e3⟩:=args4 ht
   have e0:=e0.toP.v_eq
   have e1:=e1.toP.v_eq
   have e3:=e3.toP.v_eq
   subst e0 e1 e3
   obtain ⟨A,cap,rfl,hid,hcap,ha⟩:=zks e2
   obtain ⟨a,rfl,hal⟩:=ha (by omega)
   have ptr:∀ (k:Nat),RepD w (Mut X H ρ) H ρ (.pointer (some (a.add (k*sz)))) (.ptr id (off+k*sz)):=by
    intro k
    refine .ptr id _ _ hid (fun hl=>?_)
    obtain ⟨b,bs,C,hb,rfl,_⟩:=hal hl
    exact ⟨b,bs,hb,by rw [zg1,Nat.add_assoc]⟩
   obtain ⟨xv,hx1,hx2⟩:=zo3 hs (ptr i.toNat) hx
   obtain ⟨yv,hy1,hy2⟩:=zo3 hs (ptr j.toNat) hy
   rw [zhm] at hx1 hy1
   obtain ⟨w1,s1,he1,hs1⟩:=zsw hs (ptr i.toNat) hy2 h1
   rw [zpj] at s1
   obtain ⟨w2,s2,he2,hs2⟩:=zsw hs1 ((ptr j.toNat).evo he1) (hx2.evo he1) h2
   rw [zpj] at s2
   have hl1:H.length≤H1.length:=he1.len'
   refine ⟨.tuple #[],w2,ρ, ?_,he1.trans (he2.mono hl1),hs2,z8z⟩
   have hoh:=zbp w he
   have hi1:¬ i<0:=by omega
   have hi2:¬ i ≥ n:=by omega
   have hj1:¬ j<0:=by omega
   have hj2:¬ j ≥ n:=by omega
   have hex:(Extern.ReflectliteSwapper.exchange e a i.toNat j.toNat).run P w=.ok (.tuple #[]) w2:=by
    simp [Extern.ReflectliteSwapper.exchange,zeu hsz,hx1,hy1,s1,s2]
   have hsw:Extern.ReflectliteSwapper.swap b #[.int .i64 i,.int .i64 j,.slice (some a) n cap,v3]=(do
     if b then
      if i<0 || i ≥ n then boundsPanic .i64 i n .index
      if j<0 || j ≥ n then boundsPanic .i64 j n .index
     else if i<0 || i ≥ n || j<0 || j ≥ n then Extern.ReflectliteSwapper.outOfRange
     Extern.ReflectliteSwapper.exchange (← Extern.Rtype.ofHandle v3) a i.toNat j.toNat):=rfl
   rw [hsw]
   cases b<;>simp [hi1,hi2,hj1,hj2,hoh,hex]
  ·cases h
 ·cases h
theorem zz0 [Gl] (hs:Sim X w H ρ) {vs:Array Value}{args:List Dv} (ht:TOk w (Mut X H ρ) H ρ vs args) {r:Dv}{H':List Ob} (h:extD P .valueOf args H=some (r,H')) :
  ∃ v w' ρ',(Extern.ReflectliteValue.unpack (vs.getD 0 (.tuple #[]))).run P w=.ok v w'∧Fin X w H ρ w' H' ρ' v r:=by
 unfold extD at h
 simp only [] at h
 split at h
 ·rename_i t id off n esz
  split at h
  ·rename_i hk
   simp only [Option.some.injEq,Prod.mk.injEq] at h
   obtain ⟨rfl,rfl⟩:=h
   obtain ⟨v,rfl,hv⟩:=args1 ht
   cases hv with
   | ifc _ v _ hv =>
    obtain ⟨A,cap,rfl,hid,hcap,ha⟩:=zks hv
    have hc:CellsD w (Mut X H ρ) H ρ #[.slice A n cap] 0 [.ref id off n esz]:=by
     refine ⟨by simp,fun j hj=>?_⟩
     obtain rfl:j=0:=by simpa using hj
     exact ⟨rfl,hv⟩
    obtain ⟨he,hs2⟩:=zr9 hs #[.slice A n cap] t [.ref id off n esz] hc
    refine ⟨.agg #[typeHandle P t,.pointer (some ⟨w.heap.size,0,none⟩),.int .u64 151],_,_, ?_,he,hs2, ?_⟩
    ·have hk2:=zbp { w with heap:=w.heap.push (.cells #[.slice A n cap] t) } hk
     have hk3:(Extern.Rtype.kind t).run P (w.alloc (.cells #[.slice A n cap] t))=.ok 23 (w.alloc (.cells #[.slice A n cap] t)):=hk2
     simp [Extern.ReflectliteValue.unpack,Extern.ReflectliteValue.mk,newVar,newRow,newObj,Sem.run,Value.cells,Extern.Rtype.handle,hk3,Extern.ReflectliteValue.flagIndir]
    ·refine .agg _ _ rfl (fun j hj=>?_) (fun j hj=>?_)
     ·rcases (show j=0∨j=1∨j=2 by simp only [List.length_cons,List.length_nil] at hj;omega) with rfl | rfl | rfl<;>rfl
     ·rcases (show j=0∨j=1∨j=2 by simp only [List.length_cons,List.length_nil] at hj;omega) with rfl | rfl | rfl
      ·exact .p _ _ (.v _)
      ·exact .ptr _ _ _ (by simp) (fun _=>⟨w.heap.size,0,zdm ..,rfl⟩)
      ·exact .p _ _ (.v _)
  ·cases h
 ·cases h
theorem z1h [Gl] (hs:Sim X w H ρ) {vs:Array Value}{args:List Dv} (ht:TOk w (Mut X H ρ) H ρ vs args) {r:Dv}{H':List Ob} (h:extD P .valLen args H=some (r,H')) :
  ∃ v w' ρ',(Extern.ReflectliteValue.method (Extern.ReflectliteValue.valueError "reflectlite.Value.Len" 0) Extern.ReflectliteValue.len vs).run P w=.ok v w'∧Fin X w H ρ w' H' ρ' v r:=by
 unfold extD at h
 simp only [] at h
 split at h
 ·rename_i hd id off
  simp only [Option.bind_eq_some_iff] at h
  obtain ⟨t,ho,_,hnp,u,hu,h⟩:=h
  split at h
  ·rename_i x1 x2 x3 e1 e2 i2 o2 n sz2 hdesc hund hld
   simp only [Option.some.injEq,Prod.mk.injEq] at h
   obtain ⟨rfl,rfl⟩:=h
   obtain ⟨v,rfl,hv⟩:=args1 ht
   cases hv with
   | agg vs _ hl h1 hr =>
    have q0:=hr 0 (by simp)
    have q1:=hr 1 (by simp)
    have q2:=hr 2 (by simp)
    simp only [List.getElem_cons_zero,List.getElem_cons_succ] at q0 q1 q2
    have hsz:vs.size=3:=hl
    obtain ⟨v0,v1,v2,rfl⟩:∃ v0 v1 v2,vs=#[v0,v1,v2]:=by
     refine ⟨vs[0],vs[1],vs[2], ?_⟩
     apply Array.ext<;>simp [hsz]
     intro i hi
     rcases (show i=0∨i=1∨i=2 by omega) with rfl | rfl | rfl<;>intros<;>rfl
    simp at q0 q1 q2
    have q0:=q0.toP.v_eq
    have q2:=q2.toP.v_eq
    subst q0 q2
    obtain ⟨xv,hx1,hx2⟩:=zo3 hs q1 hld
    obtain ⟨a,rfl⟩:∃ a,v1=.pointer (some a):=by cases q1 with | ptr _ _ a _ _=>exact ⟨a,rfl⟩
    rw [zhm] at hx1
    obtain ⟨A,cap,rfl,_,_,_⟩:=zks hx2
    refine ⟨goInt n,w,ρ, ?_,Evo.refl ..,hs,.p _ _ (.v _)⟩
    have a1:=zbp w ho
    have a2:=zbp w hnp
    have a3:=zbp w hu
    have hme:Extern.ReflectliteValue.method (Extern.ReflectliteValue.valueError "reflectlite.Value.Len" 0) Extern.ReflectliteValue.len #[.agg #[v0,.pointer (some a),.int .u64 151]]=(do
     match←Extern.ReflectliteValue.parts (.agg #[v0,.pointer (some a),.int .u64 151]) with
     | none=>Extern.ReflectliteValue.valueError "reflectlite.Value.Len" 0
     | some (t,a,fl)=>Extern.ReflectliteValue.len t a fl (fl % 32)):=rfl
    have hpa:Extern.ReflectliteValue.partsAny (.agg #[v0,.pointer (some a),.int .u64 151])=(do pure (some (← Extern.Rtype.ofHandle v0,a,(151:Int).toNat))):=rfl
    rw [hme]
    simp [Extern.ReflectliteValue.parts,hpa,a1,a2,Extern.ReflectliteValue.len,a3,hdesc,hx1,Builtin.len_,zb6 hund]
  ·cases h
 ·cases h
theorem yd7 [Gl] (hs:Sim X w H ρ) {k:ExtK}{e:Array Value→Sem Value} (hk:ExtIs P k e) {vs:Array Value}{args:List Dv} (ht:TOk w (Mut X H ρ) H ρ vs args) {r:Dv}{H':List Ob} (h:extD P k args H=some (r,H')) :
  ∃ v w' ρ',(e vs).run P w=.ok v w'∧Fin X w H ρ w' H' ρ' v r:=by
 cases k with
 | pure e' =>
  simp only [ExtIs] at hk
  subst hk
  simp only [extD,Option.bind_eq_some_iff,Option.map_eq_some_iff,Prod.mk.injEq] at h
  obtain ⟨us,hus,v,hv,rfl,rfl⟩:=h
  have e1:vs.toList=us:=zow (M:=Mut X H ρ) (H:=H) (ρ:=ρ) (w:=w) (ds:=args) (by simp [ht.1]) (fun j h3 h4=>by
   have:=ht.2 j h4
   have e2:vs.getD j undef=vs.toList[j]:=by simp at h3;simp [h3]
   rw [e2] at this;exact this) hus
  have e2:vs=us.toArray:=by rw [← e1]
  have h3:=zbp w hv
  rw [← e2] at h3
  exact ⟨v,w,ρ,h3,Evo.refl ..,hs,.p _ _ (.v _)⟩
 | swap =>
  obtain ⟨b,rfl⟩:=hk
  exact yb4 hs ht h
 | valueOf =>
  simp only [ExtIs] at hk
  subst hk
  exact zz0 hs ht h
 | valLen =>
  simp only [ExtIs] at hk
  subst hk
  exact z1h hs ht h
 | swapper l =>
  simp only [extD] at h
  split at h
  ·rename_i t id off n esz
   simp only [Option.map_eq_some_iff] at h
   obtain ⟨⟨f0,f1,f2,hd⟩,hl,h⟩:=h
   obtain ⟨v,rfl,hv⟩:=args1 ht
   cases hv with
   | ifc _ v _ hv =>
    obtain ⟨A,cap,rfl,hid,hcap,ha⟩:=zks hv
    have hrun:=hk t f0 f1 f2 hd hl w A n cap
    simp only [] at h
    have nofn:∀ f,RepD w (Mut X H ρ) H ρ (.func (.func f) #[] #[]) (.fn (.func f) []):=fun f=>.fn _ _ _ rfl fun j hj=>absurd hj (by simp)
    split at h
    ·rename_i h0
     simp only [Prod.mk.injEq] at h
     obtain ⟨rfl,rfl⟩:=h
     rw [if_pos h0] at hrun
     exact ⟨_,w,ρ,hrun,Evo.refl ..,hs,nofn _⟩
    ·rename_i h0
     rw [if_neg h0] at hrun
     split at h
     ·rename_i h1
      simp only [Prod.mk.injEq] at h
      obtain ⟨rfl,rfl⟩:=h
      rw [if_pos h1] at hrun
      exact ⟨_,w,ρ,hrun,Evo.refl ..,hs,nofn _⟩
     ·rename_i h1
      simp only [Prod.mk.injEq] at h
      obtain ⟨rfl,rfl⟩:=h
      rw [if_neg h1] at hrun
      refine ⟨_,w,ρ,hrun,Evo.refl ..,hs,.fn _ _ _ rfl fun j hj=>?_⟩
      rcases (show j=0∨j=1 by simp only [List.length_cons,List.length_nil] at hj;omega) with rfl | rfl
      ·exact hv
      ·exact .p _ _ (.v _)
  ·cases h
end
section
variable {P : Program} {X M : Nat → Prop} {w : World} {H : List Ob} {ρ : Pl}
def zov [Gl] (P:Program) (A:Ann):Prop:=∀ (f:FuncId) (fn:Func) (c:Code),A.okf f=true→P.funcs[f]?=some fn→fn.body=some c→zkw A f c=true
def zwa [Gl] (P:Program) (A:Ann):Prop:=∀ (f:FuncId) (sz:Nat),A.clone f=some sz→∀ (call:CallF) (oa:Option Addr) (cap:Nat),∃ k,
 runD P A call k f [.p (.v (.slice oa 0 cap))] []=some (.p (.lst true 0 []),[])∨(sz≠0∧runD P A call k f [.p (.v (.slice oa 0 cap))] []=some (.ref 0 0 0 sz,[.arr []]))∨(sz=0∧runD P A call k f [.p (.v (.slice oa 0 cap))] []=some (.p (.lst false 0 []),[]))
theorem zvx [Gl] (hN:Names P) (hm:P.follows .mixedOrders=true) {A:Ann} (hB:zov P A) {call:CallF} (hc:zir P call) (k:Nat):zir P (runD P A call k):=by
  intro f args H r H' h
  simp only [runD] at h
  split at h
  ·rename_i hok
   split at h
   ·rename_i fn hf
    split at h
    ·rename_i c hb
     refine fun X w ρ vs hs ht=>.inl ⟨⟨fn,c,hf,hb⟩, ?_⟩
     refine calls_of_wp hf hb ?_
     have hcode:=hB f fn c hok hf hb
     generalize hs0:({ tmps:=args++List.replicate (fn.ntmps - args.length) ze1,heap:=H,nin:=H.length }:St)=s0 at h
     have hst:StOk X w s0 ρ { tmps:=vs++Array.replicate (fn.ntmps - vs.size) undef,defers:=[] }:=by
      subst hs0
      refine ⟨hs, ?_,rfl⟩
      refine ht.append ⟨by simp [ht.1],fun j hj=>?_⟩
      simp only [List.length_replicate] at hj
      have e1:(Array.replicate (fn.ntmps - vs.size) undef).getD j undef=undef:=by
       rw [Array.getD_eq_getD_getElem?,Array.getElem?_replicate]
       split<;>rfl
      rw [e1]
      simp only [List.getElem_replicate]
      exact .p _ _ (.v _)
     have hn0:s0.nin≤s0.heap.length:=by subst hs0;exact Nat.le_refl _
     have hfin:∀ (ex:Ex) (s':St),(ex=.normal∨ex=.ret)→evC P A call k f c s0=some (ex,s')→zap P A f fn s'=some (r,H') →
       c.wp P (bodyPost P fn fun e w'=>∃ v ρ',e=.returned v∧Fin X w H ρ w' H' ρ' v r) { tmps:=vs++Array.replicate (fn.ntmps - vs.size) undef,defers:=[] } w:=by
      intro ex s' hex h1 h2
      refine yfn hc hN hm c hcode s0 s' ex w ρ _ _ h1 hst hn0 (fun w' ρ' a' he hs' e1=>?_)
      obtain ⟨v,ρ2,hr,he2,hsim,hrep⟩:=z14 hs' (by rw [e1];exact he.len') h2
      have hH:s0.heap=H:=by subst hs0;rfl
      have hni:s0.nin=H.length:=by subst hs0;rfl
      have hall:Evo H.length w H ρ w' H' ρ2:=by
       rw [hH,hni] at he
       rw [e1,hni] at he2
       exact he.trans he2
      rcases hex with rfl | rfl
      ·exact ⟨hs'.defers,v,hr,v,ρ2,rfl,hall,hsim,hrep⟩
      ·exact ⟨hs'.defers,v,hr,v,ρ2,rfl,hall,hsim,hrep⟩
     split at h
     ·rename_i s' h1
      exact hfin .normal s' (.inl rfl) h1 h
     ·rename_i s' h1
      exact hfin .ret s' (.inr rfl) h1 h
     ·cases h
    ·cases h
   ·cases h
  ·cases h
theorem zyi [Gl] (hN:Names P) (hm:P.follows .mixedOrders=true) {A:Ann} (hB:zov P A) (hC:zwa P A) (hE:ExtOk P A):∀ k,zir P (callN P A k)
 | 0=>by intro f args H r H' h;simp [callN] at h
 | k+1=>by
  have hc:=zyi hN hm hB hC hE k
  intro f args H r H' h
  simp only [callN] at h
  split at h
  ·rename_i kx hkx
   obtain ⟨fn,e,hf,hname,hbody,hnext,hfind,his⟩:=hE f kx hkx
   intro X w ρ vs hs ht
   obtain ⟨v,w',ρ',hrun,hfin⟩:=yd7 hs his ht h
   refine .inr ⟨v,w', ?_,v,ρ',rfl,hfin⟩
   rw [run_callFunc_extern hf hname hbody hnext hfind,hrun]
   rfl
  split at h
  ·exact zvx hN hm hB hc k f args H r H' h
  ·rename_i sz hcl
   split at h
   ·rename_i he
    simp only [Option.some.injEq] at h
    unfold zjm at he
    split at he
    ·rename_i b
     have exact_:∀ (oa:Option Addr) (cap:Nat),∃ r0 H0 k',runD P A (callN P A k) k' f [.p (.v (.slice oa 0 cap))] []=some (r0,H0)∧((r0=.p (.lst true 0 [])∧H0=[])∨(sz≠0∧r0=.ref 0 0 0 sz∧H0=[.arr []])∨(sz=0∧r0=.p (.lst false 0 [])∧H0=[])):=by
      intro oa cap
      obtain ⟨k',h1 | ⟨h0,h1⟩ | ⟨h0,h1⟩⟩:=hC f sz hcl (callN P A k) oa cap
      ·exact ⟨_,_,k',h1,.inl ⟨rfl,rfl⟩⟩
      ·exact ⟨_,_,k',h1,.inr (.inl ⟨h0,rfl,rfl⟩)⟩
      ·exact ⟨_,_,k',h1,.inr (.inr ⟨h0,rfl,rfl⟩)⟩
     refine fun X w ρ vs hs ht=>?_
     ·have hsz:vs.size=1:=ht.1
      have hv:=ht.get 0
      simp only [List.getD_cons_zero] at hv
      obtain ⟨A',cap,us,ev,hle,hf,_⟩:=zku hv.toP
      obtain ⟨r0,H0,k',h1,hr⟩:=exact_ A' cap
      have ht2:TOk w (Mut X [] ρ) [] ρ vs [.p (.v (.slice A' 0 cap))]:=by
       refine ⟨hsz,fun j hj=>?_⟩
       obtain rfl:j=0:=by simpa using hj
       rw [ev]
       exact .p _ _ (.v _)
      refine (zvx hN hm hB hc k' f _ _ _ _ h1 X w ρ vs hs ht2).mono ?_
      rintro e w' ⟨v,ρ',rfl,hfin⟩
      rcases hr with ⟨rfl,rfl⟩ | ⟨h0,rfl,rfl⟩ | ⟨h0,rfl,rfl⟩
      ·by_cases h0:sz=0
       ·rw [if_pos h0] at h
        simp only [Prod.mk.injEq] at h
        obtain ⟨rfl,rfl⟩:=h
        exact ⟨v,ρ',rfl,hfin.evo,hfin.sim,.p _ _ hfin.rep.toP.weak⟩
       rw [if_neg h0] at h
       simp only [Prod.mk.injEq] at h
       obtain ⟨rfl,rfl⟩:=h
       obtain ⟨he,hs1⟩:=zli hfin.sim
       refine ⟨v,_,rfl,hfin.evo.trans (he.mono (Nat.le_refl _)),hs1, ?_⟩
       obtain ⟨A2,cap2,us2,ev2,hle2,hf2,_⟩:=zku hfin.rep.toP
       rw [ev2,hf2 rfl]
       exact .ref 0 0 0 sz A2 0 (by simp) (Nat.le_refl _) (fun h=>absurd h (by omega))
      ·rw [if_neg h0] at h
       simp only [Prod.mk.injEq] at h
       obtain ⟨rfl,rfl⟩:=h
       exact ⟨v,ρ',rfl,hfin⟩
      ·rw [if_pos h0] at h
       simp only [Prod.mk.injEq] at h
       obtain ⟨rfl,rfl⟩:=h
       exact ⟨v,ρ',rfl,hfin⟩
    ·cases he
   ·exact zvx hN hm hB hc k f args H r H' h
end
end Go.Ev

set_option linter.unusedVariables false
set_option linter.unusedSimpArgs false
namespace Go.Ev
def zkx (c c':CallF):Prop:=∀ f args H r,c f args H=some r→c' f args H=some r
theorem zrn {c c':CallF} (hc:zkx c c') {A:Ann}{H:List Ob}{f:FuncId}{args:List Dv}{r:Dv×Option (List Ob)} (h:callD c A H f args=some r):callD c' A H f args=some r:=by
 simp only [callD] at h ⊢
 generalize (if (A.muts f || A.ros f)=true then (args.map (wkA A f),[]) else giveD H args)=gv at *
 split at h
 ·rename_i ha
  rw [if_pos ha]
  rw [Option.bind_eq_some_iff] at h ⊢
  obtain ⟨x,h1,h2⟩:=h
  exact ⟨x,hc _ _ _ _ h1,h2⟩
 ·cases h
theorem z79 [Gl] {P:Program}{A:Ann}{c c':CallF} (hc:zkx c c') {tm:List Dv}{H:List Ob}{o:Oper}{r:Dv×Option (List Ob)} (h:opD P A c tm H o=some r):opD P A c' tm H o=some r:=by
 unfold opD at h ⊢
 split at h<;>first | exact h | skip
 rename_i cc _
 split at h
 ·exact h
 ·simp only [] at h ⊢
  split at h
  ·exact zrn hc h
  ·exact zrn hc h
  ·cases h
 ·cases h
theorem zq9 [Gl] {P:Program}{A:Ann}{c c':CallF} (hc:zkx c c') {q:Bool}{ops:Array Oper}{o:Oper}{s s':St} (h:stepD P A c q ops o s=some s'):stepD P A c' q ops o s=some s':=by
 unfold stepD at h ⊢
 rw [Option.bind_eq_some_iff] at h ⊢
 obtain ⟨w,h1,h2⟩:=h
 refine ⟨w,h1, ?_⟩
 split at h2
 ·rename_i hw
  rw [if_pos hw]
  rw [Option.bind_eq_some_iff] at h2 ⊢
  obtain ⟨x,h3,h4⟩:=h2
  exact ⟨x,z79 hc h3,h4⟩
 ·rename_i hw
  rw [if_neg hw];exact h2
theorem zm5 [Gl] {P:Program}{A:Ann}{c c':CallF} (hc:zkx c c') {q:Bool}{ops:Array Oper}:∀ {l:List Oper}{s s':St},opsD P A c q ops l s=some s'→opsD P A c' q ops l s=some s'
 | [],_,_,h=>h
 | o :: l,s,s',h=>by
  simp only [opsD,Option.bind_eq_some_iff] at h ⊢
  obtain ⟨s1,h1,h2⟩:=h
  exact ⟨s1,zq9 hc h1,zm5 hc h2⟩
theorem zlz {f g:St→Option (Ex×St)} (hfg:∀ s r,f s=some r→g s=some r):∀ {k k':Nat}{s:St}{r:Ex×St},k≤k'→loopD f k s=some r→loopD g k' s=some r
 | 0,_,_,_,_,h=>by simp [loopD] at h
 | k+1,0,_,_,hk,_=>by omega
 | k+1,k'+1,s,r,hk,h=>by
  simp only [loopD] at h ⊢
  split at h
  ·rename_i s1 h1
   rw [hfg _ _ h1]
   exact zlz hfg (by omega) h
  ·rename_i hne
   cases hf:f s with
   | none=>rw [hf] at h;cases h
   | some x =>
    rw [hf] at h
    rw [hfg _ _ hf]
    obtain ⟨e,s1⟩:=x
    cases e with
    | normal=>exact absurd hf (hne s1)
    | exit i=>exact h
    | ret=>exact h
theorem zfx [Gl] {P:Program}{A:Ann}{c c':CallF} (hc:zkx c c') {k k':Nat} (hk:k≤k') {f:FuncId}:∀ (b:Code) {s:St}{r:Ex×St},evC P A c k f b s=some r→evC P A c' k' f b s=some r
 | .region id ops draw,s,r,h=>by
  simp only [evC,Option.bind_eq_some_iff] at h ⊢
  obtain ⟨s1,h1,s2,h2,h3⟩:=h
  exact ⟨s1,h1,s2,zm5 hc h2,h3⟩
 | .seq a b,s,r,h=>by
  simp only [evC] at h ⊢
  split at h
  ·rename_i s1 h1
   rw [zfx hc hk a h1]
   exact zfx hc hk b h
  ·rename_i hne
   rw [zfx hc hk a h]
   obtain ⟨e,s1⟩:=r
   cases e with
   | normal=>exact absurd h (hne s1)
   | exit i=>rfl
   | ret=>rfl
 | .cond x t e,s,r,h=>by
  simp only [evC] at h ⊢
  split at h
  ·split at h
   ·rename_i hb;rw [if_pos hb];exact zfx hc hk t h
   ·rename_i hb;rw [if_neg hb];exact zfx hc hk e h
  ·cases h
 | .block id b,s,r,h=>by
  simp only [evC] at h ⊢
  split at h
  ·rename_i i s1 h1
   rw [zfx hc hk b h1]
   exact h
  ·rename_i hne
   rw [zfx hc hk b h]
   obtain ⟨e,s1⟩:=r
   cases e with
   | exit i=>exact absurd h (hne i s1)
   | normal=>rfl
   | ret=>rfl
 | .loop b,s,r,h=>by
  simp only [evC] at h ⊢
  exact zlz (fun s r h=>zfx hc hk b h) hk h
 | .skip,s,r,h=>by simpa only [evC] using h
 | .label _,s,r,h=>by simpa only [evC] using h
 | .exit _,s,r,h=>by simpa only [evC] using h
 | .ret,s,r,h=>by simpa only [evC] using h
 | .goto _,s,r,h=>by simp only [evC] at h;cases h
 | .rangeFunc ..,s,r,h=>by simp only [evC] at h;cases h
 | .scope _,s,r,h=>by simp only [evC] at h;cases h
 | .refuse _,s,r,h=>by simp only [evC] at h;cases h
theorem zm8 [Gl] {P:Program}{A:Ann}{c c':CallF} (hc:zkx c c') {k k':Nat} (hk:k≤k') {f:FuncId}{args:List Dv}{H:List Ob}{r:Dv×List Ob} (h:runD P A c k f args H=some r):runD P A c' k' f args H=some r:=by
 unfold runD at h ⊢
 split at h
 ·rename_i ho
  rw [if_pos ho]
  split at h
  ·split at h
   ·split at h
    ·rename_i s h1
     rw [zfx hc hk _ h1];exact h
    ·rename_i s h1
     rw [zfx hc hk _ h1];exact h
    ·cases h
   ·cases h
  ·cases h
 ·cases h
theorem znl [Gl] {P:Program}{A:Ann}:∀ k,zkx (callN P A k) (callN P A (k+1))
 | 0=>by intro f args H r h;simp [callN] at h
 | k+1=>by
  intro f args H r h
  simp only [callN] at h ⊢
  cases hx:A.outer f with
  | some e=>simp only [hx] at h;exact h
  | none =>
  simp only [hx] at h
  split at h
  ·rename_i hc
   simp only [hc]
   exact zm8 (znl k) (Nat.le_succ k) h
  ·rename_i sz hc
   simp only [hc]
   split at h
   ·rename_i he
    rw [if_pos he];exact h
   ·rename_i he
    rw [if_neg he];exact zm8 (znl k) (Nat.le_succ k) h
theorem zgw [Gl] {P:Program}{A:Ann}{k k':Nat} (h:k≤k'):zkx (callN P A k) (callN P A k'):=by
 induction h with
 | refl=>exact fun _ _ _ _ h=>h
 | step _ ih=>exact fun f args H r h=>znl _ f args H r (ih f args H r h)
open Classical in
noncomputable def lim {α:Type} (F:Nat→Option α):Option α:=if h:∃ r k,F k=some r then some h.choose else none
def Mono {α:Type} (F:Nat→Option α):Prop:=∀ k k' r,k≤k'→F k=some r→F k'=some r
theorem zsc {α:Type}{F:Nat→Option α} (hF:Mono F) {r:α}:lim F=some r↔∃ k,F k=some r:=by
 constructor
 ·intro h
  unfold lim at h
  split at h
  ·rename_i h1
   simp only [Option.some.injEq] at h
   subst h
   exact h1.choose_spec
  ·cases h
 ·intro ⟨k,h⟩
  have h1:∃ r k,F k=some r:=⟨r,k,h⟩
  unfold lim
  rw [dif_pos h1]
  obtain ⟨k',h'⟩:=h1.choose_spec
  have e1:=hF k (max k k') r (Nat.le_max_left ..) h
  have e2:=hF k' (max k k') _ (Nat.le_max_right ..) h'
  rw [e1] at e2
  exact e2.symm
theorem zmm {α:Type}{x y:Option α} (h:∀ r,x=some r↔y=some r):x=y:=by
 cases x with
 | none =>
  cases y with
  | none=>rfl
  | some b=>exact absurd ((h b).2 rfl) (by simp)
 | some a=>exact ((h a).1 rfl).symm
noncomputable def callW [Gl] (P:Program) (A:Ann):CallF:=fun f args H=>lim fun k=>callN P A k f args H
noncomputable def evW [Gl] (P:Program) (A:Ann) (f:FuncId) (c:Code) (s:St):Option (Ex×St):=lim fun k=>evC P A (callN P A k) k f c s
section
variable {P : Program} {A : Ann} {f : FuncId}
theorem zee [Gl] {args:List Dv}{H:List Ob}{r:Dv×List Ob}:callW P A f args H=some r↔∃ k,callN P A k f args H=some r :=
 zsc (fun k k' r hk h=>zgw hk _ _ _ _ h)
theorem zcf [Gl] {c:Code}{s:St}{r:Ex×St}:evW P A f c s=some r↔∃ k,evC P A (callN P A k) k f c s=some r :=
 zsc (fun k k' r hk h=>zfx (zgw hk) hk _ h)
theorem zz8 [Gl] {k:Nat}:zkx (callN P A k) (callW P A):=fun f args H r h=>zee.2 ⟨k,h⟩
theorem zt5 [Gl] {H:List Ob}{g:FuncId}{args:List Dv}{r:Dv×Option (List Ob)} (h:callD (callW P A) A H g args=some r):∃ k,callD (callN P A k) A H g args=some r:=by
 simp only [callD] at h ⊢
 generalize (if (A.muts g || A.ros g)=true then (args.map (wkA A g),[]) else giveD H args)=gv at *
 split at h
 ·rename_i ha
  rw [Option.bind_eq_some_iff] at h
  obtain ⟨x,h1,h2⟩:=h
  obtain ⟨k,h1⟩:=zee.1 h1
  refine ⟨k, ?_⟩
  rw [if_pos ha,Option.bind_eq_some_iff]
  exact ⟨x,h1,h2⟩
 ·cases h
theorem ybi [Gl] {tm:List Dv}{H:List Ob}{o:Oper}{r:Dv×Option (List Ob)} (h:opD P A (callW P A) tm H o=some r):∃ k,opD P A (callN P A k) tm H o=some r:=by
 unfold opD at h ⊢
 split at h<;>first | exact ⟨0,h⟩ | skip
 split at h
 ·exact ⟨0,h⟩
 ·simp only [] at h ⊢
  split at h
  ·exact zt5 h
  ·exact zt5 h
  ·cases h
 ·cases h
theorem z0q [Gl] {q:Bool}{ops:Array Oper}{o:Oper}{s s':St} (h:stepD P A (callW P A) q ops o s=some s'):∃ k,stepD P A (callN P A k) q ops o s=some s':=by
 unfold stepD at h ⊢
 rw [Option.bind_eq_some_iff] at h
 obtain ⟨w,h1,h2⟩:=h
 split at h2
 ·rename_i hw
  rw [Option.bind_eq_some_iff] at h2
  obtain ⟨x,h3,h4⟩:=h2
  obtain ⟨k,h3⟩:=ybi h3
  refine ⟨k, ?_⟩
  rw [Option.bind_eq_some_iff]
  refine ⟨w,h1, ?_⟩
  rw [if_pos hw,Option.bind_eq_some_iff]
  exact ⟨x,h3,h4⟩
 ·rename_i hw
  refine ⟨0, ?_⟩
  rw [Option.bind_eq_some_iff]
  refine ⟨w,h1, ?_⟩
  rw [if_neg hw];exact h2
theorem zxj [Gl] {q:Bool}{ops:Array Oper}:∀ {l:List Oper}{s s':St},opsD P A (callW P A) q ops l s=some s'→∃ k,opsD P A (callN P A k) q ops l s=some s'
 | [],_,_,h=>⟨0,h⟩
 | o :: l,s,s',h=>by
  simp only [opsD,Option.bind_eq_some_iff] at h ⊢
  obtain ⟨s1,h1,h2⟩:=h
  obtain ⟨k1,h1⟩:=z0q h1
  obtain ⟨k2,h2⟩:=zxj h2
  exact ⟨max k1 k2,s1,zq9 (zgw (Nat.le_max_left ..)) h1,zm5 (zgw (Nat.le_max_right ..)) h2⟩
theorem zye [Gl] {s:St}:evW P A f .skip s=some (.normal,s):=zcf.2 ⟨0,rfl⟩
theorem z3a [Gl] {i:Nat}{s:St}:evW P A f (.label i) s=some (.normal,s):=zcf.2 ⟨0,rfl⟩
theorem zyo [Gl] {i:Nat}{s:St}:evW P A f (.exit i) s=some (.exit i,s):=zcf.2 ⟨0,rfl⟩
theorem z2k [Gl] {s:St}:evW P A f .ret s=some (.ret,s):=zcf.2 ⟨0,rfl⟩
theorem zl1 [Gl] {id:Nat}{ops:Array Oper}{draw:Bool}{s:St}:evW P A f (.region id ops draw) s=(zaj (A.pre f id) s).bind fun s=>(opsD P A (callW P A) (draw && !A.loud f id) ops ops.toList s).bind (endR A f id ops draw s):=by
 apply zmm
 intro r
 rw [zcf]
 simp only [evC,Option.bind_eq_some_iff]
 constructor
 ·intro ⟨k,s1,h1,s2,h2,h3⟩
  exact ⟨s1,h1,s2,zm5 zz8 h2,h3⟩
 ·intro ⟨s1,h1,s2,h2,h3⟩
  obtain ⟨k,h2⟩:=zxj h2
  exact ⟨k,s1,h1,s2,h2,h3⟩
theorem z1p [Gl] {a b:Code}{s:St}:evW P A f (.seq a b) s=match evW P A f a s with | some (.normal,s')=>evW P A f b s' | r=>r:=by
 apply zmm
 intro r
 rw [zcf]
 simp only [evC]
 constructor
 ·intro ⟨k,h⟩
  split at h
  ·rename_i s1 h1
   rw [zcf.2 ⟨k,h1⟩]
   exact zcf.2 ⟨k,h⟩
  ·rename_i hne
   rw [zcf.2 ⟨k,h⟩]
   obtain ⟨e,s1⟩:=r
   cases e with
   | normal=>exact absurd h (hne s1)
   | exit i=>rfl
   | ret=>rfl
 ·intro h
  split at h
  ·rename_i s1 h1
   obtain ⟨k1,h1⟩:=zcf.1 h1
   obtain ⟨k2,h2⟩:=zcf.1 h
   refine ⟨max k1 k2, ?_⟩
   rw [zfx (zgw (Nat.le_max_left k1 k2)) (Nat.le_max_left ..) a h1]
   exact zfx (zgw (Nat.le_max_right k1 k2)) (Nat.le_max_right ..) b h2
  ·rename_i hne
   obtain ⟨k1,h1⟩:=zcf.1 h
   refine ⟨k1, ?_⟩
   rw [h1]
   obtain ⟨e,s1⟩:=r
   cases e with
   | normal=>exact absurd h (hne s1)
   | exit i=>rfl
   | ret=>rfl
theorem zx3 [Gl] {x:Operand}{t e:Code}{s:St}:evW P A f (.cond x t e) s=match boolD (evalO s.tmps x) with | some b=>if b then evW P A f t s else evW P A f e s | none=>none:=by
 apply zmm
 intro r
 rw [zcf]
 simp only [evC]
 cases boolD (evalO s.tmps x) with
 | none=>simp
 | some b =>
  cases b
  ·simp only [Bool.false_eq_true,if_false];rw [zcf]
  ·simp only [if_true];rw [zcf]
theorem ztz [Gl] {id:Nat}{b:Code}{s:St}:evW P A f (.block id b) s=match evW P A f b s with | some (.exit id',s')=>if id'=id then some (.normal,s') else some (.exit id',s') | r=>r:=by
 apply zmm
 intro r
 rw [zcf]
 simp only [evC]
 constructor
 ·intro ⟨k,h⟩
  split at h
  ·rename_i i s1 h1
   rw [zcf.2 ⟨k,h1⟩]
   exact h
  ·rename_i hne
   rw [zcf.2 ⟨k,h⟩]
   obtain ⟨e,s1⟩:=r
   cases e with
   | exit i=>exact absurd h (hne i s1)
   | normal=>rfl
   | ret=>rfl
 ·intro h
  split at h
  ·rename_i i s1 h1
   obtain ⟨k1,h1⟩:=zcf.1 h1
   exact ⟨k1,by rw [h1];exact h⟩
  ·rename_i hne
   obtain ⟨k1,h1⟩:=zcf.1 h
   refine ⟨k1, ?_⟩
   rw [h1]
   obtain ⟨e,s1⟩:=r
   cases e with
   | exit i=>exact absurd h (hne i s1)
   | normal=>rfl
   | ret=>rfl
theorem zxb [Gl] {b:Code}{s:St}:evW P A f (.loop b) s=match evW P A f b s with | some (.normal,s')=>evW P A f (.loop b) s' | r=>r:=by
 apply zmm
 intro r
 rw [zcf]
 simp only [evC]
 constructor
 ·intro ⟨k,h⟩
  cases k with
  | zero=>simp [loopD] at h
  | succ k =>
   simp only [loopD] at h
   split at h
   ·rename_i s1 h1
    rw [zcf.2 ⟨k+1,h1⟩]
    refine zcf.2 ⟨k+1, ?_⟩
    simp only [evC]
    exact zlz (fun s r h=>h) (Nat.le_succ k) h
   ·rename_i hne
    rw [zcf.2 ⟨k+1,h⟩]
    obtain ⟨e,s1⟩:=r
    cases e with
    | normal=>exact absurd h (hne s1)
    | exit i=>rfl
    | ret=>rfl
 ·intro h
  split at h
  ·rename_i s1 h1
   obtain ⟨k1,h1⟩:=zcf.1 h1
   obtain ⟨k2,h2⟩:=zcf.1 h
   simp only [evC] at h2
   refine ⟨max k1 k2+1, ?_⟩
   simp only [loopD]
   rw [zfx (zgw (show k1≤max k1 k2+1 by omega)) (by omega) b h1]
   exact zlz (fun s r h=>zfx (zgw (show k2≤max k1 k2+1 by omega)) (by omega) b h) (by omega) h2
  ·rename_i hne
   obtain ⟨k1,h1⟩:=zcf.1 h
   refine ⟨k1+1, ?_⟩
   simp only [loopD]
   rw [zfx (zgw (Nat.le_succ k1)) (Nat.le_succ k1) b h1]
   obtain ⟨e,s1⟩:=r
   cases e with
   | normal=>exact absurd h (hne s1)
   | exit i=>rfl
   | ret=>rfl
def initS (fn:Func) (args:List Dv) (H:List Ob):St:={ tmps:=args++List.replicate (fn.ntmps - args.length) ze1,heap:=H,nin:=H.length }
theorem zqj [Gl] {args:List Dv}{H:List Ob} (hcl:((A.outer f).isSome || (A.clone f).isSome && zjm args H)=false) (k:Nat):callN P A (k+1) f args H=runD P A (callN P A k) k f args H:=by
 simp only [callN]
 cases hx:A.outer f with
 | some e=>rw [hx] at hcl;cases hcl
 | none =>
 rw [hx] at hcl
 simp only [Option.isSome_none,Bool.false_or] at hcl
 cases hc:A.clone f with
 | none=>rfl
 | some sz =>
  rw [hc] at hcl
  simp only [Option.isSome_some,Bool.true_and] at hcl
  simp only [hcl,Bool.false_eq_true,if_false]
theorem zxw [Gl] {args:List Dv}{H:List Ob} (hcl:((A.outer f).isSome || (A.clone f).isSome && zjm args H)=false) (ho:A.okf f=true) {fn:Func} (hf:P.funcs[f]?=some fn) {c:Code} (hb:fn.body=some c):callW P A f args H =
  match evW P A f c (initS fn args H) with
   | some (.normal,s)=>zap P A f fn s
   | some (.ret,s)=>zap P A f fn s
   | _=>none:=by
 apply zmm
 intro r
 rw [zee]
 constructor
 ·intro ⟨k,h⟩
  cases k with
  | zero=>simp [callN] at h
  | succ k =>
   simp only [zqj hcl,runD,ho,if_true,hf,hb] at h
   change (match evC P A (callN P A k) k f c (initS fn args H) with
    | some (.normal,s)=>zap P A f fn s
    | some (.ret,s)=>zap P A f fn s
    | _=>none)=some r at h
   split at h
   ·rename_i s h1;rw [zcf.2 ⟨k,h1⟩];exact h
   ·rename_i s h1;rw [zcf.2 ⟨k,h1⟩];exact h
   ·cases h
 ·intro h
  split at h
  ·rename_i s h1
   obtain ⟨k,h1⟩:=zcf.1 h1
   refine ⟨k+1, ?_⟩
   simp only [zqj hcl,runD,ho,if_true,hf,hb]
   change (match evC P A (callN P A k) k f c (initS fn args H) with
    | some (.normal,s)=>zap P A f fn s
    | some (.ret,s)=>zap P A f fn s
    | _=>none)=some r
   rw [h1];exact h
  ·rename_i s h1
   obtain ⟨k,h1⟩:=zcf.1 h1
   refine ⟨k+1, ?_⟩
   simp only [zqj hcl,runD,ho,if_true,hf,hb]
   change (match evC P A (callN P A k) k f c (initS fn args H) with
    | some (.normal,s)=>zap P A f fn s
    | some (.ret,s)=>zap P A f fn s
    | _=>none)=some r
   rw [h1];exact h
  ·cases h
end
end Go.Ev

set_option linter.unusedVariables false
set_option linter.unusedSimpArgs false
namespace Go.Ev
abbrev iv (x:Int):Dv:=.p (.v (.int .i64 x))
abbrev bv (b:Bool):Dv:=.p (.v (.bool b))
def w64 (x:Int):Int:=IntKind.wrap .i64 x
theorem zdn {x:Int} (h1:-9223372036854775808≤x) (h2:x<9223372036854775808):w64 x=x:=by
 change (if (true && decide (x % 18446744073709551616 ≥ 9223372036854775808))=true then x % 18446744073709551616 - 18446744073709551616 else x % 18446744073709551616)=x
 simp only [Bool.true_and,decide_eq_true_eq]
 split<;>omega
section
variable {P : Program} {A : Ann} {f : FuncId} {c : CallF} {q : Bool} {ops : Array Oper} {l : List Oper} {tm : List Dv} {H : List Ob} {n t ty : Nat} {pos : String} {af : Array Edge}
def opsP [Gl] (P:Program) (A:Ann) (c:CallF) (q:Bool) (ops:Array Oper) (l:List Oper) (tm:List Dv) (H:List Ob) (n t:Nat) (x:Option Dv):Option St :=
 x.bind fun d=>opsD P A c q ops l ⟨tm.set t d,H,n⟩
def opsQ [Gl] (P:Program) (A:Ann) (c:CallF) (q:Bool) (ops:Array Oper) (l:List Oper) (tm:List Dv) (H:List Ob) (n t:Nat) (w:Bool) (x:Option (Dv×Option (List Ob))):Option St :=
 x.bind fun y=>match y with
  | (d,none)=>opsD P A c q ops l ⟨tm.set t d,H,n⟩
  | (d,some h)=>if q && !w then none else opsD P A c q ops l ⟨tm.set t d,h,n⟩
theorem z2u [Gl] {d:Dv}:opsP P A c q ops l tm H n t (some d)=opsD P A c q ops l ⟨tm.set t d,H,n⟩:=rfl
theorem z4b [Gl] {d:Dv}{w:Bool}:opsQ P A c q ops l tm H n t w (some (d,none))=opsD P A c q ops l ⟨tm.set t d,H,n⟩:=rfl
theorem ztg [Gl] {d:Dv}{h:List Ob}:opsQ P A c q ops l tm H n t true (some (d,some h))=opsD P A c q ops l ⟨tm.set t d,h,n⟩:=by
 simp [opsQ]
theorem z0v [Gl] {d:Dv}{h:List Ob}{w:Bool}:opsQ P A c false ops l tm H n t w (some (d,some h))=opsD P A c false ops l ⟨tm.set t d,h,n⟩:=by
 simp [opsQ]
theorem yc5 [Gl] {s:St}:opsD P A c q ops [] s=some s:=rfl
theorem zj4 [Gl] {op:Op}:opsD P A c q ops (⟨some t,op,ty,pos,af,none⟩ :: l) ⟨tm,H,n⟩=opsQ P A c q ops l tm H n t (wrOp op) (opD P A c tm H ⟨some t,op,ty,pos,af,none⟩):=by
 simp only [opsD,stepD,wantD,Option.bind_some,if_true,opsQ]
 cases opD P A c tm H ⟨some t,op,ty,pos,af,none⟩ with
 | none=>rfl
 | some y =>
  obtain ⟨d,h⟩:=y
  cases h with
  | none=>rfl
  | some h =>
   simp only [Option.bind_some,putD]
   split<;>rfl
theorem zil [Gl] {op:Op}{x:Option Dv} (h:opD P A c tm H ⟨some t,op,ty,pos,af,none⟩=x.map fun d=>(d,none)) :
  opsD P A c q ops (⟨some t,op,ty,pos,af,none⟩ :: l) ⟨tm,H,n⟩=opsP P A c q ops l tm H n t x:=by
 rw [zj4,h]
 cases x<;>rfl
theorem z81 [Gl] {x:Operand}:opsD P A c q ops (⟨some t,.move x,ty,pos,af,none⟩ :: l) ⟨tm,H,n⟩=opsD P A c q ops l ⟨tm.set t (evalO tm x),H,n⟩:=rfl
theorem z0n [Gl] {x:Operand}:opsD P A c q ops (⟨some t,.assign x,ty,pos,af,none⟩ :: l) ⟨tm,H,n⟩=opsD P A c q ops l ⟨tm.set t (evalO tm x),H,n⟩:=rfl
theorem ybp [Gl] {op:BinOp}{xt:TypeId}{x y:Operand}{yt:TypeId}:opsD P A c q ops (⟨some t,.binOp op xt x y yt,ty,pos,af,none⟩ :: l) ⟨tm,H,n⟩ =
  opsP P A c q ops l tm H n t (binN P op xt x y (evalO tm x) (evalO tm y)):=zil rfl
theorem z57 {op:BinOp}{xt j:Nat}{x:Operand}{a b:Dv}:binN P op xt x (.tmp j) a b=binD P op xt x (.tmp j) a b:=rfl
theorem z6f {op:BinOp}{xt:Nat}{k:IntKind}{z:Int}{x:Operand}{a b:Dv}:binN P op xt x (.const (.int k z)) a b=binD P op xt x (.const (.int k z)) a b:=rfl
theorem z1v {op:BinOp}{xt:Nat}{z:Bool}{x:Operand}{a b:Dv}:binN P op xt x (.const (.bool z)) a b=binD P op xt x (.const (.bool z)) a b:=rfl
theorem z6u {op:BinOp}{xt:Nat}{z:ByteArray}{x:Operand}{a b:Dv}:binN P op xt x (.const (.string z)) a b=binD P op xt x (.const (.string z)) a b:=rfl
theorem z9y [Gl] {xt:TypeId}{x:Operand}:opsD P A c q ops (⟨some t,.load xt x,ty,pos,af,none⟩ :: l) ⟨tm,H,n⟩ =
  opsP P A c q ops l tm H n t (loadD P H xt (evalO tm x)):=zil rfl
def idxD (P:Program) (t:TypeId) (x ix:Dv):Option Dv:=(intD ix).bind fun i =>
   match P.underlying t,x with
   | some (.slice e),.p (.lst _ n cells)=>(szOf P e).bind fun sz=>if 0≤i∧i<n∧sz≠0∧cells.length=n*sz then some (.p (.iptr cells (i.toNat*sz))) else none
   | some (.slice e),.ref id off n esz=>(szOf P e).bind fun sz=>if 0≤i∧i<n∧sz=esz∧sz≠0 then some (.ptr id (off+i.toNat*sz)) else none
   | some (.array n e),.ptr id off=>(szOf P e).bind fun sz=>if 0≤i∧i<n∧sz≠0 then some (.ptr id (off+i.toNat*sz)) else none
   | some (.array n e),.p (.iptr cells off)=>(szOf P e).bind fun sz=>if 0≤i∧i<n∧sz≠0 then some (.p (.iptr cells (off+i.toNat*sz))) else none
   | _,_=>none
theorem zsb [Gl] {xt:TypeId}{x y:Operand}:opsD P A c q ops (⟨some t,.indexAddr xt x y,ty,pos,af,none⟩ :: l) ⟨tm,H,n⟩ =
  opsP P A c q ops l tm H n t (idxD P xt (evalO tm x) (evalO tm y)):=zil rfl
theorem z5q [Gl] {xt:TypeId}{x y:Operand}:opsD P A c q ops (⟨none,.store xt x y,ty,pos,af,none⟩ :: l) ⟨tm,H,n⟩ =
  (match zdf P H xt (evalO tm x) (evalO tm y) with | some h=>opsD P A c q ops l ⟨tm,h,n⟩ | none=>none):=by
 simp only [opsD,stepD,wantD,Option.bind_some,if_true,opD]
 cases zdf P H xt (evalO tm x) (evalO tm y) with
 | none=>rfl
 | some h=>simp [wrOp,putD]
theorem yb0 [Gl] {x:Operand}{xt:TypeId} (hm:Gl.isMap xt=false):opsD P A c q ops (⟨some t,.call { callee:=.builtin .len,args:=#[x],argTypes:=#[xt] },ty,pos,af,none⟩ :: l) ⟨tm,H,n⟩ =
  opsP P A c q ops l tm H n t (lenD P xt (evalO tm x)):=by
 refine zil ?_
 have hm':Gl.isMap (#[xt].getD 0 0)=false:=hm
 simp only [opD,zgj,hm',Bool.false_eq_true,if_false]
 simp [zjq]
theorem z2v [Gl] {i:Nat}:evalO tm (.tmp i)=tm.getD i .junk:=rfl
theorem zvy [Gl] {x:Value}:evalO tm (.const x)=.p (ofVal x):=rfl
theorem z46 {k:IntKind}{x:Int}:ofVal (.int k x)=.v (.int k x):=rfl
theorem zzm {b:Bool}:ofVal (.bool b)=.v (.bool b):=rfl
theorem z3m:ofVal (.slice none 0 0)=.lst true 0 []:=rfl
theorem z85 {xt:TypeId}{x y:Operand}{a b:Int}:binD P .add xt x y (iv a) (iv b)=some (iv (w64 (a+b))):=rfl
theorem z6z {xt:TypeId}{x y:Operand}{a b:Int}:binD P .sub xt x y (iv a) (iv b)=some (iv (w64 (a - b))):=rfl
theorem z7h {xt:TypeId}{x y:Operand}{a b:Int}:binD P .mul xt x y (iv a) (iv b)=some (iv (w64 (a*b))):=rfl
theorem z9t {xt:TypeId}{x y:Operand}{a b:Int}:binD P .lss xt x y (iv a) (iv b)=some (bv (decide (a<b))):=rfl
theorem z7u {xt:TypeId}{x y:Operand}{a b:Int}:binD P .leq xt x y (iv a) (iv b)=some (bv (decide (a≤b))):=rfl
theorem z7c {xt:TypeId}{x y:Operand}{a b:Int}:binD P .gtr xt x y (iv a) (iv b)=some (bv (decide (b<a))):=rfl
theorem z7z {xt:TypeId}{x y:Operand}{a b:Int}:binD P .geq xt x y (iv a) (iv b)=some (bv (decide (b≤a))):=rfl
theorem z7o {xt:TypeId}{x y:Operand}{a b:Int}:binD P .eql xt x y (iv a) (iv b)=some (bv (decide (a=b))):=rfl
theorem z8w {xt:TypeId}{x y:Operand}{a b:Int}:binD P .neq xt x y (iv a) (iv b)=some (bv (!decide (a=b))):=rfl
theorem zal {t e:TypeId}{full:Bool}{m:Nat}{cells:List Pv} (h:P.underlying t=some (.slice e)):lenD P t (.p (.lst full m cells))=some (iv m):=by
 simp only [lenD,h];rfl
theorem zf7 {t e:TypeId}{id off m esz:Nat} (h:P.underlying t=some (.slice e)):lenD P t (.ref id off m esz)=some (iv m):=by
 simp only [lenD,h];rfl
theorem z9k {t e sz:Nat}{full:Bool}{m:Nat}{cells:List Pv}{i:Int} (h:P.underlying t=some (.slice e)) (hs:szOf P e=some sz) (hz:sz≠0) (h0:0≤i) (h1:i<m) (hc:cells.length=m*sz) :
  idxD P t (.p (.lst full m cells)) (iv i)=some (.p (.iptr cells (i.toNat*sz))):=by
 simp only [idxD,intD,h,hs,Option.bind_some]
 rw [if_pos ⟨h0,h1,hz,hc⟩]
theorem z9x {t e sz:Nat}{id off m:Nat}{i:Int} (h:P.underlying t=some (.slice e)) (hs:szOf P e=some sz) (hz:sz≠0) (h0:0≤i) (h1:i<m) :
  idxD P t (.ref id off m sz) (iv i)=some (.ptr id (off+i.toNat*sz)):=by
 simp only [idxD,intD,h,hs,Option.bind_some]
 rw [if_pos ⟨h0,h1,trivial,hz⟩]
theorem za5 {t:TypeId}{cells:List Pv}{off:Nat} (h:aggT P t=some false):loadD P H t (.p (.iptr cells off))=(cells[off]?).map .p:=by
 simp [loadD,h]
noncomputable def seqW [Gl] (P:Program) (A:Ann) (f:FuncId) (b:Code) (x:Option (Ex×St)):Option (Ex×St):=match x with | some (.normal,s')=>evW P A f b s' | r=>r
noncomputable def condW [Gl] (P:Program) (A:Ann) (f:FuncId) (t e:Code) (s:St) (x:Option Bool):Option (Ex×St):=match x with | some b=>if b then evW P A f t s else evW P A f e s | none=>none
def za6 (id:Nat) (x:Option (Ex×St)):Option (Ex×St):=match x with | some (.exit id',s')=>if id'=id then some (.normal,s') else some (.exit id',s') | r=>r
noncomputable def regW [Gl] (P:Program) (A:Ann) (q:Bool) (ops:Array Oper) (l:List Oper) (s:Option St):Option (Ex×St):=s.bind fun s=>(opsD P A (callW P A) q ops l s).map fun s=>(.normal,s)
def doneW (s:Option St):Option (Ex×St):=s.map fun s=>(.normal,s)
theorem zaa [Gl] {id:Nat}{draw:Bool}{s:St} (hd:A.dyn f id=none:=by rfl) (hx:A.lp f id=none:=by rfl):evW P A f (.region id ops draw) s=regW P A (draw && !A.loud f id) ops ops.toList (zaj (A.pre f id) s):=by
 rw [zl1]
 have:∀ n,endR A f id ops draw n=fun s=>some (.normal,s):=fun n=>by funext s;unfold endR;rw [hx,hd]
 simp only [this]
 unfold regW
 congr 1
 funext s
 cases opsD P A (callW P A) (draw && !A.loud f id) ops ops.toList s<;>rfl
def doneY [Gl] (ops:Array Oper) (pairs:List (Nat×Nat)) (n:Nat) (s:Option St):Option (Ex×St):=s.bind fun s=>if dynB ops n pairs s=true then some (.normal,s) else none
noncomputable def regY [Gl] (P:Program) (A:Ann) (q:Bool) (ops:Array Oper) (pairs:List (Nat×Nat)) (l:List Oper) (s:Option St):Option (Ex×St):=s.bind fun s=>doneY ops pairs s.heap.length (opsD P A (callW P A) q ops l s)
theorem z28 [Gl] {id:Nat}{pairs:List (Nat×Nat)}{s:St} (hd:A.dyn f id=some pairs) (hx:A.lp f id=none:=by rfl):evW P A f (.region id ops true) s=regY P A (true && !A.loud f id) ops pairs ops.toList (zaj (A.pre f id) s):=by
 rw [zl1]
 unfold regY
 congr 1
 funext s
 unfold doneY
 congr 1
 funext s'
 unfold endR
 rw [hx,hd]
 simp only [Bool.not_true,Bool.false_or]
def doneZ [Gl] (A:Ann) (ops:Array Oper) (pairs:List (Nat×Nat)) (H:List Ob) (s:Option St):Option (Ex×St):=s.bind fun s=>if zro A ops pairs H s.tmps=true then some (.normal,s) else none
noncomputable def regZ [Gl] (P:Program) (A:Ann) (q:Bool) (ops:Array Oper) (pairs:List (Nat×Nat)) (l:List Oper) (s:Option St):Option (Ex×St):=s.bind fun s=>doneZ A ops pairs s.heap (opsD P A (callW P A) q ops l s)
theorem z49 [Gl] {id:Nat}{pairs:List (Nat×Nat)}{s:St} (hx:A.lp f id=some pairs) (hl:A.loud f id=true):evW P A f (.region id ops true) s=regZ P A (true && false) ops pairs ops.toList (zaj (A.pre f id) s):=by
 rw [zl1,hl]
 unfold regZ
 congr 1
 funext s
 unfold doneZ
 congr 1
 funext s'
 unfold endR
 rw [hx]
 simp only [Bool.not_true,Bool.false_or]
theorem z5n [Gl] {s:St}{pairs:List (Nat×Nat)}:regZ P A q ops pairs l (some s)=doneZ A ops pairs s.heap (opsD P A (callW P A) q ops l s):=rfl
theorem zre [Gl] {s:St}{pairs:List (Nat×Nat)}{H:List Ob} (h:zro A ops pairs H s.tmps=true):doneZ A ops pairs H (some s)=some (.normal,s):=by
 unfold doneZ;simp only [Option.bind_some];rw [if_pos h]
theorem z47 [Gl] {s:St}{pairs:List (Nat×Nat)}:regY P A q ops pairs l (some s)=doneY ops pairs s.heap.length (opsD P A (callW P A) q ops l s):=rfl
theorem zqw [Gl] {s:St}{pairs:List (Nat×Nat)}{n:Nat} (h:dynB ops n pairs s=true):doneY ops pairs n (some s)=some (.normal,s):=by
 unfold doneY;simp only [Option.bind_some];rw [if_pos h]
theorem z16 [Gl] {s:St}:regW P A q ops l (some s)=doneW (opsD P A (callW P A) q ops l s):=rfl
theorem zy9 {s:St}:doneW (some s)=some (.normal,s):=rfl
theorem w_seq [Gl] {a b:Code}{s:St}:evW P A f (.seq a b) s=seqW P A f b (evW P A f a s):=z1p
theorem zwr [Gl] {b:Code}{s:St}:seqW P A f b (some (.normal,s))=evW P A f b s:=rfl
theorem z6y [Gl] {b:Code}{s:St}:seqW P A f b (some (.ret,s))=some (.ret,s):=rfl
theorem z5l [Gl] {b:Code}{i:Nat}{s:St}:seqW P A f b (some (.exit i,s))=some (.exit i,s):=rfl
theorem yg9 [Gl] {x:Operand}{t e:Code}{s:St}:evW P A f (.cond x t e) s=condW P A f t e s (boolD (evalO s.tmps x)):=zx3
theorem zzw [Gl] {t e:Code}{s:St}:condW P A f t e s (some true)=evW P A f t s:=rfl
theorem zvv [Gl] {t e:Code}{s:St}:condW P A f t e s (some false)=evW P A f e s:=rfl
theorem z6p {b:Bool}:boolD (bv b)=some b:=rfl
theorem ydp [Gl] {id:Nat}{b:Code}{s:St}:evW P A f (.block id b) s=za6 id (evW P A f b s):=ztz
theorem zsm {id:Nat}{s:St}:za6 id (some (.normal,s))=some (.normal,s):=rfl
theorem z0e {id:Nat}{s:St}:za6 id (some (.ret,s))=some (.ret,s):=rfl
theorem zvk {id:Nat}{s:St}:za6 id (some (.exit id,s))=some (.normal,s):=by simp [za6]
theorem ztj {id i:Nat}{s:St} (h:i≠id):za6 id (some (.exit i,s))=some (.exit i,s):=by simp [za6,h]
noncomputable def loopW [Gl] (P:Program) (A:Ann) (f:FuncId) (b:Code) (x:Option (Ex×St)):Option (Ex×St):=match x with | some (.normal,s')=>evW P A f (.loop b) s' | r=>r
theorem zis [Gl] {b:Code}{s:St}:evW P A f (.loop b) s=loopW P A f b (evW P A f b s):=zxb
theorem zgl [Gl] {b:Code}{s:St}:loopW P A f b (some (.normal,s))=evW P A f (.loop b) s:=rfl
theorem zi2 [Gl] {b:Code}{i:Nat}{s:St}:loopW P A f b (some (.exit i,s))=some (.exit i,s):=rfl
end
end Go.Ev

set_option linter.unusedVariables false
set_option linter.unusedSimpArgs false
namespace Go.Ev
def Wp (x:Option (Ex×St)) (Q:Ex→St→Prop):Prop:=∃ e s,x=some (e,s)∧Q e s
theorem Wp.intro {e:Ex}{s:St}{Q:Ex→St→Prop} (h:Q e s):Wp (some (e,s)) Q:=⟨e,s,rfl,h⟩
theorem ycs {e:Ex}{s:St}{Q:Ex→St→Prop}:Wp (some (e,s)) Q=Q e s:=by
 apply propext
 constructor
 ·intro ⟨e',s',h,hq⟩
  simp only [Option.some.injEq,Prod.mk.injEq] at h
  obtain ⟨rfl,rfl⟩:=h
  exact hq
 ·exact Wp.intro
theorem Wp.mono {x:Option (Ex×St)}{Q R:Ex→St→Prop} (h:Wp x Q) (hq:∀ e s,Q e s→R e s):Wp x R :=
 let ⟨e,s,h1,h2⟩:=h;⟨e,s,h1,hq e s h2⟩
section
variable {P : Program} {A : Ann} {f : FuncId}
theorem Wp.loop [Gl] {σ:Type}{b:Code}{Q:Ex→St→Prop} (G:List Ghost) (S:σ→St) (I:σ→Prop) (μ:σ→Nat)
  (step:∀ x s,I x→zaj G s=some (S x)→Wp (evW P A f b s) fun e s'=>match e with
   | .normal=>∃ x',I x'∧μ x'<μ x∧zaj G s'=some (S x')
   | e=>Q e s') :
  ∀ x s,I x→zaj G s=some (S x)→Wp (evW P A f (.loop b) s) Q:=by
 have key:∀ k x s,μ x<k→I x→zaj G s=some (S x)→Wp (evW P A f (.loop b) s) Q:=by
  intro k
  induction k with
  | zero=>intro x s h;omega
  | succ k ih =>
   intro x s hk hi hg
   obtain ⟨e,s',h1,h2⟩:=step x s hi hg
   rw [zis,h1]
   cases e with
   | normal =>
    obtain ⟨x',h3,h4,h5⟩:=h2
    exact ih x' s' (by omega) h3 h5
   | exit i=>exact .intro h2
   | ret=>exact .intro h2
 intro x s
 exact key (μ x+1) x s (Nat.lt_succ_self _)
theorem z0m {s:St}:zaj [] s=some s:=rfl
theorem zvj {fn:Func}{s:St}{ds:List Dv}{x:Pv}{l:List Nat} (hk:A.keeps f=false) (hn:s.nin=0) (h1:resD P s fn.results.toList=some ds) (h2:zk9 s.heap (oneD ds)=some (x,l)) :
  zap P A f fn s=some (.p (wk x),[]):=by
 unfold zap
 rw [h1]
 simp only [Option.bind_some,hk,Bool.false_eq_true,if_false,h2,Option.map_some,hn,za8,List.range_zero,List.append_nil]
 have e:zen (zan s.heap l) 256 [] []=[]:=rfl
 rw [e]
 rfl
def fin (P:Program) (A:Ann) (f:FuncId) (fn:Func):Option (Ex×St)→Option (Dv×List Ob)
 | some (.normal,s)=>zap P A f fn s
 | some (.ret,s)=>zap P A f fn s
 | _=>none
theorem zq4 {H:List Ob}:∀ (l:List Pv),giveD H (l.map .p)=(l.map fun x=>.p (wk x),[])
 | []=>rfl
 | x :: l=>by simp only [List.map_cons,giveD,zq4 l]
theorem zj6:∀ (l:List Pv),zav (l.map .p)=[]
 | []=>by simp [zav]
 | x :: l=>by simp only [List.map_cons,zav,za8,zj6 l,List.append_nil]
theorem zgq {g:Nat→Nat}:∀ (l:List Pv),zbs g (l.map .p)=l.map .p
 | []=>by simp [zbs]
 | x :: l=>by simp only [List.map_cons,zbs,zd8,zgq l]
theorem zzk {c:CallF}{H:List Ob}{args:List Pv}{x:Pv} (hm:A.muts f=false) (hr:A.ros f=false) (h:c f (args.map fun x=>.p (wk x)) []=some (.p x,[])) :
  callD c A H f (args.map .p)=some (.p x,none):=by
 have e1:(args.map fun x=>Dv.p (wk x))=(args.map wk).map .p:=by rw [List.map_map];rfl
 simp only [callD,hm,hr,Bool.or_self,Bool.false_eq_true,if_false,zq4,e1,zj6]
 have e2:∀ H',zen H' 64 [] []=[]:=fun _=>rfl
 rw [e2,if_pos (show accOk (zan H []) [] []=true from rfl),zgq]
 have e3:lentD A f (zan H []) []=[]:=by simp only [lentD,hm];rfl
 rw [e3,← e1,h]
 simp only [Option.bind_some,zan,List.isEmpty_nil,Bool.not_true,zk6,Bool.false_eq_true,if_false]
def callV (c:CallF) (A:Ann) (H:List Ob) (f:Dv) (args:List Dv):Option (Dv×Option (List Ob)) :=
 match f with
   | .p (.fn (.func g) cs)=>callD c A H g (args++cs.map .p)
   | .fn (.func g) ds=>callD c A H g (args++ds)
   | _=>none
section
variable {c : CallF} {q : Bool} {ops : Array Oper} {l : List Oper} {tm : List Dv} {H : List Ob} {n t ty : Nat} {pos : String} {af : Array Edge}
theorem yaa [Gl] {x:Operand}{as:Array Operand}{ts:Array TypeId}:opsD P A c q ops (⟨some t,.call { callee:=.value x,args:=as,argTypes:=ts },ty,pos,af,none⟩ :: l) ⟨tm,H,n⟩ =
  opsQ P A c q ops l tm H n t false (callV c A H (evalO tm x) (as.toList.map (evalO tm))):=by
 rw [zj4]
 rfl
theorem zzn [Gl] {g:FuncId}:evalO tm (.func g)=.p (.fn (.func g) []):=rfl
end
theorem zzv {c:CallF}{H:List Ob}{g:FuncId}{args:List Dv}:callV c A H (.p (.fn (.func g) [])) args=callD c A H g args:=by
 simp [callV]
end
end Go.Ev

set_option linter.unusedVariables false
set_option linter.unusedSimpArgs false
namespace Go.Ev
section
variable {P : Program} {A : Ann} {f : FuncId} {c : CallF} {q : Bool} {ops : Array Oper} {l : List Oper} {tm : List Dv} {H : List Ob} {n t ty : Nat} {pos : String} {af : Array Edge} {dst : Option Tmp} {op : Op}
def opsG [Gl] (P:Program) (A:Ann) (c:CallF) (q:Bool) (ops:Array Oper) (o:Oper) (l:List Oper) (s:St) (x:Option Bool):Option St :=
 match x with
 | some true=>opsD P A c q ops (o :: l) s
 | some false=>opsD P A c q ops l { s with tmps:=putD s.tmps o.dst ze1 }
 | none=>none
def wantT (x:Option Tmp) (tm:List Dv) (w:Bool):Option Bool :=
 match x with
 | none=>some false
 | some t=>(zms (tm.getD t ze1)).map (· == some w)
theorem z3q [Gl] {j:Nat}{w:Bool}:opsD P A c q ops (⟨dst,op,ty,pos,af,some (j,w)⟩ :: l) ⟨tm,H,n⟩=opsG P A c q ops ⟨dst,op,ty,pos,af,none⟩ l ⟨tm,H,n⟩ (wantT ((ops[j]?).bind (·.dst)) tm w):=by
 simp only [opsD,stepD,wantD,opsG,wantT]
 rw [show opD P A c tm H ⟨dst,op,ty,pos,af,some (j,w)⟩=opD P A c tm H ⟨dst,op,ty,pos,af,none⟩ from rfl]
 generalize (ops[j]?.bind fun x=>x.dst)=x
 cases x with
 | none=>rfl
 | some t =>
  simp only []
  cases (zms (tm.getD t ze1)).map fun x=>x == some w with
  | none=>rfl
  | some b=>cases b<;>rfl
theorem z3h [Gl] {o:Oper}{s:St}:opsG P A c q ops o l s (some true)=opsD P A c q ops (o :: l) s:=rfl
theorem zzs [Gl] {o:Oper}{s:St}:opsG P A c q ops o l s (some false)=opsD P A c q ops l { s with tmps:=putD s.tmps o.dst ze1 }:=rfl
theorem zz3 {t:Nat}{w:Bool}:wantT (some t) tm w=(zms (tm.getD t ze1)).map (· == some w):=rfl
theorem z53 {b w:Bool}:(zms (bv b)).map (· == some w)=some (b == w):=by cases b<;>cases w<;>rfl
theorem zvg {w:Bool}:(zms ze1).map (· == some w)=some false:=by cases w<;>rfl
theorem z4v {d:Dv}:putD tm (some t) d=tm.set t d:=rfl
theorem z1i {d:Dv}:putD tm none d=tm:=rfl
theorem z0u {b:Bool}:(b == true)=b:=by cases b<;>rfl
theorem zy7 {b:Bool}:(b == false)=!b:=by cases b<;>rfl
def pickD (x:Option Bool) (a b:Dv):Option Dv:=x.map fun t=>if t then a else b
theorem z9b [Gl] {x a b:Operand}:opsD P A c q ops (⟨some t,.pick x a b,ty,pos,af,none⟩ :: l) ⟨tm,H,n⟩ =
  opsP P A c q ops l tm H n t (pickD (boolD (evalO tm x)) (evalO tm a) (evalO tm b)):=by
 refine zil ?_
 simp only [opD,pickD]
 cases boolD (evalO tm x)<;>rfl
theorem zz4 {a b:Dv}:pickD (some true) a b=some a:=rfl
theorem zvt {a b:Dv}:pickD (some false) a b=some b:=rfl
def unD (P:Program) (op:UnOp) (x:Dv):Option Dv:=(concD x).bind fun a=>(zaq P (Op.unary op a)).map fun r=>.p (.v r)
theorem yit [Gl] {uo:UnOp}{ut:TypeId}{x:Operand}:opsD P A c q ops (⟨some t,.unOp uo ut x,ty,pos,af,none⟩ :: l) ⟨tm,H,n⟩ =
  opsP P A c q ops l tm H n t (unD P uo (evalO tm x)):=zil rfl
theorem ydx {b:Bool}:unD P .not (bv b)=some (bv (!b)):=rfl
def maxD (P:Program) (ts:Array TypeId) (ty:TypeId) (xs:List Dv):Option Dv:=zjq P .max ts ty xs
def minD (P:Program) (ts:Array TypeId) (ty:TypeId) (xs:List Dv):Option Dv:=zjq P .min ts ty xs
theorem ydq [Gl] {as:Array Operand}{ts:Array TypeId}:opsD P A c q ops (⟨some t,.call { callee:=.builtin .max,args:=as,argTypes:=ts },ty,pos,af,none⟩ :: l) ⟨tm,H,n⟩ =
  opsP P A c q ops l tm H n t (maxD P ts ty (as.toList.map (evalO tm))):=zil rfl
theorem ycf [Gl] {as:Array Operand}{ts:Array TypeId}:opsD P A c q ops (⟨some t,.call { callee:=.builtin .min,args:=as,argTypes:=ts },ty,pos,af,none⟩ :: l) ⟨tm,H,n⟩ =
  opsP P A c q ops l tm H n t (minD P ts ty (as.toList.map (evalO tm))):=zil rfl
def bsD (P:Program) (H:List Ob) (t:TypeId) (len:Nat) (parts:List (Nat×Dv)):Option (Dv×Option (List Ob)) :=
  match P.underlying t with
  | some (.slice e) =>
   (szOf P e).bind fun sz=>(zey P e).bind fun z =>
   if sz=0∨z.length≠sz∨len*sz > 2 ^ 24 then none else
   (fillD (fun i=>some (i*sz,sz)) ((repl len z).map .p) parts).bind fun ds =>
   (zfh H ds).map fun (cs,l)=>(.p (.lst true len (wkE P e cs)),if l.isEmpty then none else some (zan H l))
  | _=>none
theorem ykh [Gl] {st:TypeId}{len:Nat}{parts:Array (Nat×Operand)}:opsD P A c q ops (⟨some t,.buildSlice st len parts,ty,pos,af,none⟩ :: l) ⟨tm,H,n⟩ =
  opsQ P A c q ops l tm H n t false (bsD P H st len (parts.toList.map fun (i,x)=>(i,evalO tm x))):=by
 rw [zj4];rfl
theorem zzd [Gl] {x y:Operand}{ts:Array TypeId}:opsD P A c q ops (⟨some t,.call { callee:=.builtin .append,args:=#[x,y],argTypes:=ts },ty,pos,af,none⟩ :: l) ⟨tm,H,n⟩ =
  opsQ P A c q ops l tm H n t true ((zer P H ts (evalO tm x) (evalO tm y)).map fun (r,h)=>(r,some h)):=by
 rw [zj4];rfl
theorem z87 [Gl] {st:TypeId}{x y:Operand}:opsD P A c q ops (⟨some t,.makeSlice st x y,ty,pos,af,none⟩ :: l) ⟨tm,H,n⟩ =
  opsQ P A c q ops l tm H n t true ((makeD P H st (evalO tm x) (evalO tm y)).map fun (r,h)=>(r,some h)):=by
 rw [zj4];rfl
theorem z7q {st e sz b m:Nat}{z:List Pv} (h:P.underlying st=some (.slice e)) (hs:szOf P e=some sz) (hb:bytesOf P e=some b) (hz:zey P e=some z) (h3:sz≠0∧b≠0∧z.length=sz) (hm:b*m≤281474976710656) :
  makeD P H st (iv m) (iv m)=some (.ref H.length 0 m sz,H++[.arr (repl m z)]):=by
 simp only [makeD,h,intD,hs,hb,hz,Option.bind_some]
 rw [if_neg (by simp [h3]),if_pos ⟨by omega,by omega,by rw [← Int.natCast_mul];exact Int.ofNat_le.2 hm⟩]
 rfl
def ldOb (x:Option Ob) (off:Nat):Option Dv:=x.bind fun o=>o.cell? off
theorem zab {t:TypeId}{id off:Nat} (h:aggT P t=some false):loadD P H t (.ptr id off)=ldOb H[id]? off:=by
 simp only [loadD,h,ldOb]
 cases H[id]?<;>rfl
theorem zos {cs:List Pv}{off:Nat}:ldOb (some (.arr cs)) off=(cs[off]?).map .p:=rfl
theorem z9a {cs:List Pv}{off:Nat}:ldOb (some (.frz cs)) off=(cs[off]?).map .p:=rfl
theorem zjn {cs:List Dv}{off:Nat}:ldOb (some (.var cs)) off=cs[off]?:=rfl
def stOb (H:List Ob) (id off:Nat) (x:Pv) (o:Option Ob):Option (List Ob) :=
 match o with
 | some (.arr cs)=>if off<cs.length then some (H.set id (.arr (cs.set off x))) else none
 | some (.var cs)=>if off<cs.length then some (H.set id (.var (cs.set off (.p x)))) else none
 | _=>none
theorem zzj {t:TypeId}{id off:Nat}{x:Pv} (hs:szOf P t=some 1) (hx:cellsD (.p x)=some [.p x]) :
  zdf P H t (.ptr id off) (.p x)=stOb H id off x H[id]?:=by
 simp only [zdf,hs,hx]
 cases hid:H[id]? with
 | none=>rfl
 | some o =>
  cases o with
  | arr cs =>
   simp only [stOb,zfh,zk2]
   by_cases h:off<cs.length
   ·rw [if_pos (by simp;omega),if_pos h];simp [zan,setAt]
   ·rw [if_neg (by simp;omega),if_neg h]
  | var cs =>
   simp only [stOb]
   by_cases h:off<cs.length
   ·rw [if_pos (by simp;omega),if_pos h];simp [setAt]
   ·rw [if_neg (by simp;omega),if_neg h]
  | _=>rfl
theorem z7k {id off:Nat}{x:Pv}{cs:List Pv} (h:off<cs.length):stOb H id off x (some (.arr cs))=some (H.set id (.arr (cs.set off x))):=by simp [stOb,h]
def appOb (H:List Ob) (id off n m esz sz b:Nat) (new:List Pv) (o:Option Ob):Option (Dv×List Ob) :=
 match o with
 | some (.arr cs)=>if esz=sz∧off+n*sz≤cs.length∧(n+m)*b≤140737488355328 then some (.ref H.length 0 (n+m) sz,H.set id .dead++[.arr ((cs.drop off).take (n*sz)++new)]) else none
 | some (.var cs)=>if esz=sz∧n≠0∧off+n*sz≤cs.length∧(n+m)*b≤140737488355328 then some (.ref H.length 0 (n+m) sz,H.set id .dead++[.var ((cs.drop off).take (n*sz)++new.map .p)]) else none
 | _=>none
theorem zvz {e e2 t1 t2:TypeId}{sz b:Nat}{z:List Pv}{id off esz n m:Nat}{full:Bool}{new:List Pv} (h:P.underlying t1=some (.slice e)) (h2:P.underlying t2=some (.slice e2)) (hs:szOf P e=some sz) (hb:bytesOf P e=some b) (hz:zey P e=some z)
  (h3:sz≠0∧b≠0∧z.length=sz) (hn:new.length=m*sz) :
  zer P H #[t1,t2] (.ref id off n esz) (.p (.lst full m new))=appOb H id off n m esz sz b new H[id]?:=by
 have e1:(#[t1,t2]:Array TypeId)[0]?=some t1:=rfl
 have e3:srcT P #[t1,t2]=true:=by simp [srcT,h2]
 simp only [zer,e1,Option.bind_some,h,hs,hb,hz,e3]
 rw [if_neg (by simp [h3])]
 simp only [ziz,if_pos hn,Option.bind_some]
 cases H[id]? with
 | none=>rfl
 | some o=>cases o<;>rfl
theorem z34 {id n m sz b:Nat}{cs new:List Pv} (hc:cs.length=n*sz) (hlen:(n+m)*b≤140737488355328):appOb H id 0 n m sz sz b new (some (.arr cs))=some (.ref H.length 0 (n+m) sz,H.set id .dead++[.arr (cs++new)]):=by
 rw [appOb,if_pos ⟨rfl,by omega,hlen⟩]
 simp [← hc]
theorem z1l [Gl] {st:TypeId}{x:Operand}{lo hi:Option Operand}:opsD P A c q ops (⟨some t,.slice st x lo hi none,ty,pos,af,none⟩ :: l) ⟨tm,H,n⟩ =
  opsP P A c q ops l tm H n t (zt1 P H st (evalO tm x) (lo.map (evalO tm)) (hi.map (evalO tm)) none):=by
 refine zil ?_
 simp [opD]
theorem set8 {α:Type}{a0 a1 a2 a3 a4 a5 a6 a7 b:α}{as:List α}{k:Nat}:(a0 :: a1 :: a2 :: a3 :: a4 :: a5 :: a6 :: a7 :: as).set (k+8) b=a0 :: a1 :: a2 :: a3 :: a4 :: a5 :: a6 :: a7 :: as.set k b:=rfl
theorem getD8 {α:Type}{a0 a1 a2 a3 a4 a5 a6 a7 b:α}{as:List α}{k:Nat}:(a0 :: a1 :: a2 :: a3 :: a4 :: a5 :: a6 :: a7 :: as).getD (k+8) b=as.getD k b:=rfl
theorem Wp.ctx (C:Option (Ex×St)→Option (Ex×St)) {x:Option (Ex×St)}{Q R:Ex→St→Prop} (h:Wp x Q) (k:∀ e s,Q e s→Wp (C (some (e,s))) R):Wp (C x) R :=
 let ⟨e,s,h1,h2⟩:=h;by rw [h1];exact k e s h2
end
end Go.Ev

set_option linter.unusedVariables false
set_option linter.unusedSimpArgs false
namespace Go.Ev
theorem zpd {α β:Type}{f:α→Option β}:∀ {l:List α}{ys:List β},l.mapM f=some ys→ys.length=l.length∧∀ i (h:i<l.length) (h':i<ys.length),f l[i]=some ys[i]
 | [],ys,h=>by
  simp only [List.mapM_nil] at h
  cases h
  exact ⟨rfl,fun i h=>absurd h (by simp)⟩
 | a :: l,ys,h=>by
  simp only [List.mapM_cons,Option.bind_eq_bind,Option.bind_eq_some_iff] at h
  obtain ⟨y,h1,ys',h2,h3⟩:=h
  cases h3
  obtain ⟨h4,h5⟩:=zpd h2
  refine ⟨by simp [h4],fun i hi hi'=>?_⟩
  cases i with
  | zero=>simpa using h1
  | succ i=>simpa using h5 i (by simpa using hi) (by simpa using hi')
def NoX:Nat→Prop:=fun _=>False
def Cs (w:World) (cs:List Value) (ps:List Pv):Prop :=
 cs.length=ps.length∧∀ j (h:j<cs.length) (h':j<ps.length),(cs[j]).oneCell'=true∧RepP w NoX cs[j] ps[j]
theorem Cs.nil {w:World}:Cs w [] []:=⟨rfl,fun j h=>absurd h (by simp)⟩
theorem Cs.one {w:World}{v:Value}{p:Pv} (h1:v.oneCell'=true) (h:RepP w NoX v p):Cs w [v] [p] :=
 ⟨rfl,fun j h2 h3=>by
  obtain rfl:j=0:=by simpa using h2
  exact ⟨h1,h⟩⟩
theorem Cs.append {w:World}{a b:List Value}{p q:List Pv} (h1:Cs w a p) (h2:Cs w b q):Cs w (a++b) (p++q):=by
 refine ⟨by simp [h1.1,h2.1],fun j h h'=>?_⟩
 by_cases hj:j<a.length
 ·rw [List.getElem_append_left hj,List.getElem_append_left (by rw [← h1.1];exact hj)]
  exact h1.2 j hj (by rw [← h1.1];exact hj)
 ·have e:=h1.1
  simp only [List.length_append] at h h'
  rw [List.getElem_append_right (by omega),List.getElem_append_right (by omega)]
  have:=h2.2 (j - a.length) (by omega) (by omega)
  simpa only [e] using this
section
variable {P : Program} {w : World} {H : Type} {enc : TypeId × Value → H}
def Sized (P:Program) (t:TypeId) (d:DataW H):Prop:=∀ n∈d.weights P t,n≤reachBytes
theorem zue {e:TypeId}:∀ {l:List (DataW H)},(∀ n∈DataW.weightsAll P e l,n≤reachBytes)→∀ d∈l,Sized P e d
 | [],_,d,h=>by cases h
 | x :: l,h,d,hd=>by
  rw [DataW.weightsAll] at h
  rcases List.mem_cons.1 hd with rfl | hd
  ·exact fun n hn=>h n (List.mem_append_left _ hn)
  ·exact zue (fun n hn=>h n (List.mem_append_right _ hn)) d hd
theorem sized_cons {t:TypeId}{ts:List TypeId}{d:DataW H}{r:List (DataW H)} (h:(DataW.weightsEach P (t :: ts) (d :: r)).all (·≤reachBytes)=true):Sized P t d∧(DataW.weightsEach P ts r).all (·≤reachBytes)=true:=by
 rw [DataW.weightsEach,List.all_append,Bool.and_eq_true] at h
 exact ⟨fun n hn=>by simpa using List.all_eq_true.1 h.1 n hn,h.2⟩
def Opens (enc:TypeId×Value→H) (P:Program) (w:World) (fuel:Nat) (t:TypeId) {T:Type} (wf:T→Prop) (e:T→List Pv):Prop :=
 ∀ (cs:List Value) (d:DataW H) (ps:List MemPlace),DataW.trod enc P w 0 (fun _=>true) true fuel t cs=some (d,ps)→Sized P t d→∃ x,wf x∧Cs w cs (e x)
theorem Opens.zero {t:TypeId}{T:Type}{wf:T→Prop}{e:T→List Pv}:Opens enc P w 0 t wf e:=by
 intro cs d ps h hz
 simp [DataW.trod] at h
def wfInt (k:IntKind) (x:Int):Prop:=(Lit.int k x).wf=true
theorem Opens.int {fuel:Nat}{t:TypeId}{k:IntKind} (hu:P.underlying t=some (.int k)):Opens enc P w fuel t (wfInt k) (fun x=>[.v (.int k x)]):=by
  intro cs d ps h hz
  cases fuel with
  | zero=>simp [DataW.trod] at h
  | succ fuel =>
    unfold DataW.trod at h
    rw [hu] at h
    split at h<;>first | (simp only [reduceCtorEq,Option.some.injEq] at *;done) | skip
    all_goals first
      | (rename_i k1 k2 n e1
         simp only [Option.some.injEq,TypeDesc.int.injEq] at e1
         subst e1
         split at h
         · rename_i hc
           obtain ⟨rfl,hw⟩:=hc
           exact ⟨n,hw,Cs.one rfl (.v _)⟩
         · cases h)
      | cases h
theorem Opens.bool {fuel:Nat}{t:TypeId} (hu:P.underlying t=some .bool):Opens enc P w fuel t (fun (_:Bool)=>True) (fun x=>[.v (.bool x)]):=by
 intro cs d ps h hz
 cases fuel with
 | zero=>simp [DataW.trod] at h
 | succ fuel =>
  unfold DataW.trod at h
  rw [hu] at h
  split at h<;>first | (simp only [reduceCtorEq,Option.some.injEq] at *;done) | skip
  all_goals first
   | exact ⟨_,trivial,Cs.one rfl (.v _)⟩
   | cases h
def wfStr (s:ByteArray):Prop:=s.size≤maxLen
theorem Opens.string {fuel:Nat}{t:TypeId} (hu:P.underlying t=some .string):Opens enc P w fuel t wfStr (fun x=>[.v (.string x)]):=by
  intro cs d ps h hz
  cases fuel with
  | zero=>simp [DataW.trod] at h
  | succ fuel =>
    unfold DataW.trod at h
    rw [hu] at h
    split at h<;>first | (simp only [reduceCtorEq,Option.some.injEq] at *;done) | skip
    all_goals first
      | (split at h
         · rename_i hc
           exact ⟨_,hc,Cs.one rfl (.v _)⟩
         · cases h)
      | cases h
theorem zy8 {base:Nat}{a:Addr}{n:Nat}{cs:List Value} (h:w.cells? base a n=some cs):cs.length=n∧∀ i (h:i<cs.length),w.cell? (a.add i)=some cs[i]:=by
 unfold World.cells? at h
 split at h
 ·obtain ⟨h1,h2⟩:=zpd h
  simp only [List.length_range] at h1
  refine ⟨h1,fun i hi=>?_⟩
  have:=h2 i (by simpa [h1] using hi) hi
  simpa using this
 ·cases h
theorem Opens.slice {fuel:Nat}{t e:TypeId}{T:Type}{wf:T→Prop}{en:T→List Pv}{sz:Nat} (hu:P.underlying t=some (.slice e)) (hsz:P.cellsOf e=sz) (h0:0<sz) (ho:Opens enc P w fuel e wf en) :
    Opens enc P w (fuel+1) t (fun (l:List T)=>(l.length≤maxLen∧l.length*P.bytesOf e≤reachBytes)∧∀ x∈l,wf x) (fun l=>[.lst false l.length (l.flatMap en)]):=by
  intro cs d ps h hz
  unfold DataW.trod at h
  rw [hu] at h
  split at h<;>first | (simp only [reduceCtorEq,Option.some.injEq] at *;done) | skip
  all_goals first
    | (refine ⟨[],⟨⟨by simp,by simp [reachBytes]⟩,by simp⟩,Cs.one rfl ?_⟩
       exact .lst false 0 [] none 0 (fun _=>undef) (Nat.le_refl _) (by simp) (fun h=>absurd rfl h) (fun j h=>absurd h (by simp)) (fun j h=>absurd h (by simp)))
    | skip
  all_goals first | (cases h;done) | skip
  rename_i e' a len cap e1
  simp only [Option.some.injEq,TypeDesc.slice.injEq] at e1
  subst e1
  rw [hsz] at h
  simp only [] at h
  split at h
  · rename_i hc
    rw [Option.bind_eq_some_iff] at h
    obtain ⟨xs,h1,h2⟩:=h
    obtain ⟨h3,h4⟩:=zpd h1
    simp only [List.length_range] at h3
    rw [Option.map_eq_some_iff] at h2
    obtain ⟨rest,_,h2⟩:=h2
    simp only [Prod.mk.injEq] at h2
    obtain ⟨rfl,_⟩:=h2
    have hz':∀ n∈((xs.map (·.1)).length*P.bytesOf e+(rest.map (·.1)).length*P.bytesOf e) :: (DataW.weightsAll P e (xs.map (·.1))++DataW.weightsAll P e (rest.map (·.1))),n≤reachBytes:=by
      have:=hz
      unfold Sized at this
      rw [DataW.weights,hu] at this
      simpa [Nat.add_mul] using this
    have hzb:len*P.bytesOf e≤reachBytes:=by
      have:=hz' _ List.mem_cons_self
      rw [List.length_map,h3] at this
      omega
    have hze:∀ x∈xs.map (·.1),Sized P e x:=zue fun n hn=>hz' n (List.mem_cons_of_mem _ (List.mem_append_left _ hn))
    have key:∀ i,i<len→∃ (x:T) (c:List Value),wf x∧Cs w c (en x)∧c.length=sz∧∀ j (h:j<c.length),w.cell? ((a.add (i*sz)).add j)=some c[j]:=by
      intro i hi
      have h5:=h4 i (by simpa using hi) (by omega)
      simp only [List.getElem_range,Option.bind_eq_some_iff] at h5
      obtain ⟨c,h6,h7⟩:=h5
      obtain ⟨h8,h9⟩:=zy8 h6
      obtain ⟨x,hx,hcs⟩:=ho c _ _ (show _=some ((xs[i]'(by omega)).1,(xs[i]'(by omega)).2) from h7) (hze _ (List.mem_map.2 ⟨_,List.getElem_mem _,rfl⟩))
      exact ⟨x,c,hx,hcs,h8,h9⟩
    have gather:∀ n,n≤len→∃ (l:List T) (c:List Value),l.length=n∧(∀ x∈l,wf x)∧Cs w c (l.flatMap en)∧c.length=n*sz∧∀ j (h:j<c.length),w.cell? (a.add j)=some c[j]:=by
      intro n
      induction n with
      | zero=>intro _;exact ⟨[],[],rfl,by simp,Cs.nil,by simp,fun j h=>absurd h (by simp)⟩
      | succ n ih =>
        intro hn
        obtain ⟨l,c,h5,h6,h7,h8,h9⟩:=ih (by omega)
        obtain ⟨x,c',h10,h11,h12,h13⟩:=key n (by omega)
        refine ⟨l++[x],c++c',by simp [h5], ?_, ?_,by simp [h8,h12,Nat.succ_mul], ?_⟩
        · intro y hy
          rcases List.mem_append.1 hy with hy | hy
          · exact h6 y hy
          · obtain rfl:y=x:=by simpa using hy
            exact h10
        · rw [List.flatMap_append];simpa using h7.append h11
        · intro j hj
          by_cases hjc:j<c.length
          · rw [List.getElem_append_left hjc];exact h9 j hjc
          · simp only [List.length_append] at hj
            rw [List.getElem_append_right (by omega)]
            rw [← h13 (j - c.length) (by omega)]
            congr 1
            unfold Addr.add
            by_cases hz:n*sz=0
            · have hc0:c.length=0:=by omega
              rw [if_pos hz,hc0,Nat.sub_zero]
            · have hj0:j≠0:=by omega
              rw [if_neg hz,if_neg hj0]
              by_cases hk:j - c.length=0
              · rw [if_pos hk]
                have:j=n*sz:=by omega
                rw [this]
              · rw [if_neg hk]
                simp only [Addr.mk.injEq,true_and,and_true]
                omega
    obtain ⟨l,c,h5,h6,h7,h8,h9⟩:=gather len (Nat.le_refl _)
    refine ⟨l,⟨⟨by omega,by rw [h5];exact hzb⟩,h6⟩,Cs.one rfl ?_⟩
    have hlen:(l.flatMap en).length=len*sz:=by rw [← h7.1,h8]
    rw [h5]
    refine .lst false len _ (some a) cap (fun j=>c.getD j undef) hc.2.1 (by simp) (fun hne=>?_) (fun j hj=>?_) (fun j hj=>?_)
    · have hpos:0<c.length:=by
        have:(l.flatMap en).length≠0:=fun e=>hne (List.length_eq_zero_iff.1 e)
        omega
      have hsp:a.spot=none:=by
        have:=h9 0 hpos
        simp only [Addr.add,if_true] at this
        unfold World.cell? at this
        split at this
        · split at this
          · cases this
          · rename_i hns
            cases hs:a.spot with
            | none=>rfl
            | some x=>rw [hs] at hns;simp at hns
        · cases this
      refine ⟨a.block,a.off,by cases a;simp only at hsp;subst hsp;rfl,fun h=>h.elim,fun j hj=>?_⟩
      have hjc:j<c.length:=by omega
      have:=h9 j hjc
      rw [List.getD_eq_getElem?_getD,List.getElem?_eq_getElem hjc,Option.getD_some,← this]
      congr 1
      unfold Addr.add
      split
      · rename_i hj0
        subst hj0
        cases a;simp only at hsp;subst hsp;rfl
      · rfl
    · have hjc:j<c.length:=by omega
      rw [List.getD_eq_getElem?_getD,List.getElem?_eq_getElem hjc]
      exact (h7.2 j hjc hj).1
    · have hjc:j<c.length:=by omega
      rw [List.getD_eq_getElem?_getD,List.getElem?_eq_getElem hjc]
      exact (h7.2 j hjc hj).2
  · cases h
def WfL {T:Type} (b:Nat) (wf:T→Prop) (l:List T):Prop:=(l.length≤maxLen∧l.length*b≤reachBytes)∧∀ x∈l,wf x
theorem Opens.sliceLt {fuel:Nat}{t e:TypeId}{T:Type}{wf:T→Prop}{en:T→List Pv}{sz b:Nat} (hu:P.underlying t=some (.slice e)) (hsz:P.cellsOf e=sz) (hb:P.bytesOf e=b) (h0:0<sz) (ho:∀ f,f<fuel→Opens enc P w f e wf en) :
  Opens enc P w fuel t (WfL b wf) (fun l=>[.lst false l.length (l.flatMap en)]):=by
 subst hb
 cases fuel with
 | zero=>exact Opens.zero
 | succ fuel=>exact Opens.slice hu hsz h0 (ho fuel (by omega))
def OpensF (enc:TypeId×Value→H) (P:Program) (w:World) (fuel:Nat) (fs:List Field) (off n:Nat) {T:Type} (wf:T→Prop) (e:T→List Pv):Prop :=
 ∀ (cs:List Value) (xs:List (DataW H×List MemPlace)),off+n≤cs.length→fs.mapM (fun f=>DataW.trod enc P w 0 (fun _=>true) true fuel f.type ((cs.drop f.offset).take (P.cellsOf f.type)))=some xs→(∀ n∈DataW.weightsEach P (fs.map (·.type)) (xs.map (·.1)),n≤reachBytes)→∃ x,wf x∧Cs w ((cs.drop off).take n) (e x)
theorem OpensF.nil {fuel off:Nat}:OpensF enc P w fuel [] off 0 (fun (_:Unit)=>True) (fun _=>[]):=by
 intro cs xs h1 h2 hz
 exact ⟨(),trivial,by simpa using Cs.nil⟩
theorem OpensF.cons {fuel off n sz:Nat}{f:Field}{fs:List Field}{A B:Type}{wa:A→Prop}{wb:B→Prop}{ea:A→List Pv}{eb:B→List Pv} (hf:f.offset=off) (hs:P.cellsOf f.type=sz)
  (ha:Opens enc P w fuel f.type wa ea) (hb:OpensF enc P w fuel fs (off+sz) n wb eb):OpensF enc P w fuel (f :: fs) off (sz+n) (fun (x:A×B)=>wa x.1∧wb x.2) (fun x=>ea x.1++eb x.2):=by
 intro cs xs h1 h2 hz
 simp only [List.mapM_cons,Option.bind_eq_bind,Option.bind_eq_some_iff] at h2
 obtain ⟨⟨d,ps⟩,h3,ys,h4,h5⟩:=h2
 rw [hf,hs] at h3
 cases h5
 rw [List.map_cons,List.map_cons,DataW.weightsEach] at hz
 obtain ⟨a,h6,h7⟩:=ha _ _ _ h3 (fun n hn=>hz n (List.mem_append_left _ hn))
 obtain ⟨b,h8,h9⟩:=hb cs ys (by omega) h4 (fun n hn=>hz n (List.mem_append_right _ hn))
 refine ⟨(a,b),⟨h6,h8⟩, ?_⟩
 have e:(cs.drop off).take (sz+n)=(cs.drop off).take sz++(cs.drop (off+sz)).take n:=by
  rw [List.take_add,List.drop_drop]
 rw [e]
 exact h7.append h9
theorem Opens.struct {fuel:Nat}{t:TypeId}{fs:Array Field}{n:Nat}{S T:Type}{wf:S→Prop}{e:S→List Pv}{wf':T→Prop}{e':T→List Pv} (hu:P.underlying t=some (.struct fs)) (hn:P.cellsOf t=n)
  (hf:OpensF enc P w fuel fs.toList 0 n wf e) (mk:S→T) (h1:∀ x,wf x→wf' (mk x)) (h2:∀ x,e' (mk x)=e x):Opens enc P w (fuel+1) t wf' e':=by
 intro cs d ps h hz
 have h':(if cs.length=P.cellsOf t then (fs.toList.mapM fun f=>DataW.trod enc P w 0 (fun _=>true) true fuel f.type ((cs.drop f.offset).take (P.cellsOf f.type))).map fun xs=>(DataW.agg (xs.map (·.1)),xs.flatMap (·.2)) else none)=some (d,ps):=by
  rw [← h,DataW.trod]
  rw [hu]
 clear h
 rename _=>h
 split at h
 ·rename_i hc
  simp only [Option.map_eq_some_iff] at h
  obtain ⟨xs,h3,h4⟩:=h
  cases h4
  have hz':∀ n∈DataW.weightsEach P (fs.toList.map (·.type)) (xs.map (·.1)),n≤reachBytes:=by
   have:=hz
   unfold Sized at this
   rw [DataW.weights,hu] at this
   exact this
  obtain ⟨x,h5,h6⟩:=hf cs xs (by omega) h3 hz'
  refine ⟨mk x,h1 x h5, ?_⟩
  rw [h2]
  have:(cs.drop 0).take n=cs:=by rw [List.drop_zero,List.take_of_length_le (by omega)]
  rwa [this] at h6
 ·cases h
theorem Cs.agg {vs:Array Value}{ps:List Pv} (h:Cs w vs.toList ps):RepP w NoX (.agg vs) (.agg ps):=by
 have e:∀ j,j<ps.length→j<vs.toList.length:=fun j hj=>by rw [h.1];exact hj
 have g:∀ j (hj:j<ps.length),vs.getD j undef=(vs.toList)[j]'(e j hj):=fun j hj=>by
  have:=e j hj
  simp only [Array.length_toList] at this
  simp [Array.getD,this]
 exact .agg vs ps (by rw [← h.1];simp) (fun j hj=>by rw [g j hj];exact (h.2 j (e j hj) hj).1) (fun j hj=>by rw [g j hj];exact (h.2 j (e j hj) hj).2)
theorem RepP.lessM {M M':Nat→Prop}{v:Value}{x:Pv} (h:RepP w M v x) (hm:∀ b,M' b→M b):RepP w M' v x:=by
 induction h with
 | v x=>exact .v x
 | lst full n cells A cap us hn hf ha h1 hr ih =>
  exact .lst full n cells A cap us hn hf (fun e=>let ⟨b,o,e1,e2,e3⟩:=ha e;⟨b,o,e1,fun h=>e2 (hm b h),e3⟩) h1 ih
 | agg vs cs hl h1 hr ih=>exact .agg vs cs hl h1 ih
 | tup vs cs hl hr ih=>exact .tup vs cs hl ih
 | iptr cells off b o us ha h1 hr ih=>exact .iptr cells off b o us (fun e=>let ⟨e2,e3⟩:=ha e;⟨fun h=>e2 (hm b h),e3⟩) h1 ih
 | fn f vs cs hl hr ih=>exact .fn f vs cs hl ih
theorem zx2 {ρ:Pl}{b:Nat}:¬ Live [] ρ b:=by
 rintro ⟨i,o,bs,h,_⟩
 simp at h
theorem z3y {ρ:Pl}{b:Nat}:Mut NoX [] ρ b→NoX b:=by
 rintro (h | h)
 ·exact h
 ·exact (zx2 h).elim
theorem yb9 [Gl] (hg:GlobOk w NoX):Sim NoX w [] (fun _=>none) where
 xlt:=fun b h=>h.elim
 obs:=fun i o h=>by simp at h
 inj:=fun i j o o' b bs bs' h=>by simp at h
 globs:=hg.sub fun b=>z3y
theorem law_calls [Gl] {A:Ann}{f:FuncId}{ps:List Pv}{vs:Array Value} (hN:Names P) (hm:P.follows .mixedOrders=true) (hB:zov P A) (hC:zwa P A) (hE:ExtOk P A) (hg:GlobOk w NoX) (hex:∃ fn c,P.funcs[f]?=some fn∧fn.body=some c)
  (h:callW P A f (ps.map .p) []=some (bv true,[])) (hl:vs.size=ps.length) (hr:∀ j (h:j<ps.length),RepP w NoX (vs.getD j undef) ps[j]) :
  Calls P f vs w fun e w'=>e=.returned (.bool true)∧RowKit.Below w.heap.size w w':=by
 obtain ⟨k,hk⟩:=zee.1 h
 have hc:=zyi hN hm hB hC hE k f _ _ _ _ hk
 have:=hc NoX w (fun _=>none) vs (yb9 hg) ⟨by simp [hl],fun j hj=>by
  simp only [List.length_map] at hj
  simp only [List.getElem_map]
  exact .p _ _ ((hr j hj).lessM fun b=>z3y)⟩
 rcases this with ⟨_,this⟩ | ⟨_,_,hrun,_⟩
 rotate_left
 ·obtain ⟨fn,c,h1,h2⟩:=hex
  have h3:fn.name≠"runtime.NumGoroutine":=by simpa using hN f fn h1
  simp [callFunc,h1,h2,h3] at hrun
 refine this.mono ?_
 rintro e w' ⟨v,ρ',rfl,hf⟩
 have hv:v=.bool true:=by
  have:=hf.rep
  cases this with
  | p _ _ h2=>cases h2;rfl
 subst hv
 exact ⟨rfl,⟨hf.evo.os,hf.evo.tape,hf.evo.output,hf.evo.size,fun b hb=>hf.evo.block b hb zx2⟩⟩
end
end Go.Ev

set_option linter.unusedVariables false
namespace Go.Ev
def bodiesB [Gl] (P:Program) (A:Ann):Bool:=P.funcs.toList.zipIdx.all fun (fn,f)=>!A.okf f || match fn.body with | some c=>zkw A f c | none=>true
theorem bodies_of [Gl] {P:Program}{A:Ann} (h:bodiesB P A=true):zov P A:=by
 intro f fn c ho hf hb
 have h1:(fn,f)∈P.funcs.toList.zipIdx:=by
  rw [List.mem_zipIdx_iff_getElem?]
  simpa using hf
 have:=List.all_eq_true.1 h _ h1
 simp only [ho,hb,Bool.not_true,Bool.false_or] at this
 exact this
def namesB (P:Program):Bool:=P.funcs.toList.all fun fn=>!(fn.name == "runtime.NumGoroutine")
theorem names_of {P:Program} (h:namesB P=true):Names P:=by
 intro g fn hf
 have h1:fn∈P.funcs.toList:=by
  have:=Array.mem_of_getElem? hf
  simpa using this
 have:=List.all_eq_true.1 h _ h1
 simpa using this
end Go.Ev

