/- A part of the proof: E1. No conditions of its own. -/
import Derived.Test.YtcpenhffpgajoaaE0
import Derived.Laws.Tables
import Derived.IntWalk
import Derived.Laws.Append
set_option linter.unusedVariables false
set_option linter.unusedSimpArgs false
namespace Go.Ev
section
variable {P : Program} {X M : Nat → Prop} {w : World} {H : List Ob} {ρ : Pl}
theorem zgu {α:Type}:∀ (es:List α) (cs:List α) (off:Nat),(setAt cs off es).length=cs.length
 | [],cs,off=>rfl
 | e :: es,cs,off=>by simp [setAt,zgu es]
theorem zu9 {α:Type}:∀ (es:List α) (cs:List α) (off j:Nat),off+es.length≤cs.length →
  (setAt cs off es)[j]?=if off≤j∧j<off+es.length then es[j - off]? else cs[j]?
 | [],cs,off,j,_=>by
  rw [if_neg (by simp only [List.length_nil];omega)];rfl
 | e :: es,cs,off,j,h=>by
  simp only [List.length_cons] at h
  simp only [setAt]
  rw [zu9 es (cs.set off e) (off+1) j (by simp;omega)]
  by_cases hj:j=off
  ·subst hj
   rw [if_neg (by omega),if_pos (by simp),List.getElem?_set_self (by omega)]
   simp
  ·by_cases h2:off+1≤j∧j<off+1+es.length
   ·rw [if_pos h2,if_pos (by simp;omega)]
    obtain ⟨k,hk⟩:∃ k,j - off=k+1:=⟨j - off - 1,by omega⟩
    rw [hk,show j - (off+1)=k from by omega]
    simp
   ·rw [if_neg h2,if_neg (by simp;omega),List.getElem?_set_ne (by omega)]
theorem zjo (w:World) (g b:Nat) (C:Array Value) (h:b≠g):(w.setRow g C).heap[b]?=w.heap[b]?:=by
 simp only [World.setRow,Array.getElem?_modify]
 rw [if_neg (by omega)]
theorem zld {w:World}{g:Nat}{C C':Array Value} (hg:Blk w g C) (hl:C'.size=C.size):∀ b D,Blk w b D→∃ D',Blk (w.setRow g C') b D'∧D'.size=D.size:=by
 intro b D hD
 by_cases hb:b=g
 ·subst hb
  obtain ⟨T,fr,h⟩:=hg
  refine ⟨C',⟨T,fr,setRow_heap w b C C' T fr h⟩, ?_⟩
  rw [hl]
  exact congrArg Array.size (Blk.unique ⟨T,fr,h⟩ hD)
 ·obtain ⟨T,fr,h⟩:=hD
  exact ⟨D,⟨T,fr,by rw [zjo _ _ _ _ hb];exact h⟩,rfl⟩
def rowOf (C:Array Value) (o:Nat) (vs:Array Value):Array Value:=(C.toList.take o++vs.toList++C.toList.drop (o+vs.size)).toArray
theorem zhn {C:Array Value}{o:Nat}{vs:Array Value} (h:o+vs.size≤C.size):(rowOf C o vs).size=C.size:=by
 simp [rowOf];omega
theorem z3n {C:Array Value}{o:Nat}{vs:Array Value} (h:o+vs.size≤C.size) (j:Nat):(rowOf C o vs)[j]?=if o≤j∧j<o+vs.size then vs[j - o]? else C[j]?:=by
 have e:(rowOf C o vs)[j]?=(C.toList.take o++vs.toList++C.toList.drop (o+vs.size))[j]?:=by simp [rowOf]
 rw [e]
 by_cases h1:j<o
 ·rw [List.append_assoc,List.getElem?_append_left (by simp;omega),if_neg (by omega)]
  simp [List.getElem?_take,h1]
 ·by_cases h2:j<o+vs.size
  ·rw [List.getElem?_append_left (by simp;omega),List.getElem?_append_right (by simp;omega),if_pos (by omega)]
   simp
   congr 1
   omega
  ·rw [List.getElem?_append_right (by simp;omega),if_neg (by omega)]
   simp only [List.getElem?_drop,List.length_append,List.length_take,Array.length_toList]
   rw [show o+vs.size+(j - (min o C.size+vs.size))=j from by omega]
   simp
theorem zns {C:Array Value}{o:Nat}{vs:Array Value} (h:o+vs.size≤C.size) (j:Nat):(rowOf C o vs).getD j undef=if o≤j∧j<o+vs.size then vs.getD (j - o) undef else C.getD j undef:=by
 rw [Array.getD_eq_getD_getElem?,z3n h,Array.getD_eq_getD_getElem?,Array.getD_eq_getD_getElem?]
 split<;>rfl
theorem zid {b o:Nat}{C:Array Value}{T:TypeId}{vs:Array Value} (hC:w.heap[b]?=some (.cells C T (0,0))) (hf:o+vs.size≤C.size) (h1:∀ j,j<vs.size→(vs.getD j undef).oneCell'=true) :
  (storeCells ⟨b,o,none⟩ vs.toList).run P w=.ok () (w.setRow b (rowOf C o vs)):=by
 have:=run_storeCells_at P b o T vs.toList 0 C w hC (by simpa using hf) (by
  intro v hv
  obtain ⟨j,hj,e⟩:=List.getElem_of_mem hv
  have h2:=h1 j (by simpa using hj)
  have h3:vs.getD j undef=v:=by
   rw [Array.getD_eq_getD_getElem?]
   simp at hj
   simp [hj]
   simpa using e
  rw [h3] at h2;exact h2)
 simpa [rowOf] using this
theorem zsg [Gl] {k:Nat}{o o':Ob} (hs:Sim X w H ρ) (hk:H[k]?=some o) (hol:o.live=true) (hol':o'.live=true) {b bs:Nat}{C:Array Value} (e:ρ k=some (b,bs)) (hx:¬ X b) (hC:Own w b C)
  {at_:Nat}{vs:Array Value} (hf:at_+vs.size≤C.size)
  (hob:Evo H.length w H ρ (w.setRow b (rowOf C at_ vs)) (H.set k o') ρ→Own (w.setRow b (rowOf C at_ vs)) b (rowOf C at_ vs)→ObOk (w.setRow b (rowOf C at_ vs)) X (H.set k o') ρ k o') :
  Evo H.length w H ρ (w.setRow b (rowOf C at_ vs)) (H.set k o') ρ∧Sim X (w.setRow b (rowOf C at_ vs)) (H.set k o') ρ:=by
 have h5:∀ b',¬ (∃ x bs',H[k]?=some x∧x.live=true∧ρ k=some (b',bs'))→(w.setRow b (rowOf C at_ vs)).heap[b']?=w.heap[b']?:=by
  intro b' hb'
  apply zjo
  rintro rfl
  exact hb' ⟨o,bs,hk,hol,e⟩
 have h6:=zld hC.blk (zhn hf)
 have hsz:(w.setRow b (rowOf C at_ vs)).heap.size=w.heap.size:=by simp [World.setRow]
 have he:Evo H.length w H ρ (w.setRow b (rowOf C at_ vs)) (H.set k o') ρ:=Evo.setOb rfl rfl rfl hsz h5 h6 (fun _=>⟨o,hk,hol⟩) (fun _=>⟨o,hk,by cases o<;>simp_all [Ob.live,Ob.alive]⟩)
 refine ⟨he,hs.setOb rfl rfl rfl hsz h5 h6 (fun _=>⟨o,hk,hol⟩) (fun _=>⟨o,hk,by cases o<;>simp_all [Ob.live,Ob.alive]⟩) (fun _=>hob he ?_)⟩
 obtain ⟨T,hT⟩:=hC
 exact ⟨T,setRow_heap w b C _ T _ hT⟩
theorem CellsD.write {C:Array Value}{bs:Nat}{ds es:List Dv}{vs:Array Value} (h:CellsD w M H ρ C bs ds) (hv:COk w M H ρ vs es) {off:Nat} (hf:off+es.length≤ds.length) :
  CellsD w M H ρ (rowOf C (bs+off) vs) bs (setAt ds off es):=by
 have hsz:bs+off+vs.size≤C.size:=by have:=h.1;have:=hv.1;omega
 refine ⟨by rw [zgu,zhn hsz];exact h.1,fun j hj=>?_⟩
 rw [zgu] at hj
 have e1:=zu9 es ds off j hf
 rw [zns hsz,hv.1]
 by_cases hc:off≤j∧j<off+es.length
 ·rw [if_pos hc] at e1
  rw [if_pos (by omega)]
  have e2:(setAt ds off es)[j]'(by rw [zgu];exact hj)=es[j - off]'(by omega):=by
   rw [List.getElem?_eq_getElem (by rw [zgu];exact hj),List.getElem?_eq_getElem (by omega)] at e1
   exact Option.some.inj e1
  rw [e2,show bs+j - (bs+off)=j - off from by omega]
  exact hv.2 (j - off) (by omega)
 ·rw [if_neg hc] at e1
  rw [if_neg (by omega)]
  have e2:(setAt ds off es)[j]'(by rw [zgu];exact hj)=ds[j]:=by
   rw [List.getElem?_eq_getElem (by rw [zgu];exact hj),List.getElem?_eq_getElem hj] at e1
   exact Option.some.inj e1
  rw [e2]
  exact h.2 j hj
theorem zvc {α β:Type} (f:α→β):∀ (es cs:List α) (off:Nat),(setAt cs off es).map f=setAt (cs.map f) off (es.map f)
 | [],cs,off=>rfl
 | e :: es,cs,off=>by simp [setAt,zvc f es]
theorem CellsP.write {C:Array Value}{bs:Nat}{ds es:List Pv}{vs:Array Value} (h:CellsP w M C bs ds) (hv:COk w M H ρ vs (es.map .p)) {off:Nat} (hf:off+es.length≤ds.length) :
  CellsP w M (rowOf C (bs+off) vs) bs (setAt ds off es):=by
 have:=CellsD.write (H:=H) (ρ:=ρ) h.dyn hv (off:=off) (by simpa using hf)
 rw [← zvc] at this
 exact this.pure
theorem zf8 {l:List Nat}:∀ {H:List Ob}{id:Nat}{cs:List Pv},(H[id]?=some (.frz cs)∨(id∈l∧H[id]?=some (.arr cs))∨(id∈l∧H[id]?=some (.var (cs.map .p))))→(zan H l)[id]?=some (.frz cs):=by
 have allPmap:∀ cs:List Pv,allP (cs.map Dv.p)=some cs:=by
  intro cs;induction cs with
  | nil=>rfl
  | cons a l ih=>simp [allP,ih]
 induction l with
 | nil=>intro H id cs h;simpa [zan] using h
 | cons i l ih =>
  intro H id cs h
  simp only [zan]
  apply ih
  by_cases hi:i=id
  ·subst hi
   left
   unfold frzAt
   rcases h with h | ⟨_,h⟩ | ⟨_,h⟩<;>simp only [h]
   ·simp [frzOb,(List.getElem?_eq_some_iff.1 h).1]
   ·simp [frzOb,(List.getElem?_eq_some_iff.1 h).1]
   ·simp [frzOb,(List.getElem?_eq_some_iff.1 h).1,allPmap]
  ·have e:(frzAt H i)[id]?=H[id]?:=by
    unfold frzAt
    split
    ·rw [List.getElem?_set_ne hi]
    ·rfl
   rw [e]
   rcases h with h | ⟨hm,h⟩ | ⟨hm,h⟩
   ·exact .inl h
   ·refine .inr (.inl ⟨?_,h⟩)
    rcases List.mem_cons.1 hm with h' | h'
    ·exact absurd h'.symm hi
    ·exact h'
   ·refine .inr (.inr ⟨?_,h⟩)
    rcases List.mem_cons.1 hm with h' | h'
    ·exact absurd h'.symm hi
    ·exact h'
theorem z64 (cs:List Pv):allP (cs.map Dv.p)=some cs:=by
 induction cs with
 | nil=>rfl
 | cons a l ih=>simp [allP,ih]
theorem zmp [Gl] (hs:Sim X w H ρ) {id off len esz:Nat}{cs:List Pv} (hid:H[id]?=some (.frz cs)) {v:Value} (hv:RepD w (Mut X H ρ) H ρ v (.ref id off len esz)) (hsz:off+len*esz≤cs.length) :
  RepP w (Mut X H ρ) v (.lst false len ((cs.drop off).take (len*esz))):=by
 obtain ⟨A,cap,rfl,hlt,hn,ha⟩:=zks hv
 have hl:((cs.drop off).take (len*esz)).length=len*esz:=by simp;omega
 rcases hs.obs id _ hid with ⟨h0,e⟩ | ⟨b,bs,C,e,hx,hC,hcs⟩
 ·subst h0
  have h2:len*esz=0:=by simp at hsz;omega
  rw [h2]
  exact .lst false len _ A cap (fun _=>undef) hn (fun h=>by cases h) (fun h=>absurd rfl h) (fun j hj=>absurd hj (by simp)) (fun j hj=>absurd hj (by simp))
 ·refine .lst false len _ A cap (fun j=>C.getD (bs+(off+j)) undef) hn (fun h=>by cases h) (fun hne=>?_) (fun j hj=>?_) (fun j hj=>?_)
  ·have hpos:0<len*esz:=by
    rcases Nat.eq_zero_or_pos (len*esz) with h2 | h2
    ·rw [h2] at hne;simp at hne
    ·exact h2
   have hlen:0<len:=by
    rcases Nat.eq_zero_or_pos len with h2 | h2
    ·subst h2;simp at hpos
    ·exact h2
   obtain ⟨a,rfl,hal⟩:=ha (by omega)
   obtain ⟨b',bs',C',e1,rfl,hC',_⟩:=hal ⟨_,hid,rfl⟩
   rw [e] at e1
   simp only [Option.some.injEq,Prod.mk.injEq] at e1
   obtain ⟨rfl,rfl⟩:=e1
   refine ⟨b,bs+off,rfl,hx,fun j hj=>?_⟩
   rw [hC.cell,Nat.add_assoc]
   have:=hcs.1
   exact getD_some (by omega)
  ·exact (hcs.2 (off+j) (by omega)).1
  ·have:=(hcs.2 (off+j) (by omega)).2
   simpa using this
theorem zvl [Gl] (hs:Sim X w H ρ) {id off:Nat}{cs:List Pv} (hid:H[id]?=some (.frz cs)) {v:Value} (hv:RepD w (Mut X H ρ) H ρ v (.ptr id off)) (hne:cs≠[]) :
  RepP w (Mut X H ρ) v (.iptr cs off):=by
 cases hv with
 | ptr _ _ a hlt hal =>
  rcases hs.obs id _ hid with ⟨h0,e⟩ | ⟨b,bs,C,e,hx,hC,hcs⟩
  ·exact absurd h0 hne
  ·obtain ⟨b',bs',e1,rfl⟩:=hal ⟨_,hid,rfl⟩
   rw [e] at e1
   simp only [Option.some.injEq,Prod.mk.injEq] at e1
   obtain ⟨rfl,rfl⟩:=e1
   refine .iptr cs off b bs (fun j=>C.getD (bs+j) undef) (fun _=>⟨hx,fun j hj=>?_⟩) (fun j hj=>(hcs.2 j hj).1) (fun j hj=>(hcs.2 j hj).2)
   rw [hC.cell]
   have:=hcs.1
   exact getD_some (by omega)
theorem zqa [Gl] (hs:Sim X w H ρ) {v:Value}{d:Dv}{x:Pv}{l:List Nat} (hv:RepD w (Mut X H ρ) H ρ v d) (h:zk2 H d=some (x,l)) (l':List Nat) (hl:∀ i∈l,i∈l') :
  RepP w (Mut X (zan H l') ρ) v x:=by
 obtain ⟨he,hs'⟩:=zgf l' hs
 have hv':=hv.evo he
 unfold zk2 at h
 split at h
 ·simp only [Option.some.injEq,Prod.mk.injEq] at h
  obtain ⟨rfl,rfl⟩:=h
  exact hv'.toP
 ·rename_i id off len esz
  split at h
  ·rename_i cs hid
   split at h
   ·rename_i hsz
    simp only [Option.some.injEq,Prod.mk.injEq] at h
    obtain ⟨rfl,rfl⟩:=h
    exact zmp hs' (zf8 (.inr (.inl ⟨hl id (by simp),hid⟩))) hv' hsz
   ·cases h
  ·rename_i cs hid
   split at h
   ·rename_i hsz
    simp only [Option.some.injEq,Prod.mk.injEq] at h
    obtain ⟨rfl,rfl⟩:=h
    exact zmp hs' (zf8 (.inl hid)) hv' hsz
   ·cases h
  ·cases h
 ·rename_i id off
  split at h
  ·rename_i cs hid
   split at h
   ·cases h
   ·rename_i hne
    simp only [Option.some.injEq,Prod.mk.injEq] at h
    obtain ⟨rfl,rfl⟩:=h
    exact zvl hs' (zf8 (.inr (.inl ⟨hl id (by simp),hid⟩))) hv' (by simpa using hne)
  ·rename_i cs hid
   split at h
   ·cases h
   ·rename_i hne
    simp only [Option.some.injEq,Prod.mk.injEq] at h
    obtain ⟨rfl,rfl⟩:=h
    exact zvl hs' (zf8 (.inl hid)) hv' (by simpa using hne)
  ·rename_i ds hid
   split at h
   ·cases h
   ·rename_i hne
    simp only [Option.map_eq_some_iff,Prod.mk.injEq] at h
    obtain ⟨cs,h1,rfl,rfl⟩:=h
    have:=zin h1
    subst this
    exact zvl hs' (zf8 (.inr (.inr ⟨hl id (by simp),hid⟩))) hv' (by simpa using hne)
  ·cases h
 ·cases h
theorem zh4 [Gl] (hs:Sim X w H ρ) {vs:Array Value}:∀ {ds:List Dv}{xs:List Pv}{l:List Nat},zfh H ds=some (xs,l)→∀ (l':List Nat),(∀ i∈l,i∈l') →
  xs.length=ds.length∧∀ j (h1:j<xs.length) (h2:j<ds.length) (v:Value),RepD w (Mut X H ρ) H ρ v ds[j]→RepP w (Mut X (zan H l') ρ) v xs[j]
 | [],xs,l,h,l',hl=>by
  simp only [zfh,Option.some.injEq,Prod.mk.injEq] at h
  obtain ⟨rfl,rfl⟩:=h
  exact ⟨rfl,fun j h1=>absurd h1 (by simp)⟩
 | d :: ds,xs,l,h,l',hl=>by
  simp only [zfh] at h
  split at h
  ·rename_i x l1 ys l2 h1 h2
   simp only [Option.some.injEq,Prod.mk.injEq] at h
   obtain ⟨rfl,rfl⟩:=h
   obtain ⟨e,ih⟩:=zh4 hs (vs:=vs) h2 l' (fun i hi=>hl i (by simp [hi]))
   refine ⟨by simp [e],fun j h3 h4 v hv=>?_⟩
   cases j with
   | zero=>exact zqa hs hv h1 l' (fun i hi=>hl i (by simp [hi]))
   | succ j=>exact ih j (by simpa using h3) (by simpa using h4) v hv
  ·cases h
end
end Go.Ev

set_option linter.unusedVariables false
set_option linter.unusedSimpArgs false
namespace Go.Ev
section
variable {P : Program} {X M : Nat → Prop} {w : World} {H : List Ob} {ρ : Pl}
theorem z38 {w':World}{ob:Ob}{b bs:Nat}:RepD w' (Mut X (H++[ob]) (updPl ρ H.length (some (b,bs)))) (H++[ob]) (updPl ρ H.length (some (b,bs))) (.pointer (some ⟨b,bs,none⟩)) (.ptr H.length 0) :=
 .ptr H.length 0 _ (by simp) (fun _=>⟨b,bs,zdm ..,rfl⟩)
theorem zj9 {t:TypeId}{cs:List Pv} (h:zey P t=some cs) (w:World):∃ z,(zeroValue t).run P w=.ok z w∧∀ M H ρ,COk w M H ρ z.cells (cs.map .p):=by
 unfold zey at h
 simp only [Option.bind_eq_some_iff] at h
 obtain ⟨y,h1,h2⟩:=h
 obtain ⟨z,h3,rfl⟩:=zte h1 w
 exact ⟨z,h3,fun M H ρ=>z2t (zs4 z) h2⟩
theorem z7r [Gl] (hs:Sim X w H ρ) {e:TypeId}{cs:List Pv} (h:zey P e=some cs) :
  ∃ v w' ρ',(Instr.alloc e true (.tuple #[])).run P w=.ok v w'∧Fin X w H ρ w' (H++[.var (cs.map .p)]) ρ' v (.ptr H.length 0):=by
 obtain ⟨z,hz,hc⟩:=zj9 h w
 obtain ⟨he,hs'⟩:=zr9 hs z.cells e (cs.map .p) (hc _ _ _).cellsD
 exact ⟨_,_,_,by simp only [Instr.alloc,Sem.run_bind,hz,Result.andThen_ok,newVar,newRow,run_newObj,Sem.run_pure],he,hs',z38⟩
theorem yiz [Gl] (hs:Sim X w H ρ) {e:TypeId}{v:Value}{d:Dv} (hv:RepD w (Mut X H ρ) H ρ v d) {ds:List Dv} (h:cellsD d=some ds) :
  ∃ r w' ρ',(Instr.box e v).run P w=.ok r w'∧Fin X w H ρ w' (H++[.var ds]) ρ' r (.ptr H.length 0):=by
 obtain ⟨he,hs'⟩:=zr9 hs v.cells e ds (zky hv h).cellsD
 exact ⟨_,_,_,by simp only [Instr.box,Sem.run_bind,newVar,newRow,run_newObj,Result.andThen_ok,Sem.run_pure],he,hs',z38⟩
theorem COk.set {vs:Array Value}{ds:List Dv} (h:COk w M H ρ vs ds) {v:Value}{d:Dv} (h1:v.oneCell'=true) (hv:RepD w M H ρ v d) (k:Nat):COk w M H ρ (vs.setIfInBounds k v) (ds.set k d):=by
 refine ⟨by simp [h.1],fun j hj=>?_⟩
 simp only [List.length_set] at hj
 have hj':j<vs.size:=by rw [h.1];exact hj
 by_cases hk:k=j
 ·subst hk
  have e1:(vs.setIfInBounds k v).getD k undef=v:=by simp [hj']
  rw [e1]
  simpa using ⟨h1,hv⟩
 ·have e1:(vs.setIfInBounds k v).getD j undef=vs.getD j undef:=by simp [hj',Array.getElem_setIfInBounds,hk]
  have e2:(ds.set k d)[j]'(by simpa using hj)=ds[j]:=by simp [List.getElem_set,hk]
  rw [e1,e2];exact h.2 j hj
theorem zxv:∀ (l:List Value) (es:List Dv) (k off:Nat) (cells:Array Value) (ds:List Dv),COk w M H ρ cells ds→l.length=es.length →
  (∀ j (h1:j<l.length) (h2:j<es.length),l[j].oneCell'=true∧RepD w M H ρ l[j] es[j]) →
  COk w M H ρ ((l.zipIdx k).foldl (fun cs (c,j)=>cs.setIfInBounds (off+j) c) cells) (setAt ds (off+k) es)
 | [],[],k,off,cells,ds,h,_,_=>h
 | v :: l,d :: es,k,off,cells,ds,h,hl,hv=>by
  simp only [List.zipIdx_cons,List.foldl_cons,setAt]
  have h0:=hv 0 (by simp) (by simp)
  have:=zxv l es (k+1) off _ _ (h.set h0.1 h0.2 (off+k)) (by simpa using hl) (fun j h1 h2=>hv (j+1) (by simpa using h1) (by simpa using h2))
  rwa [show off+(k+1)=off+k+1 from by omega] at this
 | [],_ :: _,_,_,_,_,_,hl,_=>by simp at hl
 | _ :: _,[],_,_,_,_,_,hl,_=>by simp at hl
theorem z56 {cells vs:Array Value}{ds es:List Dv} (h:COk w M H ρ cells ds) (hv:COk w M H ρ vs es) (off:Nat) :
  COk w M H ρ (vs.zipIdx.foldl (fun cs (c,j)=>cs.setIfInBounds (off+j) c) cells) (setAt ds off es):=by
 rw [← Array.foldl_toList]
 have:=zxv vs.toList es 0 off cells ds h (by simpa using hv.1) (fun j h1 h2=>by
  have:=hv.2 j h2
  have e:vs.getD j undef=vs.toList[j]:=by simp at h1;simp [h1]
  rw [e] at this
  exact this)
 simpa using this
theorem zvr {place:Nat→Option (Nat×Nat)}{parts:List (Nat×Value)}:∀ {dparts:List (Nat×Dv)}{cells:Array Value}{ds rs:List Dv},
  parts.length=dparts.length→(∀ j (h1:j<parts.length) (h2:j<dparts.length),(parts[j]).1=(dparts[j]).1∧RepD w M H ρ (parts[j]).2 (dparts[j]).2) →
  COk w M H ρ cells ds→fillD place ds dparts=some rs→∃ cells',Instr.fill place cells parts=some cells'∧COk w M H ρ cells' rs:=by
 induction parts with
 | nil =>
  intro dparts cells ds rs hl hp h hf
  cases dparts with
  | nil=>simp only [fillD,Option.some.injEq] at hf;subst hf;exact ⟨cells,rfl,h⟩
  | cons=>simp at hl
 | cons p parts ih =>
  intro dparts cells ds rs hl hp h hf
  cases dparts with
  | nil=>simp at hl
  | cons q dparts =>
   obtain ⟨i,v⟩:=p
   obtain ⟨i',d⟩:=q
   have h0:=hp 0 (by simp) (by simp)
   simp only [List.getElem_cons_zero] at h0
   obtain ⟨rfl,hv⟩:=h0
   simp only [fillD] at hf
   split at hf
   ·rename_i off size es hpl hes
    split at hf
    ·rename_i hc
     have hcv:=zky hv hes
     have hcond:¬ (v.cells.size≠size || off+v.cells.size > cells.size)=true:=by
      rw [hcv.1,h.1]
      simp only [ne_eq,Bool.or_eq_true,decide_eq_true_eq,not_or,Decidable.not_not]
      exact ⟨hc.1,by omega⟩
     obtain ⟨cells',h1,h2⟩:=ih (by simpa using hl) (fun j h1 h2=>hp (j+1) (by simpa using h1) (by simpa using h2)) (z56 h hcv off) hf
     refine ⟨cells', ?_,h2⟩
     simp only [Instr.fill,hpl]
     rw [if_neg hcond]
     exact h1
    ·cases hf
   ·cases hf
theorem zwp {fs:List Field}:∀ {l:List (Nat×Nat)},zp5 P fs=some l→(fs.mapM (m:=Sem) fun f=>do pure (f.offset,← sizeOf f.type)).run P w=.ok l w:=by
 induction fs with
 | nil=>intro l h;simp only [zp5,Option.some.injEq] at h;subst h;rfl
 | cons f fs ih =>
  intro l h
  simp only [zp5] at h
  split at h
  ·rename_i n l' hn hl
   simp only [Option.some.injEq] at h
   subst h
   have:=ih hl
   simp only [List.mapM_cons,Sem.run_bind,zeu hn,Result.andThen_ok,Sem.run_pure,this]
  ·cases h
theorem z95 {t:TypeId}{pl:Nat→Option (Nat×Nat)}{z:List Pv}{rs:List Dv}{parts:Array (Nat×Value)}{dparts:List (Nat×Dv)} (hpl:zux P t=some pl) (hz:zey P t=some z)
  (hl:parts.size=dparts.length) (hp:∀ j (h1:j<parts.size) (h2:j<dparts.length),(parts[j]).1=(dparts[j]).1∧RepD w M H ρ (parts[j]).2 (dparts[j]).2)
  (hf:fillD pl (z.map .p) dparts=some rs):∃ v,(Instr.build t parts).run P w=.ok v w∧RepD w M H ρ v (mkAgg rs):=by
 obtain ⟨zv,hzv,hc⟩:=zj9 hz w
 unfold zux at hpl
 split at hpl
 ·rename_i fs hu
  simp only [Option.map_eq_some_iff] at hpl
  obtain ⟨l,h1,rfl⟩:=hpl
  obtain ⟨cells',h2,h3⟩:=zvr (place:=fun i=>l[i]?) (parts:=parts.toList) (by simpa using hl) (fun j h1 h2=>by simpa using hp j (by simpa using h1) h2) (hc M H ρ) hf
  refine ⟨.agg cells', ?_,RepD.mkAgg h3⟩
  have hm:=zwp (w:=w) h1
  have h2':Instr.fill (fun i=>l.toArray[i]?) zv.cells parts.toList=some cells':=by simpa using h2
  simp only [Instr.build,Sem.run_bind,hzv,Result.andThen_ok,zb6 hu]
  rw [Array.mapM_eq_mapM_toList]
  simp only [Sem.run_map,hm,Result.andThen_ok,h2',Sem.run_pure]
 ·rename_i n e hu
  simp only [Option.map_eq_some_iff] at hpl
  obtain ⟨sz,h1,rfl⟩:=hpl
  obtain ⟨cells',h2,h3⟩:=zvr (place:=fun i=>some (i*sz,sz)) (parts:=parts.toList) (by simpa using hl) (fun j h1 h2=>by simpa using hp j (by simpa using h1) h2) (hc M H ρ) hf
  refine ⟨.agg cells', ?_,RepD.mkAgg h3⟩
  simp only [Instr.build,Sem.run_bind,hzv,Result.andThen_ok,zb6 hu,zeu h1,h2,Sem.run_pure]
 ·cases hpl
theorem zgs {α:Type} (z:List α):∀ n,(repl n z).length=n*z.length
 | 0=>by simp [repl]
 | n+1=>by rw [repl,List.length_append,zgs z n,Nat.succ_mul,Nat.add_comm]
theorem zx5 {α:Type} (z:List α):∀ n j (h:j<(repl n z).length),∃ h':j % z.length<z.length,(repl n z)[j]=z[j % z.length]
 | 0,j,h=>by simp [repl] at h
 | n+1,j,h=>by
  by_cases hj:j<z.length
  ·refine ⟨Nat.mod_lt _ (by omega), ?_⟩
   simp only [repl]
   rw [List.getElem_append_left hj]
   simp [Nat.mod_eq_of_lt hj]
  ·have hlen:=zgs z (n+1)
   have hlen':=zgs z n
   have h2:j - z.length<(repl n z).length:=by rw [Nat.succ_mul] at hlen;omega
   obtain ⟨h3,h4⟩:=zx5 z n (j - z.length) h2
   have hpos:0<z.length:=by
    rcases Nat.eq_zero_or_pos z.length with h5 | h5
    ·rw [hlen',h5] at h2;simp at h2
    ·exact h5
   have e:(j - z.length) % z.length=j % z.length:=by
    conv=>rhs;rw [show j=(j - z.length)+z.length from by omega,Nat.add_mod_right]
   refine ⟨Nat.mod_lt _ hpos, ?_⟩
   simp only [repl]
   rw [List.getElem_append_right (by omega),h4]
   simp [e]
theorem zo4 {z:Array Value}{zs:List Pv} (hz:COk w M H ρ z (zs.map .p)) (hpos:0<zs.length) (n:Nat) :
  COk w M H ρ ((Array.range (n*zs.length)).map (fun i=>z[i % z.size]!)) ((repl n zs).map .p):=by
 have hzl:z.size=zs.length:=by simpa using hz.1
 refine ⟨by simp [zgs],fun j hj=>?_⟩
 simp only [List.length_map] at hj
 obtain ⟨h1,h2⟩:=zx5 zs n j hj
 rw [zgs] at hj
 have h3:=hz.2 (j % zs.length) (by simpa using h1)
 have e:((Array.range (n*zs.length)).map (fun i=>z[i % z.size]!)).getD j undef=z.getD (j % zs.length) undef:=by
  have h4:j % zs.length<z.size:=by omega
  have h5:z[j % zs.length]! = z[j % zs.length]'h4:=getElem!_pos z _ h4
  simp [hj,hzl,h4,h5]
  rw [Array.getElem?_eq_getElem h4];rfl
 rw [e]
 simp only [List.getElem_map] at h3 ⊢
 rw [h2]
 exact h3
theorem ych [Gl] {C:Array Value}{T:TypeId}{cs:List Pv}{n:Nat} (hs:Sim X w H ρ) (hl:C.size=cs.length) (hc:∀ j (h:j<cs.length),(C.getD j undef).oneCell'=true∧RepP w (Mut X H ρ) (C.getD j undef) cs[j]) :
  RepP { w with heap:=w.heap.push (.cells C T) } (Mut X H ρ) (.slice (some ⟨w.heap.size,0,none⟩) n n) (.lst true n cs):=by
 have he:=Evo.push w (.cells C T) H ρ
 refine .lst true n cs _ n (fun j=>C.getD j undef) (Nat.le_refl _) (fun _=>rfl) (fun hne=>⟨w.heap.size,0,rfl,fun hm=>?_,fun j hj=>?_⟩) (fun j hj=>(hc j hj).1) (fun j hj=>(hc j hj).2.evo he)
 ·have:=hs.mut_lt hm
  omega
 ·have hb:Blk { w with heap:=w.heap.push (.cells C T) } w.heap.size C:=⟨T,(0,0),zke w _⟩
  rw [hb.cell,Nat.zero_add]
  exact getD_some (by omega)
theorem zs9 [Gl] (hs:Sim X w H ρ) {t e:TypeId}{len sz:Nat}{z:List Pv}{ds:List Dv}{cs:List Pv}{l:List Nat}{parts:Array (Nat×Value)}{dparts:List (Nat×Dv)}
  (hu:P.underlying t=some (.slice e)) (hsz:szOf P e=some sz) (hz:zey P e=some z) (h0:sz≠0) (hzl:z.length=sz) (hbig:¬ len*sz > 2 ^ 24)
  (hl:parts.size=dparts.length) (hp:∀ j (h1:j<parts.size) (h2:j<dparts.length),(parts[j]).1=(dparts[j]).1∧RepD w (Mut X H ρ) H ρ (parts[j]).2 (dparts[j]).2)
  (hf:fillD (fun i=>some (i*sz,sz)) ((repl len z).map .p) dparts=some ds) (hpu:zfh H ds=some (cs,l)) :
  ∃ v w',(Instr.buildSlice t len parts).run P w=.ok v w'∧Fin X w H ρ w' (zan H l) ρ v (.p (.lst true len cs)):=by
 obtain ⟨zv,hzv,hc⟩:=zj9 hz w
 have hz1:=hc (Mut X H ρ) H ρ
 have hzv':zv.cells.size=z.length:=by simpa using hz1.1
 have hrow:=zo4 hz1 (by omega) len
 rw [hzl] at hrow
 obtain ⟨cells',h2,h3⟩:=zvr (place:=fun i=>some (i*sz,sz)) (parts:=parts.toList) (by simpa using hl) (fun j h1 h2=>by simpa using hp j (by simpa using h1) h2)
  (cells:=if len*sz=0 then #[] else (Array.range (len*sz)).map (fun i=>zv.cells[i % zv.cells.size]!)) (ds:=(repl len z).map .p) (by
   split
   ·rename_i h5
    rw [h5] at hrow
    have:((repl len z).map Dv.p).length=0:=by rw [List.length_map,zgs,hzl];exact h5
    have h6:(repl len z).map Dv.p=[]:=List.eq_nil_of_length_eq_zero this
    rw [h6]
    exact ⟨rfl,fun j hj=>absurd hj (by simp)⟩
   ·exact hrow) hf
 have h4:=zh4 hs (vs:=cells') hpu l (fun i hi=>hi)
 obtain ⟨he,hs'⟩:=zgf l hs
 have hrep:=ych (C:=cells') (T:=e) (n:=len) hs' (by rw [h3.1,h4.1]) (fun j hj=>by
  have hj':j<ds.length:=by rw [← h4.1];exact hj
  exact ⟨(h3.2 j hj').1,h4.2 j hj hj' _ (h3.2 j hj').2⟩)
 have hE:=Evo.push w (.cells cells' e) (zan H l) ρ
 rw [zcs] at hE
 refine ⟨_,_, ?_,he.trans hE,hs'.push (.cells cells' e),.p _ _ hrep⟩
 simp only [Instr.buildSlice,Sem.run_bind,zb6 hu,Result.andThen_ok,zeu hsz]
 rw [if_neg hbig]
 by_cases h5:len*sz=0
 ·rw [if_pos h5]
  rw [if_pos h5] at h2
  have h2':Instr.fill (fun i=>some (i*sz,sz)) ((Array.range (len*sz)).map (fun i=>(#[]:Array Value)[i % (#[]:Array Value).size]!)) parts.toList=some cells':=by
   rw [h5,show ((Array.range 0).map (fun i=>(#[]:Array Value)[i % (#[]:Array Value).size]!))=#[] from by simp];exact h2
  simp only [Sem.run_pure,Result.andThen_ok,h2',newRow,Sem.run_bind,run_newObj]
 ·rw [if_neg h5]
  rw [if_neg h5] at h2
  simp only [Sem.run_bind,hzv,Result.andThen_ok,Sem.run_pure,h2,newRow,run_newObj]
theorem zn5 {t:TypeId}{n b o:Nat}{C:Array Value}{T:TypeId}{v:Value} (hn:szOf P t=some n) (hC:w.heap[b]?=some (.cells C T (0,0))) (hv:v.cells.size=n) (hf:o+v.cells.size≤C.size)
  (h1:∀ j,j<v.cells.size→(v.cells.getD j undef).oneCell'=true) :
  (Instr.storeAt t (.pointer (some ⟨b,o,none⟩)) v).run P w=.ok () (w.setRow b (rowOf C o v.cells)):=by
 simp only [Instr.storeAt,Instr.sureAddr,storeVar,Sem.run_bind,Sem.run_pure,Result.andThen_ok,zeu hn,hv,ne_eq,not_true,if_false]
 exact zid hC hf h1
theorem RepP.wksL {w:World}{M:Nat→Prop}{v:Value}{b:Bool}{n:Nat}{cells:List Pv} (h:RepP w M v (.lst b n cells)):RepP w M v (.lst b n (wks cells)):=by
 cases h with
 | lst full n cells A cap us hn hf ha h1 hr =>
  refine .lst b n _ A cap us hn hf (fun e=>?_) (fun j hj=>h1 j (by simpa [zff] using hj)) (fun j hj=>?_)
  ·obtain ⟨bb,o,e1,e2,e3⟩:=ha (zw2 e)
   exact ⟨bb,o,e1,e2,fun j hj=>e3 j (by simpa [zff] using hj)⟩
  ·rw [zme _ _ _ (by simpa [zff] using hj)];exact (hr j (by simpa [zff] using hj)).wk
theorem RepP.wkN {w:World}{M:Nat→Prop}{v:Value}{x:Pv} (h:RepP w M v x):RepP w M v (wkN x):=by
 unfold Go.Ev.wkN
 split
 ·exact h
 ·exact h.wk
theorem RepP.wkE {P:Program}{e:TypeId}{w:World}{M:Nat→Prop}{v:Value}{b:Bool}{n:Nat}{cells:List Pv} (h:RepP w M v (.lst b n cells)):RepP w M v (.lst b n (wkE P e cells)):=by
 unfold Go.Ev.wkE
 split
 ·cases h with
  | lst full n cells A cap us hn hf ha h1 hr =>
   refine .lst b n _ A cap us hn hf (fun e=>?_) (fun j hj=>h1 j (by simpa using hj)) (fun j hj=>?_)
   ·obtain ⟨bb,o,e1,e2,e3⟩:=ha (by intro e0;subst e0;exact e rfl)
    exact ⟨bb,o,e1,e2,fun j hj=>e3 j (by simpa using hj)⟩
   ·rw [List.getElem_map];exact (hr j (by simpa using hj)).wkN
 ·exact h.wksL
theorem Fin.wkE [Gl] {P:Program}{e:TypeId}{X:Nat→Prop}{w w':World}{H H':List Ob}{ρ ρ':Pl}{v:Value}{b:Bool}{n:Nat}{cells:List Pv} (h:Fin X w H ρ w' H' ρ' v (.p (.lst b n cells))):Fin X w H ρ w' H' ρ' v (.p (.lst b n (wkE P e cells))) :=
 ⟨h.evo,h.sim,by
  have:=h.rep
  cases this with
  | p _ _ h2=>exact .p _ _ h2.wkE⟩
theorem zsw [Gl] (hs:Sim X w H ρ) {t:TypeId}{av v:Value}{a d:Dv} (ha:RepD w (Mut X H ρ) H ρ av a) (hv:RepD w (Mut X H ρ) H ρ v d) {H':List Ob} (h:zdf P H t a d=some H') :
  ∃ w',(Instr.storeAt t av v).run P w=.ok () w'∧Evo H.length w H ρ w' H' ρ∧Sim X w' H' ρ:=by
 unfold zdf at h
 split at h
 ·rename_i id off n hn
  split at h
  ·rename_i cs ds hid hds
   split at h
   ·rename_i hc
    simp only [Option.some.injEq] at h
    subst h
    have hcv:=zky hv hds
    obtain ⟨b,bs,C,e,hx,hC,hcs⟩:=hs.obs id _ hid
    cases ha with
    | ptr _ _ a' hlt hal =>
     obtain ⟨b',bs',e1,rfl⟩:=hal ⟨_,hid,rfl⟩
     rw [e] at e1
     simp only [Option.some.injEq,Prod.mk.injEq] at e1
     obtain ⟨rfl,rfl⟩:=e1
     have hf:bs+off+v.cells.size≤C.size:=by have:=hcs.1;have:=hcv.1;omega
     have hC2:=hC
     obtain ⟨T,hT⟩:=hC2
     refine ⟨_,zn5 hn hT (by rw [hcv.1];exact hc.1) hf (fun j hj=>(hcv.2 j (by rw [← hcv.1];exact hj)).1), ?_⟩
     exact zsg hs hid rfl rfl e hx hC hf (fun he hO=>⟨b,bs,_,e,hx,hO,(hcs.write hcv (by omega)).evo he⟩)
   ·cases h
  ·rename_i cs ds hid hds
   split at h
   ·rename_i xs l hpu
    split at h
    ·rename_i hc
     simp only [Option.some.injEq] at h
     subst h
     have hcv:=zky hv hds
     have h4:=zh4 hs (vs:=v.cells) hpu l (fun i hi=>hi)
     obtain ⟨he0,hs0⟩:=zgf l hs
     have hid0:(zan H l)[id]?=some (.arr cs):=by
      have:∀ (l:List Nat) (H:List Ob),¬ id∈l→(zan H l)[id]?=H[id]?:=by
       intro l
       induction l with
       | nil=>intro H _;rfl
       | cons i l ih =>
        intro H hn
        simp only [zan]
        rw [ih _ (fun h=>hn (by simp [h]))]
        unfold frzAt
        split
        ·rw [List.getElem?_set_ne (by intro h;exact hn (by simp [h]))]
        ·rfl
      rw [this l H hc.2.2];exact hid
     rcases hs0.obs id _ hid0 with ⟨h6,e⟩ | ⟨b,bs,C,e,hx,hC,hcs⟩
     ·subst h6
      have hn0:n=0:=by have:=hc.2.1;simp at this;omega
      have hxs:xs=[]:=List.eq_nil_of_length_eq_zero (by omega)
      have hv0:v.cells.size=0:=by rw [hcv.1,← h4.1,hxs];rfl
      cases ha with
      | ptr _ _ a' hlt hal =>
       obtain ⟨b',bs',e1,_⟩:=hal ⟨_,hid,rfl⟩
       rw [e] at e1;cases e1
     ·cases ha with
      | ptr _ _ a' hlt hal =>
       obtain ⟨b',bs',e1,rfl⟩:=hal ⟨_,hid,rfl⟩
       rw [e] at e1
       simp only [Option.some.injEq,Prod.mk.injEq] at e1
       obtain ⟨rfl,rfl⟩:=e1
       have hxd:xs.length=ds.length:=h4.1
       have hf:bs+off+v.cells.size≤C.size:=by have:=hcs.1;have:=hcv.1;omega
       have hC2:=hC
       obtain ⟨T,hT⟩:=hC2
       have hcv':COk w (Mut X (zan H l) ρ) (zan H l) ρ v.cells (xs.map .p):=by
        refine ⟨by rw [hcv.1,List.length_map,hxd],fun j hj=>?_⟩
        simp only [List.length_map] at hj
        have h7:=hcv.2 j (by omega)
        refine ⟨h7.1, ?_⟩
        simp only [List.getElem_map]
        exact .p _ _ (h4.2 j hj (by omega) _ h7.2)
       refine ⟨_,zn5 hn hT (by rw [hcv.1];omega) hf (fun j hj=>(hcv.2 j (by rw [← hcv.1];exact hj)).1), ?_⟩
       have h8:=zsg hs0 hid0 (o':=.arr (setAt cs off xs)) rfl rfl e hx hC hf (fun he hO=>.inr ⟨b,bs,_,e,hx,hO,(hcs.write hcv' (by omega)).evo he⟩)
       rw [zcs] at h8
       exact ⟨he0.trans h8.1,h8.2⟩
    ·cases h
   ·cases h
  ·cases h
 ·cases h
end
end Go.Ev

set_option linter.unusedVariables false
set_option linter.unusedSimpArgs false
namespace Go.Ev
section
variable {P : Program} {X M : Nat → Prop} {w : World} {H : List Ob} {ρ : Pl}
theorem zwy {w':World}{b bs len cap esz:Nat}{A:Option Addr}{C:Array Value}{cs:List Pv} (hn:len≤cap) (hA:0<cap→A=some ⟨b,bs,none⟩) (hC:Blk w' b C) (hsz:bs+cap*esz≤C.size) (H0:List Ob) (hl:H0.length=H.length) (ρ:Pl) :
  RepD w' (Mut X (H0++[.arr cs]) (updPl ρ H.length (some (b,bs)))) (H0++[.arr cs]) (updPl ρ H.length (some (b,bs))) (.slice A len cap) (.ref H.length 0 len esz) :=
 .ref H.length 0 len esz A cap (by simp [hl]) hn (fun hc=>⟨_,hA hc,fun _=>⟨b,bs,C,zdm ..,rfl,hC,hsz⟩⟩)
theorem ybk [Gl] (hs:Sim X w H ρ) {t:TypeId}{lv cv:Value}{l c d:Dv}{H':List Ob} (hl:RepD w (Mut X H ρ) H ρ lv l) (hc:RepD w (Mut X H ρ) H ρ cv c) (h:makeD P H t l c=some (d,H')) :
  ∃ v w' ρ',(Instr.makeSlice t lv cv).run P w=.ok v w'∧Fin X w H ρ w' H' ρ' v d:=by
 unfold makeD at h
 split at h
 ·rename_i e n k hu hn hk
  simp only [Option.bind_eq_some_iff] at h
  obtain ⟨sz,hsz,by_,hby,z,hz,h⟩:=h
  split at h
  ·cases h
  ·rename_i h0
   simp only [not_or,Decidable.not_not] at h0
   obtain ⟨h0,hzl,hb0⟩:=h0
   split at h
   ·rename_i hc1
    simp only [Option.some.injEq,Prod.mk.injEq] at h
    obtain ⟨rfl,rfl⟩:=h
    obtain ⟨kn,rfl⟩:=zpx hl hn
    obtain ⟨kk,rfl⟩:=zpx hc hk
    obtain ⟨hn0,hnk,hbig⟩:=hc1
    obtain ⟨zv,hzv,hcz⟩:=zj9 hz w
    obtain ⟨i,hi,hib⟩:=zmd hby w
    have hk1:k≤281474976710656:=by
     have:(1:Int)*k≤by_*k:=Int.mul_le_mul_of_nonneg_right (by omega) (by omega)
     omega
    have w1:IntKind.i64.wrap n=n:=IntWalk.i64_in _ (by omega)
    have w2:IntKind.i64.wrap k=k:=IntWalk.i64_in _ (by omega)
    have hz1:=hcz (Mut X H ρ) H ρ
    have hrow:=zo4 hz1 (by omega) k.toNat
    rw [hzl] at hrow
    have hrown:=zo4 hz1 (by omega) n.toNat
    rw [hzl] at hrown
    have hle:n.toNat*sz≤k.toNat*sz:=Nat.mul_le_mul_right _ (by omega)
    let C:Array Value:=(Array.range (k.toNat*sz)).map (fun i=>zv.cells[i % zv.cells.size]!)
    have hCs:C.size=k.toNat*sz:=by simp [C]
    have hcells:CellsP w (Mut X H ρ) C 0 (repl n.toNat z):=by
     refine CellsD.pure (H:=H) (ρ:=ρ) ⟨by rw [List.length_map,zgs,hzl,hCs];omega,fun j hj=>?_⟩
     have h5:=hrown.2 j hj
     have hj':j<n.toNat*sz:=by rw [List.length_map,zgs,hzl] at hj;exact hj
     have e1:C.getD (0+j) undef=((Array.range (n.toNat*sz)).map (fun i=>zv.cells[i % zv.cells.size]!)).getD j undef:=by
      simp [C,hj',show j<k.toNat*sz from by omega]
     rw [e1];exact h5
    obtain ⟨he,hs'⟩:=z30 hs C e (repl n.toNat z) hcells
    refine ⟨.slice (some ⟨w.heap.size,0,none⟩) n.toNat k.toNat,_,_, ?_,he,hs', ?_⟩
    ·have hlt:¬ (k<0∨(281474976710656:Int)<by_*k):=by omega
     simp only [Instr.makeSlice,Sem.run_bind,zb6 hu,Result.andThen_ok,asInt,asIntOf,Sem.run_pure,hi,w1,w2,hib]
     rw [if_neg (by simp;omega)]
     simp only [run_askRoom,Result.andThen_ok,Sem.run_bind,zeu hsz]
     by_cases h6:k.toNat*sz=0
     ·rw [if_pos h6]
      simp only [Sem.run_pure,Result.andThen_ok,newRow,Sem.run_bind,run_newObj]
      have:C=(Array.range (k.toNat*sz)).map (fun i=>(#[]:Array Value)[i % (#[]:Array Value).size]!):=by
       simp only [C,h6];simp
      rw [this]
     ·rw [if_neg h6]
      simp only [Sem.run_bind,hzv,Result.andThen_ok,Sem.run_pure,newRow,run_newObj]
      rfl
    ·exact zwy (C:=C) (by omega) (fun _=>rfl) ⟨e,(0,0),zke w _⟩ (by rw [hCs];omega) H rfl ρ
   ·cases h
 ·cases h
theorem zfl {size n:Nat}{A:Option Addr}{len cap:Nat}{us:Nat→Value} (hA:n*size≠0→∃ b o,A=some ⟨b,o,none⟩∧∀ j,j<n*size→w.cell? ⟨b,o+j,none⟩=some (us j)) :
  (Builtin.firstCells size n (.slice A len cap)).run P w=.ok ((List.range (n*size)).map us).toArray w:=by
 by_cases h0:n*size=0
 ·cases A with
  | none=>simp [Builtin.firstCells,h0]
  | some a =>
   have:=run_loadCells (P:=P) w a 0 us (fun j hj=>absurd hj (by omega))
   simp only [Builtin.firstCells,h0,this]
 ·obtain ⟨b,o,rfl,hc⟩:=hA h0
  have:=run_loadCells (P:=P) w ⟨b,o,none⟩ (n*size) us (fun j hj=>by rw [zg1];exact hc j hj)
  simp only [Builtin.firstCells,this]
theorem zoi [Gl] (hs:Sim X w H ρ) {id off len esz:Nat}{cs:List Pv} (h:zpp H id off len esz=some cs) {A:Option Addr}{cap:Nat} (hv:RepD w (Mut X H ρ) H ρ (.slice A len cap) (.ref id off len esz)) :
  cs.length=len*esz∧∃ us:Nat→Value,(len*esz≠0→∃ b o,A=some ⟨b,o,none⟩∧∀ j,j<len*esz→w.cell? ⟨b,o+j,none⟩=some (us j)) ∧
   ∀ j (h:j<cs.length),(us j).oneCell'=true∧RepP w (Mut X H ρ) (us j) cs[j]:=by
 have key:∀ (o:Ob) (ds:List Dv),H[id]?=some o→o.alive=true→off+len*esz≤o.size→allP ((ds.drop off).take (len*esz))=some cs→(0<o.size→∀ j,o.cell? j=ds[j]?)→ds.length=o.size →
   cs.length=len*esz∧∃ us:Nat→Value,(len*esz≠0→∃ b o,A=some ⟨b,o,none⟩∧∀ j,j<len*esz→w.cell? ⟨b,o+j,none⟩=some (us j)) ∧
   ∀ j (h:j<cs.length),(us j).oneCell'=true∧RepP w (Mut X H ρ) (us j) cs[j]:=by
  intro o ds hid halive hsz hall hcell hlen
  have e:=zin hall
  have hcl:cs.length=len*esz:=by
   have:=congrArg List.length e
   simp at this
   omega
  refine ⟨hcl, ?_⟩
  by_cases h0:len*esz=0
  ·exact ⟨fun _=>undef,fun h=>absurd h0 h,fun j hj=>absurd hj (by omega)⟩
  ·obtain ⟨b,bs,C,ds',e1,hC,hcs,hl',hc1,_⟩:=hs.cells hid (by omega)
   have hdd:ds'=ds:=by
    apply List.ext_getElem?
    intro j
    rw [← hc1 j,hcell (by omega) j]
   subst hdd
   refine ⟨fun j=>C.getD (bs+(off+j)) undef,fun _=>?_,fun j hj=>?_⟩
   ·cases hv with
    | ref _ _ _ _ _ _ hlt hn ha =>
     have hlenpos:0<len:=by
      rcases Nat.eq_zero_or_pos len with h2 | h2
      ·subst h2;simp at h0
      ·exact h2
     obtain ⟨a,rfl,hal⟩:=ha (by omega)
     obtain ⟨b',bs',C',e2,rfl,hC',_⟩:=hal ⟨_,hid,halive⟩
     rw [e1] at e2
     simp only [Option.some.injEq,Prod.mk.injEq] at e2
     obtain ⟨rfl,rfl⟩:=e2
     refine ⟨b,bs+off,rfl,fun j hj=>?_⟩
     rw [hC.cell,Nat.add_assoc]
     have:=hcs.1
     exact getD_some (by omega)
   ·have h3:=hcs.2 (off+j) (by omega)
    refine ⟨h3.1, ?_⟩
    have h4:ds'[off+j]'(by omega)=.p cs[j]:=by
     have h5:((ds'.drop off).take (len*esz))[j]?=(cs.map Dv.p)[j]?:=by rw [e]
     rw [List.getElem?_eq_getElem (by simp;omega),List.getElem?_eq_getElem (by simpa using hj)] at h5
     simpa using Option.some.inj h5
    have h6:=h3.2
    rw [h4] at h6
    exact h6.toP
 have mapP:∀ (cs:List Pv) (off n:Nat),allP (((cs.map Dv.p).drop off).take n)=some ((cs.drop off).take n):=by
  intro cs off n
  rw [← List.map_drop,← List.map_take,z64]
 unfold zpp at h
 split at h
 ·rename_i ds hid
  split at h
  ·rename_i hsz
   simp only [Option.some.injEq] at h
   exact key _ (ds.map .p) hid rfl hsz (by rw [mapP,h]) (fun _ j=>by simp [Ob.cell?]) (by simp [Ob.size])
  ·cases h
 ·rename_i ds hid
  split at h
  ·rename_i hsz
   simp only [Option.some.injEq] at h
   exact key _ (ds.map .p) hid rfl hsz (by rw [mapP,h]) (fun _ j=>by simp [Ob.cell?]) (by simp [Ob.size])
  ·cases h
 ·rename_i ds hid
  split at h
  ·rename_i hsz
   simp only [Option.some.injEq] at h
   exact key _ (ds.map .p) hid rfl hsz (by rw [mapP,h]) (fun _ j=>by simp [Ob.cell?]) (by simp [Ob.size])
  ·cases h
 ·rename_i ds hid
  split at h
  ·rename_i hsz;exact key _ ds hid rfl hsz h (fun _ j=>rfl) rfl
  ·cases h
 ·rename_i ds hid
  split at h
  ·rename_i hsz;exact key _ ds hid rfl hsz h (fun _ j=>rfl) rfl
  ·cases h
 ·cases h
theorem zlp {n:Nat}{us:Nat→Value}{cs:List Pv} (hl:n=cs.length) (h:∀ j (hj:j<cs.length),(us j).oneCell'=true∧RepP w M (us j) cs[j]) :
  COk w M H ρ ((List.range n).map us).toArray (cs.map .p) :=
 zqb (by simpa using hl) (fun j hj=>by
  simp only [List.length_map] at hj
  exact ⟨(h j hj).1,by simp only [List.getElem_map];exact .p _ _ (h j hj).2⟩)
theorem z1q [Gl] (hs:Sim X w H ρ) {esz m:Nat}{y:Dv}{yv:Value}{new:List Pv} (hy:RepD w (Mut X H ρ) H ρ yv y) (h:ziz P H esz y=some (m,new)) :
  (Builtin.lenOf yv).run P w=.ok m w∧new.length=m*esz∧∀ k,k≤m→∃ vs,(Builtin.firstCells esz k yv).run P w=.ok vs w∧COk w (Mut X H ρ) H ρ vs ((new.take (k*esz)).map .p):=by
 unfold ziz at h
 split at h
 ·rename_i full n cells
  split at h
  ·rename_i hcl
   simp only [Option.some.injEq,Prod.mk.injEq] at h
   obtain ⟨rfl,rfl⟩:=h
   obtain ⟨A,cap,us,rfl,hn,hf,ha,h1,hr⟩:=zku hy.toP
   refine ⟨rfl,hcl,fun k hk=>?_⟩
   have hk':k*esz≤n*esz:=Nat.mul_le_mul_right _ hk
   refine ⟨_,zfl (us:=us) (fun h0=>?_),zlp (by simp;omega) (fun j hj=>?_)⟩
   ·obtain ⟨b,o,rfl,hm,hc⟩:=ha (by intro e;subst e;simp at hcl;omega)
    exact ⟨b,o,rfl,fun j hj=>hc j (by omega)⟩
   ·have hj':j<cells.length:=by simp at hj;omega
    refine ⟨h1 j hj', ?_⟩
    have:=hr j hj'
    simpa using this
  ·cases h
 ·rename_i id off n sz
  split at h
  ·rename_i hsz
   subst hsz
   simp only [Option.map_eq_some_iff,Prod.mk.injEq] at h
   obtain ⟨cs,h,rfl,rfl⟩:=h
   obtain ⟨A,cap,rfl,_⟩:=zks hy
   obtain ⟨hcl,us,hu,hr⟩:=zoi hs h hy
   refine ⟨rfl,hcl,fun k hk=>?_⟩
   have hk':k*sz≤n*sz:=Nat.mul_le_mul_right _ hk
   refine ⟨_,zfl (us:=us) (fun h0=>?_),zlp (by simp;omega) (fun j hj=>?_)⟩
   ·obtain ⟨b,o,rfl,hc⟩:=hu (by omega)
    exact ⟨b,o,rfl,fun j hj=>hc j (by omega)⟩
   ·have hj':j<cs.length:=by simp at hj;omega
    have:=hr j hj'
    simpa using this
  ·cases h
 ·rename_i s
  split at h
  ·rename_i hsz
   subst hsz
   simp only [Option.some.injEq,Prod.mk.injEq] at h
   obtain ⟨rfl,rfl⟩:=h
   have:=hy.toP.v_eq
   subst this
   refine ⟨rfl,by simp,fun k hk=>?_⟩
   refine ⟨((s.extract 0 k).data.map fun b=>.int .u8 b.toNat),rfl, ?_⟩
   have hlen:((s.extract 0 k).data.map fun b=>Value.int .u8 b.toNat).size=k:=by
    simp [ByteArray.extract,ByteArray.copySlice]
    have:s.data.size=s.size:=rfl
    omega
   refine ⟨by rw [hlen];simp;omega,fun j hj=>?_⟩
   have hj':j<k:=by simp at hj;omega
   have hjs:j<s.data.size:=by have:s.data.size=s.size:=rfl;omega
   have e1:((s.extract 0 k).data.map fun b=>Value.int .u8 b.toNat).getD j undef=.int .u8 (s.data[j]).toNat:=by
    rw [Array.getD_eq_getD_getElem?,Array.getElem?_map]
    have:(s.extract 0 k).data[j]?=some s.data[j]:=by
     have e2:(s.extract 0 k).data=s.data.extract 0 k:=by
      rw [ByteArray.data_extract]
     rw [e2,Array.getElem?_extract,if_pos (by omega),Nat.zero_add,Array.getElem?_eq_getElem hjs]
    rw [this];rfl
   rw [e1]
   refine ⟨rfl, ?_⟩
   have e3:((List.take (k*1) (List.map (fun b=>Pv.v (Value.int IntKind.u8 ↑(UInt8.toNat b))) s.data.toList)).map Dv.p)[j]'hj=.p (.v (.int .u8 (s.data[j]).toNat)):=by
    simp
   rw [e3]
   exact .p _ _ (.v _)
  ·cases h
 ·simp only [Option.some.injEq,Prod.mk.injEq] at h
  obtain ⟨rfl,rfl⟩:=h
  have:=hy.toP.v_eq
  subst this
  refine ⟨rfl,by simp,fun k hk=>?_⟩
  obtain rfl:k=0:=by omega
  refine ⟨_,zfl (us:=fun _=>undef) (fun h0=>absurd (Nat.zero_mul _) h0), ?_⟩
  exact ⟨by simp,fun j hj=>by simp at hj⟩
 ·cases h
end
end Go.Ev

set_option linter.unusedVariables false
set_option linter.unusedSimpArgs false
namespace Go.Ev
section
variable {P : Program} {X M : Nat → Prop} {w : World} {H : List Ob} {ρ : Pl}
theorem zqx {ts:Array TypeId} (h:srcT P ts=true):ts[1]?=none∨∃ t d,ts[1]?=some t∧P.underlying t=some d∧∀ k,d≠.int k:=by
 unfold srcT at h
 cases h1:ts[1]? with
 | none=>exact .inl rfl
 | some t =>
  simp only [h1] at h
  cases hu:P.underlying t with
  | none=>simp [hu] at h
  | some d =>
   simp only [hu] at h
   exact .inr ⟨t,d,rfl,hu,fun k e=>by subst e;simp at h⟩
theorem zij {ts:Array TypeId}{ty e:TypeId}{sz:Nat} (h0:(ts[0]?).bind P.underlying=some (.slice e)) (hsz:szOf P e=some sz) (hT:srcT P ts=true) {base:Option Addr}{n cap m:Nat}{yv:Value}{vs:Array Value}
  (hlen:(Builtin.lenOf yv).run P w=.ok m w) (hfc:(Builtin.firstCells sz m yv).run P w=.ok vs w) (hroom:n+m≤cap) {w':World}
  (hst:(if let some a:=base then storeCells (a.add (n*sz)) vs.toList else pure PUnit.unit:Sem PUnit).run P w=.ok () w') :
  (Builtin.append_ ts ty #[.slice base n cap,yv]).run P w=.ok (.slice base (n+m) cap) w':=by
 simp only [Option.bind_eq_some_iff] at h0
 obtain ⟨t,ht,hu⟩:=h0
 have fin:∀ s:Sem Value,s.run P w=((Builtin.lenOf yv) >>= fun n_1=>if n+n_1≤cap then (Builtin.firstCells sz n_1 yv) >>= fun new=>(match base with
   | some a=>(storeCells (a.add (n*sz)) new.toList) >>= fun _=>pure (Value.slice base (n+n_1) cap)
   | none=>pure (Value.slice base (n+n_1) cap)) else stuck "":Sem Value).run P w→s.run P w=.ok (.slice base (n+m) cap) w':=by
  intro s hs
  rw [hs]
  simp only [Sem.run_bind,hlen,Result.andThen_ok,if_pos hroom,hfc]
  cases base with
  | none=>simp at hst;subst hst;simp
  | some a=>simp only [] at hst;simp only [Sem.run_bind,hst,Result.andThen_ok,Sem.run_pure]
 refine fin _ ?_
 rcases zqx hT with h1 | ⟨t2,d,h1,h2,h3⟩
 ·simp only [Builtin.append_,ht,h1,List.getElem?_toArray,List.getElem?_cons_zero,List.getElem?_cons_succ,Sem.run_bind,zb6 hu,Result.andThen_ok,zeu hsz,Sem.run_pure,Bool.false_eq_true,if_false,hlen,Bool.not_false,if_true]
  simp only [if_pos hroom,Sem.run_bind,hfc,Result.andThen_ok]
  cases base<;>rfl
 ·cases d with
  | int k=>exact absurd rfl (h3 k)
  | _ =>
   simp only [Builtin.append_,ht,h1,zb6 h2,List.getElem?_toArray,List.getElem?_cons_zero,List.getElem?_cons_succ,Sem.run_bind,zb6 hu,Result.andThen_ok,zeu hsz,Sem.run_pure,Bool.false_eq_true,if_false,hlen,Bool.not_false,if_true]
   simp only [if_pos hroom,Sem.run_bind,hfc,Result.andThen_ok]
   cases base<;>rfl
theorem zmh {ts:Array TypeId}{ty e:TypeId}{sz by_:Nat} (h0:(ts[0]?).bind P.underlying=some (.slice e)) (hsz:szOf P e=some sz) (hby:bytesOf P e=some by_) (hb0:by_≠0) (hT:srcT P ts=true) {base:Option Addr}{n cap m:Nat}{yv:Value}{vs old:Array Value}{z:Value}
  (hlen:(Builtin.lenOf yv).run P w=.ok m w) (hz:∀ w,(zeroValue e).run P w=.ok z w) (hroom:¬ n+m≤cap) (hbig:(n+m)*by_≤140737488355328)
  (hold:(Builtin.firstCells sz n (.slice base n cap)).run P { w with drawn:=w.drawn+1 }=.ok old { w with drawn:=w.drawn+1 })
  (hfc:(Builtin.firstCells sz m yv).run P { w with drawn:=w.drawn+1 }=.ok vs { w with drawn:=w.drawn+1 }) :
  ∃ nc,n+m≤nc∧(Builtin.append_ ts ty #[.slice base n cap,yv]).run P w =
   .ok (.slice (some ⟨w.heap.size,0,none⟩) (n+m) nc) { w with drawn:=w.drawn+1,heap:=w.heap.push (.cells (old++vs++Builtin.zeroCells z.cells (nc - (n+m))) e) }:=by
 simp only [Option.bind_eq_some_iff] at h0
 obtain ⟨t,ht,hu⟩:=h0
 obtain ⟨i,hi,hib⟩:=zmd hby w
 have hi':∀ w,(typeInfo e).run P w=.ok i w:=by
  intro w'
  obtain ⟨j,hj,_⟩:=zmd hby w'
  unfold bytesOf at hby
  simp only [Option.map_eq_some_iff] at hby
  obtain ⟨q,hq,_⟩:=hby
  simp [typeInfo,hq] at hi hj ⊢
  exact hi
 have hfit:=growslice_fits (need:=n+m) (old:=cap) (bytes:=by_) (by omega) hbig
 have hneed:n+m≤140737488355328:=by
  have:(n+m)*1≤(n+m)*by_:=Nat.mul_le_mul_left _ (by omega)
  omega
 let q:=Question.appendCap (n+m) cap e
 refine ⟨q.cut (w.tape w.drawn q),by show n+m≤(n+m)+_;omega, ?_⟩
 have h1:¬ (((n+m:Nat):Int) > IntKind.i64.max∧(false=true∨i.bytes=0)):=by
  intro h
  rcases h.2 with h | h
  ·cases h
  ·omega
 have h1':¬ (((n+m:Nat):Int) > IntKind.i64.max∧(False∨i.bytes=0)):=by
  intro h
  rcases h.2 with h | h
  ·exact h
  ·omega
 have h2:¬ (Builtin.nextslicecap (n+m) cap*i.bytes > 2 ^ 48):=by rw [hib];omega
 have hq':(Question.appendCap (n+m) cap e).forced=false:=rfl
 rcases zqx hT with h3 | ⟨t2,d,h3,h4,h5⟩
 ·simp only [Builtin.append_,ht,h3,List.getElem?_toArray,List.getElem?_cons_zero,List.getElem?_cons_succ,Sem.run_bind,zb6 hu,Result.andThen_ok,zeu hsz,Sem.run_pure,Bool.false_eq_true,if_false,hlen,Bool.not_false,if_true]
  simp only [if_neg hroom,Sem.run_bind,hi',Result.andThen_ok,h1,h1',h2,if_false,Sem.run_pure,run_choose,hq',Bool.false_eq_true,run_askRoom,hold,hfc,hz,newRow,run_newObj]
  rfl
 ·cases d with
  | int k=>exact absurd rfl (h5 k)
  | _ =>
   simp only [Builtin.append_,ht,h3,zb6 h4,List.getElem?_toArray,List.getElem?_cons_zero,List.getElem?_cons_succ,Sem.run_bind,zb6 hu,Result.andThen_ok,zeu hsz,Sem.run_pure,Bool.false_eq_true,if_false,hlen,Bool.not_false,if_true]
   simp only [if_neg hroom,Sem.run_bind,hi',Result.andThen_ok,h1,h1',h2,if_false,Sem.run_pure,run_choose,hq',Bool.false_eq_true,run_askRoom,hold,hfc,hz,newRow,run_newObj]
   rfl
end
end Go.Ev

set_option linter.unusedVariables false
set_option linter.unusedSimpArgs false
namespace Go.Ev
section
variable {P : Program} {X M : Nat → Prop} {w : World} {H : List Ob} {ρ : Pl}
theorem COk.append {vs1 vs2:Array Value}{ds1 ds2:List Dv} (h1:COk w M H ρ vs1 ds1) (h2:COk w M H ρ vs2 ds2):COk w M H ρ (vs1++vs2) (ds1++ds2):=by
 refine ⟨by simp [h1.1,h2.1],fun j hj=>?_⟩
 simp only [List.length_append] at hj
 by_cases hj1:j<ds1.length
 ·have e:(vs1++vs2).getD j undef=vs1.getD j undef:=by
   rw [Array.getD_eq_getD_getElem?,Array.getD_eq_getD_getElem?,Array.getElem?_append_left (by rw [h1.1];exact hj1)]
  rw [e,List.getElem_append_left hj1]
  exact h1.2 j hj1
 ·have e:(vs1++vs2).getD j undef=vs2.getD (j - ds1.length) undef:=by
   rw [Array.getD_eq_getD_getElem?,Array.getD_eq_getD_getElem?,Array.getElem?_append_right (by rw [h1.1];omega),h1.1]
  rw [e,List.getElem_append_right (by omega)]
  exact h2.2 (j - ds1.length) (by omega)
theorem COk.evo {w':World}{H':List Ob}{ρ':Pl} (he:Evo H.length w H ρ w' H' ρ') {vs:Array Value}{ds:List Dv} (h:COk w (Mut X H ρ) H ρ vs ds):COk w' (Mut X H' ρ') H' ρ' vs ds :=
 ⟨h.1,fun j hj=>⟨(h.2 j hj).1,(h.2 j hj).2.evo he⟩⟩
theorem COk.cellsP {vs rest:Array Value}{cs:List Pv} (h:COk w M H ρ vs (cs.map .p)):CellsP w M (vs++rest) 0 cs:=by
 refine CellsD.pure (H:=H) (ρ:=ρ) ⟨by simp [h.1],fun j hj=>?_⟩
 have e:(vs++rest).getD (0+j) undef=vs.getD j undef:=by
  rw [Nat.zero_add,Array.getD_eq_getD_getElem?,Array.getD_eq_getD_getElem?,Array.getElem?_append_left (by rw [h.1];exact hj)]
 rw [e]
 exact h.2 j hj
theorem z32 [Gl] {k:Nat}{o o':Ob}{b bs bs':Nat}{w':World} (hs:Sim X w H ρ) (hk:H[k]?=some o) (hol:o.live=true) (e:ρ k=some (b,bs))
  (h1:w'.os=w.os) (h2:w'.tape=w.tape) (h3:w'.output=w.output) (h4:w'.heap.size=w.heap.size) (h5:∀ b',b'≠b→w'.heap[b']?=w.heap[b']?) (h6:∀ b C,Blk w b C→∃ C',Blk w' b C'∧C'.size=C.size)
  (hob:Evo H.length w H ρ w' (H.set k .dead++[o']) (updPl ρ H.length (some (b,bs')))→ObOk w' X (H.set k .dead++[o']) (updPl ρ H.length (some (b,bs'))) H.length o') :
  Evo H.length w H ρ w' (H.set k .dead++[o']) (updPl ρ H.length (some (b,bs')))∧Sim X w' (H.set k .dead++[o']) (updPl ρ H.length (some (b,bs'))):=by
 have hlive:Live H ρ b:=⟨k,o,bs,hk,hol,e⟩
 have hcase:∀ {i:Nat}{x:Ob},(H.set k .dead++[o'])[i]?=some x→(i<H.length∧i≠k∧H[i]?=some x)∨(i=k∧x=.dead)∨(i=H.length∧x=o'):=by
  intro i x hi
  rcases zgc hi with ⟨hlt,h⟩ | ⟨h,hx⟩
  ·rcases ze5 h with ⟨hne,h⟩ | ⟨h,hx,_⟩
   ·exact .inl ⟨by simpa using hlt,hne,h⟩
   ·exact .inr (.inl ⟨h,hx⟩)
  ·exact .inr (.inr ⟨by simpa using h,hx⟩)
 have he:Evo H.length w H ρ w' (H.set k .dead++[o']) (updPl ρ H.length (some (b,bs'))):=by
  refine ⟨h1,h2,h3,by omega,fun b' hb' hn=>h5 b' (fun hbb=>hn (hbb ▸ hlive)),h6,fun b' hb'=>?_,Nat.le_refl _,by simp,fun i hi ha=>?_⟩
  ·obtain ⟨i,x,bs2,hi,hx,e2⟩:=hb'
   rcases hcase hi with ⟨hlt,hne,h⟩ | ⟨rfl,rfl⟩ | ⟨rfl,rfl⟩
   ·rw [zie (by omega)] at e2
    exact .inl ⟨i,x,bs2,h,hx,e2⟩
   ·cases hx
   ·rw [zdm] at e2
    simp only [Option.some.injEq,Prod.mk.injEq] at e2
    exact .inl (e2.1 ▸ hlive)
  ·obtain ⟨x,hx,hxa⟩:=ha
   rcases hcase hx with ⟨hlt,hne,h⟩ | ⟨rfl,rfl⟩ | ⟨rfl,rfl⟩
   ·exact ⟨⟨x,h,hxa⟩,zie (by omega)⟩
   ·cases hxa
   ·omega
 refine ⟨he,hs.step he (fun i x hi=>?_) (fun i j x y b1 bs1 bs2 hi hj hx hy ei ej=>?_)⟩
 ·rcases hcase hi with ⟨hlt,hne,h⟩ | ⟨rfl,rfl⟩ | ⟨rfl,rfl⟩
  ·refine .inl ⟨h,fun b' bs2 e2 ho=>h5 b' (fun hbb=>hne ?_)⟩
   subst hbb
   exact hs.inj i k x o b' bs2 bs h hk ho hol e2 e
  ·exact .inr trivial
  ·exact .inr (hob he)
 ·rcases hcase hi with ⟨hlt,hne,h⟩ | ⟨rfl,rfl⟩ | ⟨rfl,rfl⟩
  ·rcases hcase hj with ⟨hlt',hne',h'⟩ | ⟨rfl,rfl⟩ | ⟨rfl,rfl⟩
   ·rw [zie (by omega)] at ei ej
    exact hs.inj i j x y b1 bs1 bs2 h h' hx hy ei ej
   ·cases hy
   ·rw [zie (by omega)] at ei
    rw [zdm] at ej
    simp only [Option.some.injEq,Prod.mk.injEq] at ej
    obtain ⟨rfl,rfl⟩:=ej
    exact absurd (hs.inj i k x o b bs1 bs h hk hx hol ei e) hne
  ·cases hx
  ·rcases hcase hj with ⟨hlt',hne',h'⟩ | ⟨rfl,rfl⟩ | ⟨rfl,rfl⟩
   ·rw [zie (by omega)] at ej
    rw [zdm] at ei
    simp only [Option.some.injEq,Prod.mk.injEq] at ei
    obtain ⟨rfl,rfl⟩:=ei
    exact absurd (hs.inj j k y o b bs2 bs h' hk hy hol ej e) hne'
   ·cases hy
   ·rfl
theorem zyq [Gl] (hs:Sim X w H ρ) {H0:List Ob} (hk:Evo H.length w H ρ w H0 ρ) (hs0:Sim X w H0 ρ) (hl0:H0.length=H.length) {old vs:Array Value}{cs new:List Pv}{e:TypeId}{n m nc sz:Nat}{z:Array Value} (hzs:z.size=sz)
  (ho:COk { w with drawn:=w.drawn+1 } (Mut X H ρ) H ρ old (cs.map .p)) (hv:COk { w with drawn:=w.drawn+1 } (Mut X H ρ) H ρ vs (new.map .p)) (hcl:cs.length=n*sz) (hnl:new.length=m*sz) (hnc:n+m≤nc) :
  Fin X w H ρ { w with drawn:=w.drawn+1,heap:=w.heap.push (.cells (old++vs++Builtin.zeroCells z (nc - (n+m))) e) } (H0++[.arr (cs++new)]) (updPl ρ H.length (some (w.heap.size,0)))
   (.slice (some ⟨w.heap.size,0,none⟩) (n+m) nc) (.ref H.length 0 (n+m) sz):=by
 have hsd:=hs0.drew
 have hkd:Evo H.length { w with drawn:=w.drawn+1 } H ρ { w with drawn:=w.drawn+1 } H0 ρ:=⟨rfl,rfl,rfl,Nat.le_refl _,fun _ _ _=>rfl,fun b C h=>⟨C,h,rfl⟩,hk.live,hk.len,hk.len',hk.alive⟩
 have hc2:=(ho.append hv).evo hkd
 rw [← List.map_append] at hc2
 have hcells:CellsP { w with drawn:=w.drawn+1 } (Mut X H0 ρ) (old++vs++Builtin.zeroCells z (nc - (n+m))) 0 (cs++new):=hc2.cellsP
 obtain ⟨he,hs'⟩:=z30 hsd (old++vs++Builtin.zeroCells z (nc - (n+m))) e (cs++new) hcells
 rw [hl0] at he hs'
 refine ⟨(hk.trans (hl0 ▸ Evo.drew w H0 ρ)).trans he,hs', ?_⟩
 refine zwy (H:=H) hnc (fun _=>rfl) ⟨e,(0,0),zke { w with drawn:=w.drawn+1 } _⟩ ?_ H0 hl0 ρ
 have h1:=(ho.append hv).1
 simp only [Array.size_append,List.length_append,List.length_map] at h1
 have h2:(Builtin.zeroCells z (nc - (n+m))).size=(nc - (n+m))*sz:=by simp [Builtin.zeroCells,hzs]
 simp only [Array.size_append,h2]
 have h3:nc*sz=(n+m)*sz+(nc - (n+m))*sz:=by rw [← Nat.add_mul];congr 1;omega
 have h4:(n+m)*sz=n*sz+m*sz:=Nat.add_mul ..
 omega
theorem COk.cellsDr {vs rest:Array Value}{cs:List Dv} (h:COk w M H ρ vs cs):CellsD w M H ρ (vs++rest) 0 cs:=by
 refine ⟨by simp [h.1],fun j hj=>?_⟩
 have e:(vs++rest).getD (0+j) undef=vs.getD j undef:=by
  rw [Nat.zero_add,Array.getD_eq_getD_getElem?,Array.getD_eq_getD_getElem?,Array.getElem?_append_left (by rw [h.1];exact hj)]
 rw [e]
 exact h.2 j hj
theorem z2i {w':World}{o:Ob}{b bs len cap esz:Nat}{A:Option Addr}{C:Array Value} (hn:len≤cap) (hA:0<cap→A=some ⟨b,bs,none⟩) (hC:Blk w' b C) (hsz:bs+cap*esz≤C.size) (H0:List Ob) (hl:H0.length=H.length) (ρ:Pl) :
  RepD w' (Mut X (H0++[o]) (updPl ρ H.length (some (b,bs)))) (H0++[o]) (updPl ρ H.length (some (b,bs))) (.slice A len cap) (.ref H.length 0 len esz) :=
 .ref H.length 0 len esz A cap (by simp [hl]) hn (fun hc=>⟨_,hA hc,fun _=>⟨b,bs,C,zdm ..,rfl,hC,hsz⟩⟩)
theorem z0y [Gl] (hs:Sim X w H ρ) {H0:List Ob} (hk:Evo H.length w H ρ w H0 ρ) (hs0:Sim X w H0 ρ) (hl0:H0.length=H.length) {old vs:Array Value}{cs:List Dv}{new:List Pv}{e:TypeId}{n m nc sz:Nat}{z:Array Value} (hzs:z.size=sz)
  (ho:COk { w with drawn:=w.drawn+1 } (Mut X H ρ) H ρ old cs) (hv:COk { w with drawn:=w.drawn+1 } (Mut X H ρ) H ρ vs (new.map .p)) (hcl:cs.length=n*sz) (hnl:new.length=m*sz) (hnc:n+m≤nc) :
  Fin X w H ρ { w with drawn:=w.drawn+1,heap:=w.heap.push (.cells (old++vs++Builtin.zeroCells z (nc - (n+m))) e) } (H0++[.var (cs++new.map .p)]) (updPl ρ H.length (some (w.heap.size,0)))
   (.slice (some ⟨w.heap.size,0,none⟩) (n+m) nc) (.ref H.length 0 (n+m) sz):=by
 have hsd:=hs0.drew
 have hkd:Evo H.length { w with drawn:=w.drawn+1 } H ρ { w with drawn:=w.drawn+1 } H0 ρ:=⟨rfl,rfl,rfl,Nat.le_refl _,fun _ _ _=>rfl,fun b C h=>⟨C,h,rfl⟩,hk.live,hk.len,hk.len',hk.alive⟩
 have hc2:=(ho.append hv).evo hkd
 have hcells:CellsD { w with drawn:=w.drawn+1 } (Mut X H0 ρ) H0 ρ (old++vs++Builtin.zeroCells z (nc - (n+m))) 0 (cs++new.map .p):=hc2.cellsDr
 obtain ⟨he,hs'⟩:=zr9 hsd (old++vs++Builtin.zeroCells z (nc - (n+m))) e (cs++new.map .p) hcells
 rw [hl0] at he hs'
 refine ⟨(hk.trans (hl0 ▸ Evo.drew w H0 ρ)).trans he,hs', ?_⟩
 refine z2i (H:=H) hnc (fun _=>rfl) ⟨e,(0,0),zke { w with drawn:=w.drawn+1 } _⟩ ?_ H0 hl0 ρ
 have h1:=(ho.append hv).1
 simp only [Array.size_append,List.length_append,List.length_map] at h1
 have h2:(Builtin.zeroCells z (nc - (n+m))).size=(nc - (n+m))*sz:=by simp [Builtin.zeroCells,hzs]
 simp only [Array.size_append,h2]
 have h3:nc*sz=(n+m)*sz+(nc - (n+m))*sz:=by rw [← Nat.add_mul];congr 1;omega
 have h4:(n+m)*sz=n*sz+m*sz:=Nat.add_mul ..
 omega
theorem zy4 {us:Nat→Value}{ds:List Dv}{k:Nat} (hk:ds.length=k) (h:∀ j (hj:j<ds.length),(us j).oneCell'=true∧RepD w M H ρ (us j) ds[j]):COk w M H ρ ((List.range k).map us).toArray ds:=by
 subst hk
 refine ⟨by simp,fun j hj=>?_⟩
 have e:((List.range ds.length).map us).toArray.getD j undef=us j:=by
  rw [Array.getD_eq_getD_getElem?]
  simp [hj]
 rw [e]
 exact h j hj
theorem z1s [Gl] (hs:Sim X w H ρ) {ts:Array TypeId}{ty:TypeId}{xv yv:Value}{x y d:Dv}{H':List Ob} (hx:RepD w (Mut X H ρ) H ρ xv x) (hy:RepD w (Mut X H ρ) H ρ yv y) (h:zer P H ts x y=some (d,H')) :
  ∃ v w' ρ',(Builtin.append_ ts ty #[xv,yv]).run P w=.ok v w'∧Fin X w H ρ w' H' ρ' v d:=by
 unfold zer at h
 split at h
 ·rename_i e h0
  simp only [Option.bind_eq_some_iff] at h
  obtain ⟨sz,hsz,by_,hby,z,hz,h⟩:=h
  split at h
  ·cases h
  ·rename_i hc
   simp only [not_or,Decidable.not_not,Bool.not_eq_false] at hc
   obtain ⟨hs0,hb0,hzl,hT⟩:=hc
   simp only [Option.bind_eq_some_iff] at h
   obtain ⟨⟨m,new⟩,hsrc,h⟩:=h
   simp only [] at h
   obtain ⟨hlen,hnl,hfc⟩:=z1q hs hy hsrc
   have hnt:new.take (m*sz)=new:=List.take_of_length_le (by omega)
   obtain ⟨vs,hvs,hcv⟩:=hfc m (Nat.le_refl _)
   rw [hnt] at hcv
   obtain ⟨_,_,hfcd⟩:=z1q hs.drew (hy.evo (Evo.drew w H ρ)) hsrc
   obtain ⟨vsd,hvsd,hcvd⟩:=hfcd m (Nat.le_refl _)
   rw [hnt] at hcvd
   have hz':∃ zv,(∀ w,(zeroValue e).run P w=.ok zv w)∧zv.cells.size=sz:=by
    obtain ⟨zv,h1,h2⟩:=zj9 hz w
    refine ⟨zv,fun w'=>?_, ?_⟩
    ·unfold zey zeroP at hz
     simp only [Option.bind_eq_some_iff,Option.map_eq_some_iff] at hz
     obtain ⟨q,⟨q2,⟨i,h3,h4⟩,h5⟩,h6⟩:=hz
     simp [zeroValue,typeInfo,h3,h4] at h1 ⊢
     exact h1
    ·have:=(h2 (Mut X H ρ) H ρ).1
     simpa [hzl] using this
   obtain ⟨zv,hzv,hzs⟩:=hz'
   split at h
   ·rename_i n cells
    split at h
    ·rename_i hcond
     obtain ⟨A,cap,us,rfl,hn,hf,ha,h1,hr⟩:=zku hx.toP
     obtain rfl:n=cap:=(hf rfl).symm
     split at h
     ·rename_i hnm
      simp only [Option.some.injEq,Prod.mk.injEq] at h
      obtain ⟨rfl,rfl⟩:=h
      by_cases hroom:n+m≤n
      ·obtain rfl:m=0:=by omega
       obtain rfl:n=0:=by omega
       have hnew:new=[]:=List.eq_nil_of_length_eq_zero (by omega)
       have hcell:cells=[]:=List.eq_nil_of_length_eq_zero (by omega)
       subst hnew;subst hcell
       have hv0:vs=#[]:=by have:=hcv.1;simpa using this
       subst hv0
       obtain ⟨he,hs'⟩:=zli hs
       refine ⟨_,w,_,zij h0 hsz hT hlen hvs hroom (w':=w) (by cases A<;>simp [storeCells]),he,hs', ?_⟩
       exact .ref H.length 0 0 sz A 0 (by simp) (Nat.le_refl _) (fun h=>absurd h (by omega))
      ·have hold:=zfl (P:=P) (w:={ w with drawn:=w.drawn+1 }) (size:=sz) (n:=n) (A:=A) (len:=n) (cap:=n) (us:=us) (fun hne=>by
        obtain ⟨b,o,rfl,hm,hcell⟩:=ha (by intro e0;subst e0;simp at hcond;omega)
        exact ⟨b,o,rfl,fun j hj=>hcell j (by omega)⟩)
       obtain ⟨nc,hnc,hrun⟩:=zmh h0 hsz hby hb0 hT hlen hzv hroom hcond.2 hold hvsd
       have ho:COk { w with drawn:=w.drawn+1 } (Mut X H ρ) H ρ ((List.range (n*sz)).map us).toArray (cells.map .p) :=
        zlp (by omega) (fun j hj=>⟨h1 j hj,(hr j hj).evo (Evo.drew w H ρ)⟩)
       exact ⟨_,_,_,hrun,zyq hs (Evo.refl ..) hs rfl hzs ho hcvd hcond.1 hnl hnc⟩
     ·rename_i hnm
      simp only [Option.some.injEq,Prod.mk.injEq] at h
      obtain ⟨rfl,rfl⟩:=h
      simp only [not_or,Decidable.not_not] at hnm
      obtain ⟨hn0,rfl⟩:=hnm
      have hv0:vs=#[]:=by
       have h5:=hcv.1
       have h6:new=[]:=List.eq_nil_of_length_eq_zero (by omega)
       rw [h6] at h5;simpa using h5
      subst hv0
      refine ⟨_,w,_,zij h0 hsz hT hlen hvs (by omega) (w':=w) (by cases A<;>simp [storeCells]),Evo.refl ..,hs,hx⟩
    ·cases h
   ·rename_i id off n esz
    split at h
    ·rename_i cs hid
     split at h
     ·rename_i hcond
      simp only [Option.some.injEq,Prod.mk.injEq] at h
      obtain ⟨rfl,rfl⟩:=h
      obtain ⟨rfl,hfit,hbig⟩:=hcond
      obtain ⟨A,cap,rfl,hlt,hn,ha⟩:=zks hx
      have hrd:zpp H id off n esz=some ((cs.drop off).take (n*esz)):=by simp [zpp,hid,hfit]
      obtain ⟨hcl,us,hu,hr⟩:=zoi hs hrd hx
      by_cases hroom:n+m≤cap
      ·by_cases hcap:0<cap
       ·obtain ⟨a,rfl,hal⟩:=ha hcap
        obtain ⟨b,bs,C,eρ,rfl,hCb,hCsz⟩:=hal ⟨_,hid,rfl⟩
        rcases hs.obs id _ hid with ⟨h6,e6⟩ | ⟨b',bs',C',e6,hX,hO,hcs⟩
        ·rw [eρ] at e6;cases e6
        ·rw [eρ] at e6
         simp only [Option.some.injEq,Prod.mk.injEq] at e6
         obtain ⟨rfl,rfl⟩:=e6
         obtain rfl:=Blk.unique hCb hO.blk
         have hO2:=hO
         obtain ⟨T,hT2⟩:=hO2
         have hvsz:vs.size=m*esz:=by have:=hcv.1;simp at this;omega
         have hle:(n+m)*esz≤cap*esz:=Nat.mul_le_mul_right _ hroom
         have hnm:(n+m)*esz=n*esz+m*esz:=Nat.add_mul ..
         have hf2:bs+off+n*esz+vs.size≤C.size:=by omega
         have hst:(if let some a:=some (⟨b,bs+off,none⟩:Addr) then storeCells (a.add (n*esz)) vs.toList else pure PUnit.unit:Sem PUnit).run P w=.ok () (w.setRow b (rowOf C (bs+off+n*esz) vs)):=by
          simp only []
          rw [zg1]
          exact zid hT2 hf2 (fun j hj=>(hcv.2 j (by rw [← hcv.1];exact hj)).1)
         have hshape:=zld hCb (zhn hf2)
         obtain ⟨he,hs'⟩:=z32 (o':=.arr ((cs.drop off).take (n*esz)++new)) (bs':=bs+off) (w':=w.setRow b (rowOf C (bs+off+n*esz) vs)) hs hid rfl eρ rfl rfl rfl (by simp [World.setRow]) (fun b' hb'=>zjo _ _ _ _ hb') hshape (fun he=>by
          refine .inr ⟨b,bs+off,rowOf C (bs+off+n*esz) vs,zdm ..,hX,⟨T,setRow_heap w b C _ T _ hT2⟩, ?_⟩
          have hc1:CellsP w (Mut X H ρ) (rowOf C (bs+off+n*esz) vs) (bs+off) ((cs.drop off).take (n*esz)++new):=by
           refine ⟨by rw [List.length_append,hcl,hnl,zhn hf2];omega,fun j hj=>?_⟩
           rw [zns hf2]
           simp only [List.length_append,hcl,hnl] at hj
           by_cases hj1:j<n*esz
           ·rw [if_neg (by omega),List.getElem_append_left (by omega)]
            have:=hcs.2 (off+j) (by omega)
            simpa [Nat.add_assoc] using this
           ·rw [if_pos (by omega),List.getElem_append_right (by omega)]
            have h7:=hcv.2 (j - n*esz) (by simp;omega)
            rw [show bs+off+j - (bs+off+n*esz)=j - n*esz from by omega]
            refine ⟨h7.1, ?_⟩
            have h8:=h7.2
            simp only [List.getElem_map] at h8
            simp only [hcl]
            exact h8.toP
          exact hc1.evo he)
         refine ⟨_,_,_,zij h0 hsz hT hlen hvs hroom hst,he,hs', ?_⟩
         refine zwy (H:=H) hroom (fun _=>rfl) (C:=rowOf C (bs+off+n*esz) vs) ⟨T,(0,0),setRow_heap w b C _ T _ hT2⟩ ?_ (H.set id .dead) (by simp) ρ
         rw [zhn hf2];omega
       ·obtain rfl:cap=0:=by omega
        obtain rfl:n=0:=by omega
        obtain rfl:m=0:=by omega
        have hnew:new=[]:=List.eq_nil_of_length_eq_zero (by omega)
        subst hnew
        have hv0:vs=#[]:=by have:=hcv.1;simpa using this
        subst hv0
        obtain ⟨hk1,hk2⟩:=zr6 hs id
        obtain ⟨he,hs'⟩:=zli hk2
        have e9:((cs.drop off).take (0*esz)++([]:List Pv))=[]:=by simp
        rw [e9]
        rw [List.length_set] at he hs'
        refine ⟨_,w,_,zij h0 hsz hT hlen hvs hroom (w':=w) (by cases A<;>simp [storeCells]),hk1.trans he,hs', ?_⟩
        exact .ref H.length 0 0 esz A 0 (by simp) (Nat.le_refl _) (fun h=>absurd h (by omega))
      ·have hold:=zfl (P:=P) (w:={ w with drawn:=w.drawn+1 }) (size:=esz) (n:=n) (A:=A) (len:=n) (cap:=cap) (us:=us) (fun hne=>hu hne)
       obtain ⟨nc,hnc,hrun⟩:=zmh h0 hsz hby hb0 hT hlen hzv hroom hbig hold hvsd
       have ho:COk { w with drawn:=w.drawn+1 } (Mut X H ρ) H ρ ((List.range (n*esz)).map us).toArray (((cs.drop off).take (n*esz)).map .p) :=
        zlp (by omega) (fun j hj=>⟨(hr j hj).1,(hr j hj).2.evo (Evo.drew w H ρ)⟩)
       obtain ⟨hk1,hk2⟩:=zr6 hs id
       exact ⟨_,_,_,hrun,zyq hs hk1 hk2 (by simp) hzs ho hcvd hcl hnl hnc⟩
     ·cases h
    ·rename_i cs hid
     split at h
     ·rename_i hcond
      simp only [Option.some.injEq,Prod.mk.injEq] at h
      obtain ⟨rfl,rfl⟩:=h
      obtain ⟨rfl,hn0,hfit,hbig⟩:=hcond
      obtain ⟨A,cap,rfl,hlt,hn,ha⟩:=zks hx
      obtain ⟨a,rfl,hal⟩:=ha (by omega)
      obtain ⟨b,bs,C,eρ,rfl,hCb,hCsz⟩:=hal ⟨_,hid,rfl⟩
      obtain ⟨b',bs',C',e6,hX,hO,hcs⟩:=hs.obs id _ hid
      rw [eρ] at e6
      simp only [Option.some.injEq,Prod.mk.injEq] at e6
      obtain ⟨rfl,rfl⟩:=e6
      obtain rfl:=Blk.unique hCb hO.blk
      have hcl:((cs.drop off).take (n*esz)).length=n*esz:=by simp only [List.length_take,List.length_drop];omega
      have hle0:n*esz≤cap*esz:=Nat.mul_le_mul_right _ hn
      have hget:∀ j (hj:j<((cs.drop off).take (n*esz)).length),((cs.drop off).take (n*esz))[j]=cs[off+j]'(by omega):=fun j hj=>by
       rw [List.getElem_take,List.getElem_drop]
      by_cases hroom:n+m≤cap
      ·have hO2:=hO
       obtain ⟨T,hT2⟩:=hO2
       have hvsz:vs.size=m*esz:=by have:=hcv.1;simp at this;omega
       have hle:(n+m)*esz≤cap*esz:=Nat.mul_le_mul_right _ hroom
       have hnm:(n+m)*esz=n*esz+m*esz:=Nat.add_mul ..
       have hf2:bs+off+n*esz+vs.size≤C.size:=by omega
       have hst:(if let some a:=some (⟨b,bs+off,none⟩:Addr) then storeCells (a.add (n*esz)) vs.toList else pure PUnit.unit:Sem PUnit).run P w=.ok () (w.setRow b (rowOf C (bs+off+n*esz) vs)):=by
        simp only []
        rw [zg1]
        exact zid hT2 hf2 (fun j hj=>(hcv.2 j (by rw [← hcv.1];exact hj)).1)
       have hshape:=zld hCb (zhn hf2)
       obtain ⟨he,hs'⟩:=z32 (o':=.var ((cs.drop off).take (n*esz)++new.map .p)) (bs':=bs+off) (w':=w.setRow b (rowOf C (bs+off+n*esz) vs)) hs hid rfl eρ rfl rfl rfl (by simp [World.setRow]) (fun b' hb'=>zjo _ _ _ _ hb') hshape (fun he=>by
        refine ⟨b,bs+off,rowOf C (bs+off+n*esz) vs,zdm ..,hX,⟨T,setRow_heap w b C _ T _ hT2⟩, ?_⟩
        have hc1:CellsD w (Mut X H ρ) H ρ (rowOf C (bs+off+n*esz) vs) (bs+off) ((cs.drop off).take (n*esz)++new.map .p):=by
         refine ⟨by rw [List.length_append,hcl,List.length_map,hnl,zhn hf2];omega,fun j hj=>?_⟩
         rw [zns hf2]
         simp only [List.length_append,hcl,List.length_map,hnl] at hj
         by_cases hj1:j<n*esz
         ·rw [if_neg (by omega),List.getElem_append_left (by omega),hget j (by omega)]
          have:=hcs.2 (off+j) (by omega)
          simpa [Nat.add_assoc] using this
         ·rw [if_pos (by omega),List.getElem_append_right (by omega)]
          have h7:=hcv.2 (j - n*esz) (by simp;omega)
          rw [show bs+off+j - (bs+off+n*esz)=j - n*esz from by omega]
          simp only [hcl]
          exact h7
        exact hc1.evo he)
       refine ⟨_,_,_,zij h0 hsz hT hlen hvs hroom hst,he,hs', ?_⟩
       refine z2i (H:=H) hroom (fun _=>rfl) (C:=rowOf C (bs+off+n*esz) vs) ⟨T,(0,0),setRow_heap w b C _ T _ hT2⟩ ?_ (H.set id .dead) (by simp) ρ
       rw [zhn hf2];omega
      ·have hold:=zfl (P:=P) (w:={ w with drawn:=w.drawn+1 }) (size:=esz) (n:=n) (A:=some (⟨b,bs+off,none⟩:Addr)) (len:=n) (cap:=cap) (us:=fun j=>C.getD (bs+off+j) undef) (fun hne=>⟨b,bs+off,rfl,fun j hj=>by
        have:=hCb.cell (bs+off+j)
        rw [getD_some (by omega)] at this
        exact this⟩)
       obtain ⟨nc,hnc,hrun⟩:=zmh h0 hsz hby hb0 hT hlen hzv hroom hbig hold hvsd
       have ho:COk { w with drawn:=w.drawn+1 } (Mut X H ρ) H ρ ((List.range (n*esz)).map (fun j=>C.getD (bs+off+j) undef)).toArray ((cs.drop off).take (n*esz)) :=
        zy4 (by omega) (fun j hj=>by
         rw [hget j hj]
         have:=hcs.2 (off+j) (by omega)
         rw [← Nat.add_assoc] at this
         exact ⟨this.1,this.2.evo (Evo.drew w H ρ)⟩)
       obtain ⟨hk1,hk2⟩:=zr6 hs id
       exact ⟨_,_,_,hrun,z0y hs hk1 hk2 (by simp) hzs ho hcvd hcl hnl hnc⟩
     ·cases h
    ·cases h
   ·cases h
 ·cases h
theorem ztd {ts:Array TypeId}{ty e:TypeId}{sz:Nat} (h0:(ts[0]?).bind P.underlying=some (.slice e)) (hsz:szOf P e=some sz) {base:Option Addr}{n cap m:Nat}{yv:Value}{vs:Array Value}
  (hlen:(Builtin.lenOf yv).run P w=.ok m w) (hfc:(Builtin.firstCells sz (Nat.min m n) yv).run P w=.ok vs w) {w':World}
  (hst:(if let some a:=base then storeCells a vs.toList else pure PUnit.unit:Sem PUnit).run P w=.ok () w') :
  (Builtin.copy_ ts ty #[.slice base n cap,yv]).run P w=.ok (goInt (Nat.min m n)) w':=by
 simp only [Option.bind_eq_some_iff] at h0
 obtain ⟨t,ht,hu⟩:=h0
 simp only [Builtin.copy_,ht,List.getElem?_toArray,List.getElem?_cons_zero,List.getElem?_cons_succ,Sem.run_bind,zb6 hu,Result.andThen_ok,zeu hsz,hlen,hfc]
 cases base with
 | none=>simp at hst;subst hst;simp
 | some a=>simp only [] at hst;simp only [Sem.run_bind,hst,Result.andThen_ok,Sem.run_pure]
theorem yb8 [Gl] (hs:Sim X w H ρ) {ts:Array TypeId}{ty:TypeId}{xv yv:Value}{x y d:Dv}{H':List Ob} (hx:RepD w (Mut X H ρ) H ρ xv x) (hy:RepD w (Mut X H ρ) H ρ yv y) (h:copyD P H ts x y=some (d,H')) :
  ∃ v w' ρ',(Builtin.copy_ ts ty #[xv,yv]).run P w=.ok v w'∧Fin X w H ρ w' H' ρ' v d:=by
 unfold copyD at h
 split at h
 ·rename_i e h0
  simp only [Option.bind_eq_some_iff] at h
  obtain ⟨sz,hsz,h⟩:=h
  split at h
  ·cases h
  ·rename_i hs0
   simp only [Option.bind_eq_some_iff] at h
   obtain ⟨⟨m,new⟩,hsrc,h⟩:=h
   simp only [] at h
   obtain ⟨hlen,hnl,hfc⟩:=z1q hs hy hsrc
   split at h
   ·rename_i id off n esz
    split at h
    ·rename_i cs hid
     split at h
     ·rename_i hcond
      simp only [Option.some.injEq,Prod.mk.injEq] at h
      obtain ⟨rfl,rfl⟩:=h
      obtain ⟨rfl,hfit⟩:=hcond
      obtain ⟨A,cap,rfl,hlt,hn,ha⟩:=zks hx
      obtain ⟨vs,hvs,hcv⟩:=hfc (Nat.min m n) (Nat.min_le_left ..)
      have hmn:Nat.min m n*esz≤n*esz:=Nat.mul_le_mul_right _ (Nat.min_le_right ..)
      have hmm:Nat.min m n*esz≤m*esz:=Nat.mul_le_mul_right _ (Nat.min_le_left ..)
      have htl:(new.take (Nat.min m n*esz)).length=Nat.min m n*esz:=by simp only [List.length_take];omega
      have hvsz:vs.size=Nat.min m n*esz:=by have:=hcv.1;simp only [List.length_map] at this;omega
      by_cases hn0:n=0
      ·subst hn0
       have hmin:Nat.min m 0=0:=Nat.min_zero m
       have hv0:vs=#[]:=by
        have:vs.size=0:=by rw [hvsz,hmin,Nat.zero_mul]
        simpa using this
       subst hv0
       have e1:setAt cs off (new.take (Nat.min m 0*esz))=cs:=by rw [hmin];simp [setAt]
       have e2:H.set id (.arr cs)=H:=by
        apply List.ext_getElem?
        intro i
        by_cases hi:id=i
        ·subst hi;rw [List.getElem?_set_self',hid];rfl
        ·rw [List.getElem?_set_ne hi]
       rw [e1,e2]
       exact ⟨_,w,ρ,ztd h0 hsz hlen hvs (w':=w) (by cases A<;>simp [storeCells]),Evo.refl ..,hs,.p _ _ (.v _)⟩
      ·obtain ⟨a,rfl,hal⟩:=ha (by omega)
       obtain ⟨b,bs,C,eρ,rfl,hCb,hCsz⟩:=hal ⟨_,hid,rfl⟩
       rcases hs.obs id _ hid with ⟨h6,e6⟩ | ⟨b',bs',C',e6,hX,hO,hcs⟩
       ·rw [eρ] at e6;cases e6
       ·rw [eρ] at e6
        simp only [Option.some.injEq,Prod.mk.injEq] at e6
        obtain ⟨rfl,rfl⟩:=e6
        have hO2:=hO
        obtain ⟨T,hT2⟩:=hO2
        have hf2:bs+off+vs.size≤C'.size:=by have:=hcs.1;omega
        have h8:=zsg hs hid (o':=.arr (setAt cs off (new.take (Nat.min m n*esz)))) rfl rfl eρ hX hO hf2 (fun he hO=>.inr ⟨b,bs,_,eρ,hX,hO,(hcs.write hcv (by omega)).evo he⟩)
        refine ⟨_,_,ρ,ztd h0 hsz hlen hvs (by simp only [];exact zid hT2 hf2 (fun j hj=>(hcv.2 j (by rw [← hcv.1];exact hj)).1)),h8.1,h8.2,.p _ _ (.v _)⟩
     ·cases h
    ·cases h
   ·rename_i full cells
    simp only [Option.some.injEq,Prod.mk.injEq] at h
    obtain ⟨rfl,rfl⟩:=h
    obtain ⟨A,cap,us,rfl,_⟩:=zku hx.toP
    obtain ⟨vs,hvs,hcv⟩:=hfc (Nat.min m 0) (Nat.min_le_left ..)
    have hmin:Nat.min m 0=0:=Nat.min_zero m
    have hv0:vs=#[]:=by
     have:=hcv.1
     rw [hmin] at this
     simpa using this
    subst hv0
    have hr:=ztd (ty:=ty) (cap:=cap) h0 hsz hlen hvs (w':=w) (base:=A) (by cases A<;>simp [storeCells])
    rw [hmin] at hr
    exact ⟨_,w,ρ,hr,Evo.refl ..,hs,.p _ _ (.v _)⟩
   ·cases h
 ·cases h
end
end Go.Ev

set_option linter.unusedVariables false
set_option linter.unusedSimpArgs false
namespace Go.Ev
section
variable {P : Program} {X M : Nat → Prop} {w : World} {H : List Ob} {ρ : Pl}
theorem zk8 {α:Type}{l:List α}{i:Nat}{d:α} (h:i<l.length):l.getD i d=l[i]:=by simp [List.getD,h]
theorem zei (g:Nat→Nat):∀ ds:List Dv,(zbs g ds).length=ds.length
 | []=>rfl
 | d :: ds=>by simp [zbs,zei g ds]
theorem zh6 (g:Nat→Nat):∀ (ds:List Dv) (j:Nat) (h:j<(zbs g ds).length),(zbs g ds)[j]=zd8 g (ds[j]'(by rw [zei] at h;exact h))
 | [],j,h=>by simp [zbs] at h
 | d :: ds,0,h=>by simp [zbs]
 | d :: ds,j+1,h=>by
  simp only [zbs,List.getElem_cons_succ]
  exact zh6 g ds j (by simpa [zbs] using h)
theorem zhh {i:Nat}:∀ (ds:List Dv) (j:Nat) (h:j<ds.length),i∈za8 ds[j]→i∈zav ds
 | [],j,h,_=>by simp at h
 | d :: ds,0,h,hi=>by simp only [zav,List.mem_append];exact .inl hi
 | d :: ds,j+1,h,hi=>by
  simp only [zav,List.mem_append]
  exact .inr (zhh ds j (by simpa using h) (by simpa using hi))
theorem RepD.map {M':Nat→Prop}{H':List Ob}{ρ':Pl}{g:Nat→Nat} (hM:∀ b,M' b→M b) {v:Value}{d:Dv} (h:RepD w M H ρ v d) :
  (∀ i∈za8 d,i<H.length→g i<H'.length∧(Alive H' (g i)→Alive H i∧ρ' (g i)=ρ i))→RepD w M' H' ρ' v (zd8 g d):=by
 induction h with
 | junk x=>intro _;exact .junk x
 | p x y hp=>intro _;exact .p x y (hp.sub hM)
 | ref id off len esz A cap hid hn ha =>
  intro hg
  obtain ⟨h1,h2⟩:=hg id (by simp [za8]) hid
  refine .ref (g id) off len esz A cap h1 hn (fun hc=>?_)
  obtain ⟨a,ea,hal⟩:=ha hc
  refine ⟨a,ea,fun hl=>?_⟩
  obtain ⟨h3,h4⟩:=h2 hl
  obtain ⟨b,bs,C,e,e2,hC,hsz⟩:=hal h3
  exact ⟨b,bs,C,h4.trans e,e2,hC,hsz⟩
 | ptr id off a hid ha =>
  intro hg
  obtain ⟨h1,h2⟩:=hg id (by simp [za8]) hid
  refine .ptr (g id) off a h1 (fun hl=>?_)
  obtain ⟨h3,h4⟩:=h2 hl
  obtain ⟨b,bs,e,e2⟩:=ha h3
  exact ⟨b,bs,h4.trans e,e2⟩
 | agg vs cs hl h1 hr ih =>
  intro hg
  refine .agg vs _ (by rw [zei];exact hl) (fun j hj=>h1 j (by rw [zei] at hj;exact hj)) (fun j hj=>?_)
  rw [zh6]
  exact ih j _ (fun i hi=>hg i (zhh cs j _ hi))
 | tup vs cs hl hr ih =>
  intro hg
  refine .tup vs _ (by rw [zei];exact hl) (fun j hj=>?_)
  rw [zh6]
  exact ih j _ (fun i hi=>hg i (zhh cs j _ hi))
 | fn f vs cs hl hr ih =>
  intro hg
  refine .fn f vs _ (by rw [zei];exact hl) (fun j hj=>?_)
  rw [zh6]
  exact ih j _ (fun i hi=>hg i (zhh cs j _ hi))
 | mp id b hid ha =>
  intro hg
  obtain ⟨h1,h2⟩:=hg id (by simp [za8]) hid
  refine .mp (g id) b h1 (fun hl=>?_)
  obtain ⟨h3,h4⟩:=h2 hl
  exact h4.trans (ha h3)
 | ifc t v d hr ih=>exact fun hg=>.ifc t v _ (ih hg)
theorem TOk.map {M':Nat→Prop}{H':List Ob}{ρ':Pl}{g:Nat→Nat} (hM:∀ b,M' b→M b) {vs:Array Value}{ds:List Dv} (h:TOk w M H ρ vs ds)
  (hg:∀ i∈zav ds,i<H.length→g i<H'.length∧(Alive H' (g i)→Alive H i∧ρ' (g i)=ρ i)):TOk w M' H' ρ' vs (zbs g ds):=by
 refine ⟨by rw [zei];exact h.1,fun j hj=>?_⟩
 rw [zh6]
 exact (h.2 j _).map hM (fun i hi=>hg i (zhh ds j _ hi))
theorem CellsD.map {M':Nat→Prop}{H':List Ob}{ρ':Pl}{g:Nat→Nat} (hM:∀ b,M' b→M b) {C:Array Value}{bs:Nat}{ds:List Dv} (h:CellsD w M H ρ C bs ds)
  (hg:∀ i∈zav ds,i<H.length→g i<H'.length∧(Alive H' (g i)→Alive H i∧ρ' (g i)=ρ i)):CellsD w M' H' ρ' C bs (zbs g ds):=by
 refine ⟨by rw [zei];exact h.1,fun j hj=>?_⟩
 rw [zh6]
 have:=h.2 j (by rw [zei] at hj;exact hj)
 exact ⟨this.1,this.2.map hM (fun i hi=>hg i (zhh ds j _ hi))⟩
theorem EntsD.map {M':Nat→Prop}{H':List Ob}{ρ':Pl}{g:Nat→Nat} (hM:∀ b,M' b→M b) {E:Array MapEntry}{es:List (Value×Dv)} (h:EntsD w M H ρ E es)
  (hg:∀ i∈zav (es.map (·.2)),i<H.length→g i<H'.length∧(Alive H' (g i)→Alive H i∧ρ' (g i)=ρ i)):EntsD w M' H' ρ' E (es.map fun e=>(e.1,zd8 g e.2)):=by
 refine ⟨by rw [List.length_map];exact h.1,fun j hj hj'=>?_⟩
 have hl:j<es.length:=by simpa using hj
 have:=h.2 j hl hj'
 simp only [List.getElem_map]
 refine ⟨this.1,this.2.map hM (fun i hi=>hg i ?_)⟩
 refine zhh (es.map (·.2)) j (by simpa using hl) ?_
 simpa using hi
theorem CellsP.sub {M':Nat→Prop} (hM:∀ b,M' b→M b) {C:Array Value}{bs:Nat}{cs:List Pv} (h:CellsP w M C bs cs):CellsP w M' C bs cs :=
 ⟨h.1,fun j hj=>⟨(h.2 j hj).1,(h.2 j hj).2.sub hM⟩⟩
theorem zhj (g:Nat→Nat) (o:Ob):(obMap g o).live=o.live:=by cases o<;>rfl
theorem zkm (g:Nat→Nat) (o:Ob):(obMap g o).alive=o.alive:=by cases o<;>rfl
theorem ObOk.map {X':Nat→Prop}{H':List Ob}{ρ':Pl}{g:Nat→Nat}{i k:Nat}{o:Ob} (h:ObOk w X H ρ i o) (hM:∀ b,Mut X' H' ρ' b→Mut X H ρ b) (hρ:o.alive=true→ρ' k=ρ i)
  (hX:∀ b bs,ρ i=some (b,bs)→o.live=true→¬ X b→¬ X' b) (hL:∀ b bs,ρ i=some (b,bs)→isRo o=true→¬ Live H ρ b→¬ Live H' ρ' b)
  (hg:∀ j∈zfi o,j<H.length→g j<H'.length∧(Alive H' (g j)→Alive H j∧ρ' (g j)=ρ j)):ObOk w X' H' ρ' k (obMap g o):=by
 cases o with
 | dead=>trivial
 | var ds =>
  obtain ⟨b,bs,C,e,hx,hC,hcs⟩:=h
  exact ⟨b,bs,C,(hρ rfl).trans e,hX b bs e rfl hx,hC,hcs.map hM hg⟩
 | arr cs =>
  rcases h with ⟨h0,e⟩ | ⟨b,bs,C,e,hx,hC,hcs⟩
  ·exact .inl ⟨h0,(hρ rfl).trans e⟩
  ·exact .inr ⟨b,bs,C,(hρ rfl).trans e,hX b bs e rfl hx,hC,hcs.sub hM⟩
 | frz cs =>
  rcases h with ⟨h0,e⟩ | ⟨b,bs,C,e,hx,hC,hcs⟩
  ·exact .inl ⟨h0,(hρ rfl).trans e⟩
  ·exact .inr ⟨b,bs,C,(hρ rfl).trans e,fun hm=>hx (hM b hm),hC,hcs.sub hM⟩
 | ro ds =>
  obtain ⟨b,bs,C,e,hx,hC,hcs⟩:=h
  exact ⟨b,bs,C,(hρ rfl).trans e,hL b bs e rfl hx,hC,hcs.map hM hg⟩
 | roa cs =>
  rcases h with ⟨h0,e⟩ | ⟨b,bs,C,e,hx,hC,hcs⟩
  ·exact .inl ⟨h0,(hρ rfl).trans e⟩
  ·exact .inr ⟨b,bs,C,(hρ rfl).trans e,hL b bs e rfl hx,hC,hcs.sub hM⟩
 | mp es =>
  obtain ⟨b,E,c,e,hx,hC,hcs⟩:=h
  exact ⟨b,E,c,(hρ rfl).trans e,hX b 0 e rfl hx,hC,hcs.map hM hg⟩
 | rmp es =>
  obtain ⟨b,E,c,e,hx,hC,hcs⟩:=h
  exact ⟨b,E,c,(hρ rfl).trans e,hL b 0 e rfl hx,hC,hcs.map hM hg⟩
structure AccOk (H:List Ob) (acc refs:List Nat):Prop where
 nodup:acc.Nodup
 refs:∀ i∈refs,i∈acc
 lt:∀ i∈acc,i<H.length
 obs:∀ i∈acc,∀ j∈zfi (H.getD i .dead),j∈acc
theorem zlx {acc refs:List Nat} (h:accOk H acc refs=true):AccOk H acc refs:=by
 unfold accOk at h
 simp only [Bool.and_eq_true,decide_eq_true_eq,List.all_eq_true,List.contains_iff_mem] at h
 exact ⟨h.1.1,h.1.2,fun i hi=>(h.2 i hi).1,fun i hi j hj=>(h.2 i hi).2 j hj⟩
theorem zrx {acc:List Nat}{i:Nat} (h:i∈acc):acc.idxOf i<acc.length:=List.idxOf_lt_length_iff.2 h
theorem zsp {acc:List Nat}{i:Nat} (h:i∈acc):acc.getD (acc.idxOf i) 0=i:=by
 have:=List.getElem_idxOf (zrx h)
 rw [zk8 (zrx h)]
 exact this
theorem zp6 {acc:List Nat} (hn:acc.Nodup) {j:Nat} (h:j<acc.length):acc.idxOf (acc.getD j 0)=j:=by
 rw [zk8 h]
 exact List.Nodup.idxOf_getElem hn j h
def accPl (ρ:Pl) (acc:List Nat):Pl:=fun j=>if j<acc.length then ρ (acc.getD j 0) else none
theorem zju {acc:List Nat}{j:Nat}{x:Ob} (h:(za0 H acc)[j]?=some x):j<acc.length∧x=obMap acc.idxOf (H.getD (acc.getD j 0) .dead):=by
 unfold za0 at h
 rw [List.getElem?_map] at h
 cases hj:acc[j]? with
 | none=>rw [hj] at h;cases h
 | some i =>
  rw [hj] at h
  simp only [Option.map_some,Option.some.injEq] at h
  obtain ⟨h1,h2⟩:=List.getElem?_eq_some_iff.1 hj
  refine ⟨h1, ?_⟩
  rw [zk8 h1,h2]
  exact h.symm
theorem zjl {i:Nat} (h:i<H.length):H[i]?=some (H.getD i .dead):=by
 rw [zk8 h,List.getElem?_eq_getElem h]
theorem zjj {acc:List Nat}{j:Nat} (h:j<acc.length):acc.getD j 0∈acc:=by
 rw [zk8 h];exact List.getElem_mem h
theorem zfm {acc refs:List Nat} (ha:AccOk H acc refs) {b:Nat} (h:Live (za0 H acc) (accPl ρ acc) b):Live H ρ b:=by
 obtain ⟨j,x,bs,hj,hx,e⟩:=h
 obtain ⟨h1,rfl⟩:=zju hj
 rw [zhj] at hx
 simp only [accPl,h1,if_true] at e
 exact ⟨_,_,bs,zjl (ha.lt _ (zjj h1)),hx,e⟩
theorem zlu {acc refs:List Nat} (ha:AccOk H acc refs) {i:Nat} (hi:i∈acc) (h:Alive (za0 H acc) (acc.idxOf i)):Alive H i∧accPl ρ acc (acc.idxOf i)=ρ i:=by
 obtain ⟨x,hx,hxa⟩:=h
 obtain ⟨h1,rfl⟩:=zju hx
 rw [zkm,zsp hi] at hxa
 exact ⟨⟨_,zjl (ha.lt i hi),hxa⟩,by simp only [accPl,h1,if_true,zsp hi]⟩
theorem zjv (H:List Ob) (acc:List Nat):(za0 H acc).length=acc.length:=by simp [za0]
theorem Sim.take [Gl] {X':Nat→Prop}{acc refs:List Nat} (hs:Sim X w H ρ) (ha:AccOk H acc refs) (hX:∀ b,X' b→Mut X H ρ b) (hX2:∀ b,X' b→¬ Live (za0 H acc) (accPl ρ acc) b) :
  Sim X' w (za0 H acc) (accPl ρ acc) where
 xlt b hb:=hs.mut_lt (hX b hb)
 obs j x hj:=by
  obtain ⟨h1,rfl⟩:=zju hj
  have hi:=zjj h1
  have hlt:=ha.lt _ hi
  have e0:=zjl hlt
  refine (hs.obs _ _ e0).map (fun b hb=>?_) (fun _=>by simp only [accPl,h1,if_true]) (fun b bs e hl _ hx'=>?_) (fun b bs e _ hn hl'=>hn (zfm ha hl')) (fun k hk hlk=>?_)
  ·rcases hb with hb | hb
   ·exact hX b hb
   ·exact .inr (zfm ha hb)
  ·refine hX2 b hx' ⟨j,_,bs,hj,by rw [zhj];exact hl, ?_⟩
   simp only [accPl,h1,if_true];exact e
  ·have hka:=ha.obs _ hi k hk
   exact ⟨by rw [zjv];exact zrx hka,fun hal=>zlu ha hka hal⟩
 inj i j x y b bs bs' hi hj hx hy ei ej:=by
  obtain ⟨h1,rfl⟩:=zju hi
  obtain ⟨h2,rfl⟩:=zju hj
  rw [zhj] at hx hy
  simp only [accPl,h1,h2,if_true] at ei ej
  have:=hs.inj _ _ _ _ b bs bs' (zjl (ha.lt _ (zjj h1))) (zjl (ha.lt _ (zjj h2))) hx hy ei ej
  have h3:=congrArg acc.idxOf this
  rwa [zp6 ha.nodup h1,zp6 ha.nodup h2] at h3
 globs:=hs.globs.sub fun b hb=>by
  rcases hb with hb | hb
  ·exact hX b hb
  ·exact .inr (zfm ha hb)
theorem TOk.take {X':Nat→Prop}{acc:List Nat}{ds:List Dv} (ha:AccOk H acc (zav ds)) (hM:∀ b,Mut X' (za0 H acc) (accPl ρ acc) b→Mut X H ρ b) {vs:Array Value} (h:TOk w (Mut X H ρ) H ρ vs ds) :
  TOk w (Mut X' (za0 H acc) (accPl ρ acc)) (za0 H acc) (accPl ρ acc) vs (zbs acc.idxOf ds) :=
 h.map hM (fun i hi hlt=>⟨by rw [zjv];exact zrx (ha.refs i hi),fun hal=>zlu ha (ha.refs i hi) hal⟩)
end
end Go.Ev

set_option linter.unusedVariables false
set_option linter.unusedSimpArgs false
namespace Go.Ev
section
variable {P : Program} {X M : Nat → Prop} {w : World} {H : List Ob} {ρ : Pl}
theorem zik (g:Nat→Nat):∀ (acc:List Nat) (H h:List Ob),acc.Nodup→(∀ i∈acc,i<H.length)→acc.length≤h.length →
  (zdh g H acc h).length=H.length+(h.length - acc.length) ∧
  (∀ i,i<H.length→i ∉ acc→(zdh g H acc h)[i]?=H[i]?) ∧
  (∀ j,j<acc.length→(zdh g H acc h)[acc.getD j 0]?=(h[j]?).map (obMap g)) ∧
  (∀ k,(zdh g H acc h)[H.length+k]?=(h[acc.length+k]?).map (obMap g))
 | [],H,h,_,_,_=>by
  refine ⟨by simp [zdh],fun i hi _=>?_,fun j hj=>absurd hj (by simp),fun k=>?_⟩
  ·simp only [zdh];rw [List.getElem?_append_left hi]
  ·simp only [zdh,List.length_nil,Nat.zero_add]
   rw [List.getElem?_append_right (by omega),List.getElem?_map]
   congr 2
   omega
 | i :: acc,H,[],_,_,hl=>by simp at hl
 | i :: acc,H,o :: h,hn,hlt,hl=>by
  simp only [zdh]
  have hn':=List.nodup_cons.1 hn
  obtain ⟨h1,h2,h3,h4⟩:=zik g acc (H.set i (obMap g o)) h hn'.2 (fun k hk=>by simpa using hlt k (by simp [hk])) (by simpa using hl)
  simp only [List.length_set] at h1 h2 h4
  refine ⟨by rw [h1];simp,fun k hk hka=>?_,fun j hj=>?_,fun k=>?_⟩
  ·rw [h2 k hk (fun h=>hka (by simp [h])),List.getElem?_set_ne (by intro e;exact hka (by simp [e]))]
  ·cases j with
   | zero =>
    have hi:=hlt i (by simp)
    simp only [List.getD_cons_zero]
    rw [h2 i hi hn'.1,List.getElem?_set_self hi]
    simp
   | succ j=>simpa using h3 j (by simpa using hj)
  ·rw [h4 k]
   congr 1
   simp only [List.length_cons]
   rw [show acc.length+1+k=(acc.length+k)+1 from by omega,List.getElem?_cons_succ]
theorem ztq {acc:List Nat}{h:List Ob} (hn:acc.Nodup) (hlt:∀ i∈acc,i<H.length) (hl:acc.length≤h.length) (g:Nat→Nat) (j:Nat) :
  (zdh g H acc h)[backD H.length acc j]?=(h[j]?).map (obMap g):=by
 obtain ⟨h1,h2,h3,h4⟩:=zik g acc H h hn hlt hl
 unfold backD
 split
 ·rename_i hj;exact h3 j hj
 ·rename_i hj
  rw [h4 (j - acc.length)]
  congr 2
  omega
theorem zs7 {acc:List Nat}{h:List Ob} (hn:acc.Nodup) (hlt:∀ i∈acc,i<H.length) (hl:acc.length≤h.length) {g:Nat→Nat}{i:Nat}{x:Ob} (hi:(zdh g H acc h)[i]?=some x) :
  (i<H.length∧i ∉ acc∧H[i]?=some x)∨∃ j o,h[j]?=some o∧i=backD H.length acc j∧x=obMap g o:=by
 obtain ⟨h1,h2,h3,h4⟩:=zik g acc H h hn hlt hl
 by_cases hi1:i<H.length
 ·by_cases hia:i∈acc
  ·right
   have hj:=zrx hia
   have e:=h3 (acc.idxOf i) hj
   rw [zsp hia,hi] at e
   cases ho:h[acc.idxOf i]? with
   | none=>rw [ho] at e;cases e
   | some o =>
    rw [ho] at e
    simp only [Option.map_some,Option.some.injEq] at e
    exact ⟨acc.idxOf i,o,ho,by simp [backD,hj,zsp hia],e⟩
  ·exact .inl ⟨hi1,hia,by rw [← h2 i hi1 hia];exact hi⟩
 ·right
  have e:=h4 (i - H.length)
  rw [show H.length+(i - H.length)=i from by omega,hi] at e
  cases ho:h[acc.length+(i - H.length)]? with
  | none=>rw [ho] at e;cases e
  | some o =>
   rw [ho] at e
   simp only [Option.map_some,Option.some.injEq] at e
   exact ⟨acc.length+(i - H.length),o,ho,by unfold backD;rw [if_neg (by omega)];omega,e⟩
theorem zqd:∀ {hin h:List Ob},zh0 hin h=true→∀ (j:Nat) (o:Ob),h[j]?=some o→isRo o=true→∃ o':Ob,hin[j]?=some o'∧isRo o'=true
 | o1 :: hin,o2 :: h,hr,0,o,hj,ho=>by
  simp only [zh0,Bool.and_eq_true,Bool.or_eq_true,Bool.not_eq_true'] at hr
  simp at hj
  subst hj
  rcases hr.1 with h1 | h1
  ·rw [h1] at ho;cases ho
  ·exact ⟨o1,by simp,h1⟩
 | o1 :: hin,o2 :: h,hr,j+1,o,hj,ho=>by
  simp only [zh0,Bool.and_eq_true] at hr
  obtain ⟨o',h1,h2⟩:=zqd hr.2 j o (by simpa using hj) ho
  exact ⟨o',by simpa using h1,h2⟩
 | [],h,hr,j,o,hj,ho=>by
  simp only [zh0,noRo,List.all_eq_true,Bool.not_eq_true'] at hr
  have:=hr o (List.mem_of_getElem? hj)
  rw [this] at ho;cases ho
 | _ :: _,[],_,j,o,hj,_=>by simp at hj
theorem z6m (g:Nat→Nat) (o:Ob):isRo (obMap g o)=isRo o:=by cases o<;>rfl
def lentX (X:Nat→Prop) (H:List Ob) (ρ:Pl) (acc:List Nat) (b:Nat):Prop:=X b∨(Live H ρ b∧¬ Live (za0 H acc) (accPl ρ acc) b)
def zn7 (ρ ρ':Pl) (n k:Nat):Pl:=fun i=>if i<n then ρ i else ρ' (k+(i - n))
theorem zni {acc refs:List Nat} (ha:AccOk H acc refs) (b:Nat):Mut (lentX X H ρ acc) (za0 H acc) (accPl ρ acc) b↔Mut X H ρ b:=by
 constructor
 ·rintro ((h | h) | h)
  ·exact .inl h
  ·exact .inr h.1
  ·exact .inr (zfm ha h)
 ·rintro (h | h)
  ·exact .inl (.inl h)
  ·by_cases hl:Live (za0 H acc) (accPl ρ acc) b
   ·exact .inr hl
   ·exact .inl (.inr ⟨h,hl⟩)
theorem z60 [Gl] {acc refs:List Nat} (hs:Sim X w H ρ) (ha:AccOk H acc refs):Sim (lentX X H ρ acc) w (za0 H acc) (accPl ρ acc) :=
 hs.take ha (fun b hb=>(zni ha b).1 (.inl hb)) (fun b hb hl=>by
  rcases hb with hb | hb
  ·exact (hs.live_x (zfm ha hl)).1 hb
  ·exact hb.2 hl)
theorem z9o [Gl] {acc refs:List Nat}{h:List Ob}{ρ':Pl}{w':World} (hs:Sim X w H ρ) (ha:AccOk H acc refs) (hl:acc.length≤h.length) (hro:zh0 (za0 H acc) h=true)
  (he:Evo (za0 H acc).length w (za0 H acc) (accPl ρ acc) w' h ρ') (hs':Sim (lentX X H ρ acc) w' h ρ') :
  Evo H.length w H ρ w' (zdh (backD H.length acc) H acc h) (zn7 ρ ρ' H.length acc.length) ∧
  Sim X w' (zdh (backD H.length acc) H acc h) (zn7 ρ ρ' H.length acc.length) ∧
  ∀ v d,RepD w' (Mut (lentX X H ρ acc) h ρ') h ρ' v d→RepD w' (Mut X (zdh (backD H.length acc) H acc h) (zn7 ρ ρ' H.length acc.length)) (zdh (backD H.length acc) H acc h) (zn7 ρ ρ' H.length acc.length) v (zd8 (backD H.length acc) d):=by
 have hn:=ha.nodup
 have hlt:=ha.lt
 obtain ⟨hlen,_,_,_⟩:=zik (backD H.length acc) acc H h hn hlt hl
 generalize hH2:zdh (backD H.length acc) H acc h=H2 at *
 generalize hρ2:zn7 ρ ρ' H.length acc.length=ρ2 at *
 have hcases:∀ {i x},H2[i]?=some x→(i<H.length∧i ∉ acc∧H[i]?=some x)∨∃ j o,h[j]?=some o∧i=backD H.length acc j∧x=obMap (backD H.length acc) o:=by
  intro i x hi;rw [← hH2] at hi;exact zs7 hn hlt hl hi
 have hback:∀ j,H2[backD H.length acc j]?=(h[j]?).map (obMap (backD H.length acc)):=by
  intro j;rw [← hH2];exact ztq hn hlt hl _ j
 have hρlt:∀ i,i<H.length→ρ2 i=ρ i:=by intro i hi;rw [← hρ2];simp [zn7,hi]
 have hρb:∀ j,j<h.length→Alive h j→ρ2 (backD H.length acc j)=ρ' j:=by
  intro j hj hal
  unfold backD
  split
  ·rename_i hja
   rw [hρlt _ (hlt _ (zjj hja))]
   have h1:=(he.alive j (by rw [zjv];exact hja) hal).2
   rw [h1]
   simp [accPl,hja]
  ·rename_i hja
   rw [← hρ2]
   unfold zn7
   rw [if_neg (by omega)]
   congr 1
   omega
 have hal:∀ j,Alive H2 (backD H.length acc j)→Alive h j:=by
  rintro j ⟨x,hx,hxa⟩
  rw [hback] at hx
  cases ho:h[j]? with
  | none=>rw [ho] at hx;cases hx
  | some o =>
   rw [ho] at hx
   simp only [Option.map_some,Option.some.injEq] at hx
   subst hx
   rw [zkm] at hxa
   exact ⟨o,ho,hxa⟩
 have halive_of_live:∀ {o:Ob},o.live=true→o.alive=true:=by intro o ho;cases o<;>simp_all [Ob.live,Ob.alive]
 have hlent:∀ {i x b bs},H[i]?=some x→x.live=true→ρ i=some (b,bs)→i ∉ acc→lentX X H ρ acc b:=by
  intro i x b bs hi hx e hia
  refine .inr ⟨⟨i,x,bs,hi,hx,e⟩,fun hl'=>?_⟩
  obtain ⟨j,y,bs',hj,hy,e'⟩:=hl'
  obtain ⟨h1,rfl⟩:=zju hj
  rw [zhj] at hy
  simp only [accPl,h1,if_true] at e'
  have:=hs.inj _ _ _ _ b bs bs' hi (zjl (hlt _ (zjj h1))) hx hy e e'
  exact hia (this ▸ zjj h1)
 have hlive:∀ b,Live H2 ρ2 b→(∃ i x bs,H[i]?=some x∧x.live=true∧ρ i=some (b,bs)∧i ∉ acc)∨Live h ρ' b:=by
  rintro b ⟨i,x,bs,hi,hx,e⟩
  rcases hcases hi with ⟨h1,h2,h3⟩ | ⟨j,o,h1,rfl,rfl⟩
  ·rw [hρlt i h1] at e
   exact .inl ⟨i,x,bs,h3,hx,e,h2⟩
  ·rw [zhj] at hx
   have hjl:=(List.getElem?_eq_some_iff.1 h1).1
   rw [hρb j hjl ⟨o,h1,halive_of_live hx⟩] at e
   exact .inr ⟨j,o,bs,h1,hx,e⟩
 have hM:∀ b,Mut X H2 ρ2 b→Mut (lentX X H ρ acc) h ρ' b:=by
  rintro b (hb | hb)
  ·exact .inl (.inl hb)
  ·rcases hlive b hb with ⟨i,x,bs,hi,hx,e,hia⟩ | hb
   ·exact .inl (hlent hi hx e hia)
   ·exact .inr hb
 have hg:∀ j,j<h.length→backD H.length acc j<H2.length∧(Alive H2 (backD H.length acc j)→Alive h j∧ρ2 (backD H.length acc j)=ρ' j):=by
  intro j hj
  refine ⟨?_,fun h1=>⟨hal j h1,hρb j hj (hal j h1)⟩⟩
  have:=hback j
  rw [List.getElem?_eq_getElem hj] at this
  exact (List.getElem?_eq_some_iff.1 this).1
 have hevo:Evo H.length w H ρ w' H2 ρ2:=by
  refine ⟨he.os,he.tape,he.output,he.size,fun b hb hnl=>he.block b hb (fun h1=>hnl (zfm ha h1)),he.shape,fun b hb=>?_,Nat.le_refl _,by omega,fun i hi h1=>?_⟩
  ·rcases hlive b hb with ⟨i,x,bs,hi,hx,e,_⟩ | hb
   ·exact .inl ⟨i,x,bs,hi,hx,e⟩
   ·rcases he.live b hb with h1 | h1
    ·exact .inl (zfm ha h1)
    ·exact .inr h1
  ·refine ⟨?_,hρlt i hi⟩
   obtain ⟨x,hx,hxa⟩:=h1
   rcases hcases hx with ⟨_,h2,h3⟩ | ⟨j,o,h2,h3,h4⟩
   ·exact ⟨x,h3,hxa⟩
   ·subst h4
    rw [zkm] at hxa
    have hja:j<acc.length:=by
     unfold backD at h3
     split at h3
     ·assumption
     ·omega
    have h5:=(he.alive j (by rw [zjv];exact hja) ⟨o,h2,hxa⟩).1
    have h6:i=acc.getD j 0:=by simpa [backD,hja] using h3
    have h7:acc.idxOf i=j:=by rw [h6];exact zp6 hn hja
    have h8:=zlu (ρ:=ρ) ha (i:=i) (h6 ▸ zjj hja) (by rw [h7];exact h5)
    exact h8.1
 refine ⟨hevo,hs.step hevo (fun i x hi=>?_) (fun i j x y b bs bs' hi hj hx hy ei ej=>?_),fun v d hd=>hd.map hM (fun j _ hj=>hg j hj)⟩
 ·rcases hcases hi with ⟨h1,h2,h3⟩ | ⟨j,o,h1,rfl,rfl⟩
  ·refine .inl ⟨h3,fun b bs e hol=>he.block b (hs.live_lt ⟨i,x,bs,h3,hol,e⟩) ?_⟩
   rcases hlent h3 hol e h2 with h4 | h4
   ·exact absurd h4 (hs.live_x ⟨i,x,bs,h3,hol,e⟩).1
   ·exact h4.2
  ·right
   have hjl:=(List.getElem?_eq_some_iff.1 h1).1
   refine (hs'.obs j o h1).map hM (fun hoa=>hρb j hjl ⟨o,h1,hoa⟩) (fun b bs e hol hnx hx=>hnx (.inl hx)) (fun b bs e hor hnl hl2=>?_) (fun k hk hkl=>hg k hkl)
   rcases hlive b hl2 with ⟨i,x,bs2,hi2,hx2,e2,hia⟩ | hb
   ·obtain ⟨o',ho',hro'⟩:=zqd hro j o h1 hor
    obtain ⟨hja,rfl⟩:=zju ho'
    rw [z6m] at hro'
    have hoa:o.alive=true:=by cases o<;>simp_all [isRo,Ob.alive]
    have h5:=(he.alive j (by rw [zjv];exact hja) ⟨o,h1,hoa⟩).2
    rw [h5] at e
    simp only [accPl,hja,if_true] at e
    have hob:=hs.obs _ _ (zjl (hlt _ (zjj hja)))
    generalize hy:H.getD (acc.getD j 0) .dead=y at *
    have hnl2:¬ Live H ρ b:=by
     cases y with
     | ro ds=>obtain ⟨b',bs',C,e',hx',_⟩:=hob;rw [e] at e';simp only [Option.some.injEq,Prod.mk.injEq] at e';obtain ⟨rfl,rfl⟩:=e';exact hx'
     | roa cs =>
      rcases hob with ⟨_,e'⟩ | ⟨b',bs',C,e',hx',_⟩
      ·rw [e] at e';cases e'
      ·rw [e] at e';simp only [Option.some.injEq,Prod.mk.injEq] at e';obtain ⟨rfl,rfl⟩:=e';exact hx'
     | rmp es=>obtain ⟨b',E,c,e',hx',_⟩:=hob;rw [e] at e';simp only [Option.some.injEq,Prod.mk.injEq] at e';obtain ⟨rfl,rfl⟩:=e';exact hx'
     | _=>simp [isRo] at hro'
    exact hnl2 ⟨i,x,bs2,hi2,hx2,e2⟩
   ·exact hnl hb
 ·rcases hcases hi with ⟨h1,h2,h3⟩ | ⟨k,o,h1,rfl,rfl⟩<;>rcases hcases hj with ⟨h1',h2',h3'⟩ | ⟨k',o',h1',rfl,rfl⟩
  ·rw [hρlt _ h1] at ei
   rw [hρlt _ h1'] at ej
   exact hs.inj i j x y b bs bs' h3 h3' hx hy ei ej
  ·exfalso
   rw [hρlt _ h1] at ei
   rw [zhj] at hy
   have hkl:=(List.getElem?_eq_some_iff.1 h1').1
   rw [hρb k' hkl ⟨o',h1',halive_of_live hy⟩] at ej
   exact (hs'.live_x ⟨k',o',bs',h1',hy,ej⟩).1 (hlent h3 hx ei h2)
  ·exfalso
   rw [hρlt _ h1'] at ej
   rw [zhj] at hx
   have hkl:=(List.getElem?_eq_some_iff.1 h1).1
   rw [hρb k hkl ⟨o,h1,halive_of_live hx⟩] at ei
   exact (hs'.live_x ⟨k,o,bs,h1,hx,ei⟩).1 (hlent h3' hy ej h2')
  ·rw [zhj] at hx hy
   have hkl:=(List.getElem?_eq_some_iff.1 h1).1
   have hkl':=(List.getElem?_eq_some_iff.1 h1').1
   rw [hρb k hkl ⟨o,h1,halive_of_live hx⟩] at ei
   rw [hρb k' hkl' ⟨o',h1',halive_of_live hy⟩] at ej
   rw [hs'.inj k k' o o' b bs bs' h1 h1' hx hy ei ej]
end
end Go.Ev

set_option linter.unusedVariables false
set_option linter.unusedSimpArgs false
namespace Go.Ev
section
variable {P : Program} {X M : Nat → Prop} {w : World} {H : List Ob} {ρ : Pl}
def CallsX (P:Program) (f:FuncId) (vs:Array Value) (w:World) (R:Ending→World→Prop):Prop :=
 ((∃ fn c,P.funcs[f]?=some fn∧fn.body=some c)∧Calls P f vs w R)∨∃ v w',(callFunc f vs).run P w=.ok (.value v) w'∧R (.returned v) w'
theorem CallsX.mono {f:FuncId}{vs:Array Value}{R R':Ending→World→Prop} (h:CallsX P f vs w R) (hR:∀ e w',R e w'→R' e w'):CallsX P f vs w R':=by
 rcases h with ⟨h1,h2⟩ | ⟨v,w',h1,h2⟩
 ·exact .inl ⟨h1,h2.mono hR⟩
 ·exact .inr ⟨v,w',h1,hR _ _ h2⟩
def zir [Gl] (P:Program) (call:CallF):Prop:=∀ (f:FuncId) (args:List Dv) (H:List Ob) (r:Dv) (H':List Ob),call f args H=some (r,H') →
 ∀ (X:Nat→Prop) (w:World) (ρ:Pl) (vs:Array Value),Sim X w H ρ→TOk w (Mut X H ρ) H ρ vs args →
  CallsX P f vs w fun e w'=>∃ v ρ',e=.returned v∧Fin X w H ρ w' H' ρ' v r
theorem RepD.heap {H':List Ob}{ρ':Pl}{v:Value}{d:Dv} (h:RepD w M H ρ v d) (hl:H.length≤H'.length) (ha:∀ i,i<H.length→Alive H' i→Alive H i∧ρ' i=ρ i):RepD w M H' ρ' v d:=by
 induction h with
 | junk x=>exact .junk x
 | p x y hp=>exact .p x y hp
 | ref id off len esz A cap hid hn hal =>
  refine .ref id off len esz A cap (Nat.lt_of_lt_of_le hid hl) hn (fun hc=>?_)
  obtain ⟨a,ea,h1⟩:=hal hc
  refine ⟨a,ea,fun h2=>?_⟩
  obtain ⟨h3,h4⟩:=ha id hid h2
  obtain ⟨b,bs,C,e,e2,hC,hsz⟩:=h1 h3
  exact ⟨b,bs,C,h4.trans e,e2,hC,hsz⟩
 | ptr id off a hid hal =>
  refine .ptr id off a (Nat.lt_of_lt_of_le hid hl) (fun h2=>?_)
  obtain ⟨h3,h4⟩:=ha id hid h2
  obtain ⟨b,bs,e,e2⟩:=hal h3
  exact ⟨b,bs,h4.trans e,e2⟩
 | agg vs cs hl' h1 hr ih=>exact .agg vs cs hl' h1 ih
 | tup vs cs hl' hr ih=>exact .tup vs cs hl' ih
 | fn f vs cs hl' hr ih=>exact .fn f vs cs hl' ih
 | mp id b hid hal =>
  refine .mp id b (Nat.lt_of_lt_of_le hid hl) (fun h2=>?_)
  obtain ⟨h3,h4⟩:=ha id hid h2
  exact h4.trans (hal h3)
 | ifc t v d hr ih=>exact .ifc t v d ih
theorem RepD.setM {M':Nat→Prop} (hM:∀ b,M' b→M b) {v:Value}{d:Dv} (h:RepD w M H ρ v d):RepD w M' H ρ v d:=by
 induction h with
 | junk x=>exact .junk x
 | p x y hp=>exact .p x y (hp.sub hM)
 | ref id off len esz A cap hid hn hal=>exact .ref id off len esz A cap hid hn hal
 | ptr id off a hid hal=>exact .ptr id off a hid hal
 | agg vs cs hl' h1 hr ih=>exact .agg vs cs hl' h1 ih
 | tup vs cs hl' hr ih=>exact .tup vs cs hl' ih
 | fn f vs cs hl' hr ih=>exact .fn f vs cs hl' ih
 | mp id b hid hal=>exact .mp id b hid hal
 | ifc t v d hr ih=>exact .ifc t v d ih
theorem z0h (o:Ob):(roOf o).alive=o.alive:=by cases o<;>rfl
theorem z5p (o:Ob):(roOf o).live=false:=by cases o<;>rfl
theorem zip (h:List Ob) (ρ:Pl) (b:Nat):¬ Live (h.map roOf) ρ b:=by
 rintro ⟨i,x,bs,hi,hx,_⟩
 rw [List.getElem?_map] at hi
 cases ho:h[i]? with
 | none=>rw [ho] at hi;cases hi
 | some o =>
  rw [ho] at hi
  simp only [Option.map_some,Option.some.injEq] at hi
  subst hi
  rw [z5p] at hx
  cases hx
theorem z8r {h:List Ob}{i:Nat} (ha:Alive (h.map roOf) i):Alive h i:=by
 obtain ⟨x,hi,hx⟩:=ha
 rw [List.getElem?_map] at hi
 cases ho:h[i]? with
 | none=>rw [ho] at hi;cases hi
 | some o =>
  rw [ho] at hi
  simp only [Option.map_some,Option.some.injEq] at hi
  subst hi
  rw [z0h] at hx
  exact ⟨o,ho,hx⟩
theorem z37 {v:Value}{d:Dv} (h:RepD w (Mut X H ρ) H ρ v d):RepD w (Mut (Mut X H ρ) (H.map roOf) ρ) (H.map roOf) ρ v d :=
 (h.setM (fun b hb=>by
  rcases hb with hb | hb
  ·exact hb
  ·exact absurd hb (zip _ _ _))).heap (by simp) (fun i _ ha=>⟨z8r ha,rfl⟩)
theorem zyr {C:Array Value}{bs:Nat}{ds:List Dv} (h:CellsD w (Mut X H ρ) H ρ C bs ds):CellsD w (Mut (Mut X H ρ) (H.map roOf) ρ) (H.map roOf) ρ C bs ds :=
 ⟨h.1,fun j hj=>⟨(h.2 j hj).1,z37 (h.2 j hj).2⟩⟩
theorem zps {C:Array Value}{bs:Nat}{ds:List Pv} (h:CellsP w (Mut X H ρ) C bs ds):CellsP w (Mut (Mut X H ρ) (H.map roOf) ρ) C bs ds :=
 h.sub (fun b hb=>by
  rcases hb with hb | hb
  ·exact hb
  ·exact absurd hb (zip _ _ _))
theorem z3v {E:Array MapEntry}{es:List (Value×Dv)} (h:EntsD w (Mut X H ρ) H ρ E es):EntsD w (Mut (Mut X H ρ) (H.map roOf) ρ) (H.map roOf) ρ E es :=
 ⟨h.1,fun j hj hj'=>⟨(h.2 j hj hj').1,z37 (h.2 j hj hj').2⟩⟩
theorem Sim.ro [Gl] (hs:Sim X w H ρ):Sim (Mut X H ρ) w (H.map roOf) ρ where
 xlt b hb:=hs.mut_lt hb
 obs i x hi:=by
  rw [List.getElem?_map] at hi
  cases ho:H[i]? with
  | none=>rw [ho] at hi;cases hi
  | some o =>
   rw [ho] at hi
   simp only [Option.map_some,Option.some.injEq] at hi
   subst hi
   have hob:=hs.obs i o ho
   cases o with
   | dead=>trivial
   | var ds =>
    obtain ⟨b,bs,C,e,hx,hC,hcs⟩:=hob
    exact ⟨b,bs,C,e,zip _ _ _,hC.blk,zyr hcs⟩
   | arr cs =>
    rcases hob with ⟨h0,e⟩ | ⟨b,bs,C,e,hx,hC,hcs⟩
    ·exact .inl ⟨h0,e⟩
    ·exact .inr ⟨b,bs,C,e,zip _ _ _,hC.blk,zps hcs⟩
   | frz cs =>
    rcases hob with ⟨h0,e⟩ | ⟨b,bs,C,e,hx,hC,hcs⟩
    ·exact .inl ⟨h0,e⟩
    ·refine .inr ⟨b,bs,C,e,fun hm=>?_,hC,zps hcs⟩
     rcases hm with hm | hm
     ·exact hx hm
     ·exact absurd hm (zip _ _ _)
   | ro ds =>
    obtain ⟨b,bs,C,e,hx,hC,hcs⟩:=hob
    exact ⟨b,bs,C,e,zip _ _ _,hC,zyr hcs⟩
   | roa cs =>
    rcases hob with ⟨h0,e⟩ | ⟨b,bs,C,e,hx,hC,hcs⟩
    ·exact .inl ⟨h0,e⟩
    ·exact .inr ⟨b,bs,C,e,zip _ _ _,hC,zps hcs⟩
   | mp es =>
    obtain ⟨b,E,c,e,hx,hC,hcs⟩:=hob
    exact ⟨b,E,c,e,zip _ _ _,hC,z3v hcs⟩
   | rmp es =>
    obtain ⟨b,E,c,e,hx,hC,hcs⟩:=hob
    exact ⟨b,E,c,e,zip _ _ _,hC,z3v hcs⟩
 globs:=hs.globs.sub fun b hb=>by
  rcases hb with hb | hb
  ·exact hb
  ·exact absurd hb (zip _ _ _)
 inj i j x y b bs bs' hi hj hx hy ei ej:=by
  exact absurd ⟨i,x,bs,hi,hx,ei⟩ (zip H ρ b)
theorem zxp [Gl] {X':Nat→Prop}{hin h:List Ob}{ρc ρ':Pl}{w':World}{v:Value}{x:Pv} (hs:Sim X w H ρ) (hn:∀ b,¬ Live hin ρc b) (hX:∀ b,Mut X H ρ b→X' b) (hf:Fin X' w hin ρc w' h ρ' v (.p x)) :
  Fin X w H ρ w' H ρ v (.p x) :=
 have hb:∀ b,b<w.heap.size→w'.heap[b]?=w.heap[b]?:=fun b h1=>hf.evo.block b h1 (hn b)
 ⟨Evo.world hf.evo.os hf.evo.tape hf.evo.output hf.evo.size hb,hs.world hf.evo.os hf.evo.tape hf.evo.output hf.evo.size hb,.p _ _ (hf.rep.toP.sub fun b h1=>.inl (hX b h1))⟩
theorem z99 [Gl] (hs:Sim X w H ρ) (l':List Nat):∀ (ds:List Dv),(∀ i∈(giveD H ds).2,i∈l') →
  (giveD H ds).1.length=ds.length∧∀ j (h1:j<ds.length) (h2:j<(giveD H ds).1.length) (v:Value),RepD w (Mut X H ρ) H ρ v ds[j]→RepD w (Mut X (zan H l') ρ) (zan H l') ρ v (giveD H ds).1[j]:=by
 obtain ⟨he,hs'⟩:=zgf l' hs
 intro ds
 induction ds with
 | nil=>intro _;exact ⟨rfl,fun j h1=>absurd h1 (by simp)⟩
 | cons d ds ih =>
  intro hl
  have same:∀ {r:List Dv×List Nat},giveD H (d :: ds)=(d :: (giveD H ds).1,(giveD H ds).2)→(giveD H (d :: ds)).1.length=(d :: ds).length∧∀ j (h1:j<(d :: ds).length) (h2:j<(giveD H (d :: ds)).1.length) (v:Value),RepD w (Mut X H ρ) H ρ v (d :: ds)[j]→RepD w (Mut X (zan H l') ρ) (zan H l') ρ v (giveD H (d :: ds)).1[j]:=by
   intro _ e
   obtain ⟨h1,h2⟩:=ih (fun i hi=>hl i (by rw [e];exact hi))
   refine ⟨by rw [e];simp [h1],fun j h3 h4 v hv=>?_⟩
   cases j with
   | zero=>simp only [e,List.getElem_cons_zero];exact hv.evo he
   | succ j =>
    simp only [e,List.getElem_cons_succ]
    exact h2 j (by simpa using h3) (by rw [h1];simpa using h3) v hv
  have frz:∀ (x:Pv) (m:List Nat),giveD H (d :: ds)=(.p x :: (giveD H ds).1,m)→(∀ i∈(giveD H ds).2,i∈m)→(∀ v,RepD w (Mut X H ρ) H ρ v d→RepP w (Mut X (zan H l') ρ) v x) →
    (giveD H (d :: ds)).1.length=(d :: ds).length∧∀ j (h1:j<(d :: ds).length) (h2:j<(giveD H (d :: ds)).1.length) (v:Value),RepD w (Mut X H ρ) H ρ v (d :: ds)[j]→RepD w (Mut X (zan H l') ρ) (zan H l') ρ v (giveD H (d :: ds)).1[j]:=by
   intro x m e hm hx
   obtain ⟨h1,h2⟩:=ih (fun i hi=>hl i (by rw [e];exact hm i hi))
   refine ⟨by rw [e];simp [h1],fun j h3 h4 v hv=>?_⟩
   cases j with
   | zero=>simp only [e,List.getElem_cons_zero];exact .p _ _ (hx v hv)
   | succ j =>
    simp only [e,List.getElem_cons_succ]
    exact h2 j (by simpa using h3) (by rw [h1];simpa using h3) v hv
  cases d with
  | ref id off len esz =>
   cases hid:H[id]? with
   | none=>exact same (r:=([],[])) (by simp only [giveD,hid])
   | some o =>
    cases o with
    | arr cs =>
     by_cases hsz:off+len*esz≤cs.length
     ·have e:giveD H (.ref id off len esz :: ds)=(.p (.lst false len ((cs.drop off).take (len*esz))) :: (giveD H ds).1,id :: (giveD H ds).2):=by simp only [giveD,hid,if_pos hsz]
      refine frz _ _ e (fun i hi=>by simp [hi]) (fun v hv=>?_)
      exact zmp hs' (zf8 (.inr (.inl ⟨hl id (by rw [e];simp),hid⟩))) (hv.evo he) hsz
     ·exact same (r:=([],[])) (by simp only [giveD,hid,if_neg hsz])
    | frz cs =>
     by_cases hsz:off+len*esz≤cs.length
     ·have e:giveD H (.ref id off len esz :: ds)=(.p (.lst false len ((cs.drop off).take (len*esz))) :: (giveD H ds).1,(giveD H ds).2):=by simp only [giveD,hid,if_pos hsz]
      refine frz _ _ e (fun i hi=>hi) (fun v hv=>?_)
      exact zmp hs' (zf8 (.inl hid)) (hv.evo he) hsz
     ·exact same (r:=([],[])) (by simp only [giveD,hid,if_neg hsz])
    | dead=>exact same (r:=([],[])) (by simp only [giveD,hid])
    | var ds=>exact same (r:=([],[])) (by simp only [giveD,hid])
    | ro ds=>exact same (r:=([],[])) (by simp only [giveD,hid])
    | roa ds=>exact same (r:=([],[])) (by simp only [giveD,hid])
    | mp ds=>exact same (r:=([],[])) (by simp only [giveD,hid])
    | rmp ds=>exact same (r:=([],[])) (by simp only [giveD,hid])
  | p x=>exact frz (Go.Ev.wk x) (giveD H ds).2 (by simp only [giveD]) (fun i hi=>hi) (fun v hv=>(hv.evo he).toP.wk)
  | _=>exact same (r:=([],[])) (by simp only [giveD])
theorem z04 [Gl] (hs:Sim X w H ρ) {ds:List Dv}{vs:Array Value} (h:TOk w (Mut X H ρ) H ρ vs ds):TOk w (Mut X (zan H (giveD H ds).2) ρ) (zan H (giveD H ds).2) ρ vs (giveD H ds).1:=by
 obtain ⟨h1,h2⟩:=z99 hs (giveD H ds).2 ds (fun i hi=>hi)
 exact ⟨by rw [h1];exact h.1,fun j hj=>h2 j (by rw [← h1];exact hj) hj _ (h.2 j (by rw [← h1];exact hj))⟩
theorem Fin.trans [Gl] {w1 w2:World}{H1 H2:List Ob}{ρ1 ρ2:Pl}{v:Value}{d:Dv} (he:Evo H.length w H ρ w1 H1 ρ1) (hl:H1.length=H.length) (hf:Fin X w1 H1 ρ1 w2 H2 ρ2 v d):Fin X w H ρ w2 H2 ρ2 v d :=
 ⟨he.trans (hl ▸ hf.evo),hf.sim,hf.rep⟩
theorem zvf {b:Bool}{H1:List Ob} (h:b=false→H1=H):(zk6 b H1).getD H=H1:=by
 cases b with
 | true=>rfl
 | false=>exact (h rfl).symm
theorem zyt [Gl] {call:CallF} (hc:zir P call) {A:Ann} (hs:Sim X w H ρ) {f:FuncId}{args:List Dv}{vs:Array Value} (ht:TOk w (Mut X H ρ) H ρ vs args) {d:Dv}{hh:Option (List Ob)} (h:callD call A H f args=some (d,hh)) :
  CallsX P f vs w fun e w'=>∃ v ρ',e=.returned v∧Fin X w H ρ w' (hh.getD H) ρ' v d:=by
 unfold callD at h
 simp only [] at h
 have hgv:∃ gv:List Dv×List Nat,(if A.muts f || A.ros f then (args.map (wkA A f),[]) else giveD H args)=gv∧TOk w (Mut X (zan H gv.2) ρ) (zan H gv.2) ρ vs gv.1:=by
  refine ⟨_,rfl, ?_⟩
  split
  ·refine ⟨by simpa using ht.1,fun j hj=>?_⟩
   have hj':j<args.length:=by simpa using hj
   have:=ht.2 j hj'
   simp only [List.getElem_map]
   generalize args[j]=d0 at *
   unfold wkA
   split
   ·exact this
   unfold wkDv
   split
   ·exact this
   ·exact .p _ _ this.toP.wk
   ·exact this
  ·exact z04 hs ht
 obtain ⟨gv,egv,htv⟩:=hgv
 rw [egv] at h
 obtain ⟨he0,hs0⟩:=zgf gv.2 hs
 have hl0:=zcs H gv.2
 have hH1:gv.2.isEmpty=true→zan H gv.2=H:=by intro h0;rw [List.isEmpty_iff.1 h0];rfl
 generalize zan H gv.2=H1 at *
 generalize hacc:zen H1 64 (zav gv.1) []=acc at *
 split at h
 ·rename_i hok
  have ha:=zlx hok
  simp only [Option.bind_eq_some_iff] at h
  obtain ⟨⟨r,hp⟩,hcl,h⟩:=h
  simp only [] at h
  have hcalls:=hc _ _ _ _ _ hcl
  have hst:=z60 hs0 ha
  have htt:=TOk.take (X':=lentX X H1 ρ acc) ha (fun b hb=>(zni ha b).1 hb) htv
  have hgd:∀ {H2:List Ob},(zk6 (!gv.2.isEmpty) H1).getD H=H1:=by
   intro _
   refine zvf (fun h0=>hH1 (by simpa using h0))
  have purec:∀ {x:Pv},r=.p x→(A.muts f=false∨acc=[])→CallsX P f vs w fun e w'=>∃ v ρ',e=.returned v∧Fin X w H ρ w' H1 ρ' v (.p x):=by
   intro x hr hcase
   subst hr
   cases hm:A.muts f with
   | false =>
    have hin:lentD A f H1 acc=(za0 H1 acc).map roOf:=by simp [lentD,hm]
    rw [hin] at hcl hcalls
    refine (hcalls (Mut (lentX X H1 ρ acc) (za0 H1 acc) (accPl ρ acc)) w (accPl ρ acc) vs hst.ro ⟨htt.1,fun j hj=>z37 (htt.2 j hj)⟩).mono fun e w' ⟨v,ρ',he,hf⟩=>⟨v,ρ,he, ?_⟩
    exact Fin.trans he0 hl0 (zxp hs0 (zip _ _) (fun b hb=>(zni ha b).2 hb) hf)
   | true =>
    have hacc0:acc=[]:=by
     rcases hcase with h1 | h1
     ·rw [hm] at h1;cases h1
     ·exact h1
    subst hacc0
    have hin:lentD A f H1 []=za0 H1 []:=by simp [lentD,hm]
    rw [hin] at hcl hcalls
    refine (hcalls (lentX X H1 ρ []) w (accPl ρ []) vs hst htt).mono fun e w' ⟨v,ρ',he,hf⟩=>⟨v,ρ,he, ?_⟩
    have hnl:∀ b,¬ Live (za0 H1 []) (accPl ρ []) b:=by
     rintro b ⟨i,x,bs,hi,_⟩
     simp [za0] at hi
    refine Fin.trans he0 hl0 (zxp hs0 hnl (fun b hb=>?_) hf)
    rcases (zni ha b).2 hb with h1 | h1
    ·exact h1
    ·exact absurd h1 (hnl b)
  split at h
  ·rename_i hm
   simp only [Option.some.injEq,Prod.mk.injEq] at h
   obtain ⟨rfl,rfl⟩:=h
   rw [hgd (H2:=H)]
   exact purec rfl (.inl hm)
  ·rename_i hm hacc2
   simp only [Option.some.injEq,Prod.mk.injEq] at h
   obtain ⟨rfl,rfl⟩:=h
   rw [hgd (H2:=H)]
   exact purec rfl (.inr rfl)
  ·rename_i acc hp r x0 acc2 hp2 r2 hno1 hno2
   split at h
   ·rename_i hcond
    simp only [Bool.and_eq_true,decide_eq_true_eq,Bool.or_eq_true] at hcond
    obtain ⟨⟨h1,h2⟩,h3⟩:=hcond
    simp only [Option.some.injEq,Prod.mk.injEq] at h
    obtain ⟨rfl,rfl⟩:=h
    have hin:lentD A f H1 acc=za0 H1 acc:=by
     rcases h1 with h1 | h1
     ·simp [lentD,h1]
     ·rw [List.isEmpty_iff.1 h1];unfold lentD;split<;>rfl
    rw [hin] at hcl hcalls
    refine (hcalls (lentX X H1 ρ acc) w (accPl ρ acc) vs hst htt).mono fun e w' ⟨v,ρ',he,hf⟩=>⟨v,zn7 ρ ρ' H1.length acc.length,he, ?_⟩
    obtain ⟨h4,h5,h6⟩:=z9o hs0 ha h2 h3 hf.evo hf.sim
    exact Fin.trans he0 hl0 ⟨h4,h5,h6 _ _ hf.rep⟩
   ·cases h
 ·cases h
end
section
variable {P : Program} {X M : Nat → Prop} {w : World} {H : List Ob} {ρ : Pl}
theorem zrl (kd:TypeDesc) (k:Value):∀ (L:List MapEntry) (i:Nat),
  match zkh kd k (L.map (·.key)) i with
  | none=>Instr.findNow kd k L i=none
  | some none=>Instr.findNow kd k L i=some none
  | some (some j)=>∃ q e,j=i+q∧L[q]?=some e∧Instr.findNow kd k L i=some (some (j,e.val))
 | [],i=>by simp [zkh,Instr.findNow]
 | e :: L,i=>by
  simp only [List.map_cons,zkh,Instr.findNow]
  cases hsn:Instr.sameNow kd k e.key with
  | none=>simp
  | some b =>
   cases b with
   | true=>exact ⟨0,e,rfl,rfl,rfl⟩
   | false =>
    have:=zrl kd k L (i+1)
    split at this
    ·rename_i h1;rw [h1];exact this
    ·rename_i h1;rw [h1];exact this
    ·rename_i j h1
     obtain ⟨q,e',rfl,h2,h3⟩:=this
     rw [h1]
     exact ⟨q+1,e',by omega,by simpa using h2,h3⟩
theorem zqq {kt:TypeId}{k:Value} (w:World):∀ (L:List MapEntry) (i:Nat) (r:Option Nat),zm6 P kt k (L.map (·.key)) i=some r →
  match r with
  | none=>(Instr.findAsking kt k L i).run P w=.ok none w
  | some j=>∃ q e,j=i+q∧L[q]?=some e∧(Instr.findAsking kt k L i).run P w=.ok (some (j,e.val)) w
 | [],i,r,h=>by
  simp only [List.map_nil,zm6,Option.some.injEq] at h
  subst h
  simp [Instr.findAsking]
 | e :: L,i,r,h=>by
  simp only [List.map_cons,zm6,Option.bind_eq_some_iff] at h
  obtain ⟨b,h1,h⟩:=h
  have h2:=zbp w h1
  cases b with
  | true =>
   simp only [if_true,Option.some.injEq] at h
   subst h
   exact ⟨0,e,rfl,rfl,by simp [Instr.findAsking,h2]⟩
  | false =>
   simp only [Bool.false_eq_true,if_false] at h
   have h3:=zqq w L (i+1) r h
   cases r with
   | none=>simpa [Instr.findAsking,h2] using h3
   | some j =>
    obtain ⟨q,e',rfl,h4,h5⟩:=h3
    exact ⟨q+1,e',by omega,by simpa using h4,by simpa [Instr.findAsking,h2] using h5⟩
theorem zvs {kt:TypeId}{k:Value}{L:List MapEntry}{r:Option Nat} (h:findD P kt k (L.map (·.key))=some r) (w:World) :
  match r with
  | none=>(Instr.findKey kt k L).run P w=.ok none w
  | some j=>∃ e,L[j]?=some e∧(Instr.findKey kt k L).run P w=.ok (some (j,e.val)) w:=by
 unfold findD at h
 simp only [Option.bind_eq_some_iff] at h
 obtain ⟨kd,hk,h⟩:=h
 have h1:=zrl kd k L 0
 split at h
 ·rename_i r' hr
  simp only [Option.some.injEq] at h
  subst h
  rw [hr] at h1
  cases r' with
  | none=>simp only [] at h1;simp [Instr.findKey,zb6 hk,h1]
  | some j =>
   obtain ⟨q,e,rfl,h2,h3⟩:=h1
   exact ⟨e,by simpa using h2,by simp [Instr.findKey,zb6 hk,h3]⟩
 ·rename_i hr
  rw [hr] at h1
  simp only [] at h1
  have h2:=zqq w L 0 r h
  cases r with
  | none=>simpa [Instr.findKey,zb6 hk,h1] using h2
  | some j =>
   obtain ⟨q,e,rfl,h3,h4⟩:=h2
   exact ⟨e,by simpa using h3,by simpa [Instr.findKey,zb6 hk,h1] using h4⟩
theorem EntsD.keys {E:Array MapEntry}{es:List (Value×Dv)} (h:EntsD w M H ρ E es):E.toList.map (·.key)=es.map (·.1):=by
 apply List.ext_getElem
 ·simp [h.1]
 ·intro i h1 h2
  simp only [List.length_map,Array.length_toList] at h1 h2
  simpa using (h.2 i h2 h1).1
theorem EntsD.get {E:Array MapEntry}{es:List (Value×Dv)} (h:EntsD w M H ρ E es) {j:Nat}{x:MapEntry}{e:Value×Dv} (hx:E.toList[j]?=some x) (he:es[j]?=some e):x.key=e.1∧RepD w M H ρ x.val e.2:=by
 obtain ⟨h1,h2⟩:=List.getElem?_eq_some_iff.1 he
 obtain ⟨h3,h4⟩:=List.getElem?_eq_some_iff.1 hx
 have:=h.2 j h1 (by simpa using h3)
 rw [← h2,← h4]
 simpa using this
theorem mp_at {v:Value}{id:Nat} (h:RepD w M H ρ v (.mp id)):∃ b,v=.map (some b)∧id<H.length∧(Alive H id→ρ id=some (b,0)):=by
 cases h with
 | mp _ b hid ha=>exact ⟨b,rfl,hid,ha⟩
theorem zh8 {r:Nat}{E:Array MapEntry}{c:Nat} (h:w.heap[r]?=some (.map E c)):(getObj r).run P w=.ok (.map E c) w:=by
 simp [getObj,Sem.run,h]
theorem z4j [Gl] (hs:Sim X w H ρ) {xv:Value}{x:Dv} (hx:RepD w (Mut X H ρ) H ρ xv x) {es:List (Value×Dv)} (hes:entsD H x=some es) :
  ∃ E,EntsD w (Mut X H ρ) H ρ E es∧((xv=.map none∧E=#[])∨∃ b c,xv=.map (some b)∧w.heap[b]?=some (.map E c)):=by
 unfold entsD at hes
 split at hes
 ·simp only [Option.some.injEq] at hes
  subst hes
  have:=hx.toP.v_eq
  subst this
  exact ⟨#[],⟨rfl,fun j hj=>absurd hj (by simp)⟩,.inl ⟨rfl,rfl⟩⟩
 ·rename_i id
  obtain ⟨b,rfl,hid,ha⟩:=mp_at hx
  split at hes
  ·rename_i es' hid'
   simp only [Option.some.injEq] at hes
   subst hes
   obtain ⟨b',E,c,e,_,hC,hcs⟩:=hs.obs _ _ hid'
   rw [ha ⟨_,hid',rfl⟩] at e
   simp only [Option.some.injEq,Prod.mk.injEq,and_true] at e
   subst e
   exact ⟨E,hcs,.inr ⟨b,c,rfl,hC⟩⟩
  ·rename_i es' hid'
   simp only [Option.some.injEq] at hes
   subst hes
   obtain ⟨b',E,c,e,_,hC,hcs⟩:=hs.obs _ _ hid'
   rw [ha ⟨_,hid',rfl⟩] at e
   simp only [Option.some.injEq,Prod.mk.injEq,and_true] at e
   subst e
   exact ⟨E,hcs,.inr ⟨b,c,rfl,hC⟩⟩
  ·cases hes
 ·cases hes
theorem z3p [Gl] (hs:Sim X w H ρ) {t:TypeId}{xv iv:Value}{x ix d:Dv}{ok:Bool} (hx:RepD w (Mut X H ρ) H ρ xv x) (hi:RepD w (Mut X H ρ) H ρ iv ix) (h:zia P H t x ix ok=some d) :
  ∃ v,(Instr.lookup t xv iv ok).run P w=.ok v w∧RepD w (Mut X H ρ) H ρ v d:=by
 unfold zia at h
 split at h
 ·rename_i kt et hu
  simp only [Option.bind_eq_some_iff] at h
  obtain ⟨es,hes,k,hk,_,hkey,r,hr,h⟩:=h
  have ek:=zha hi hk
  subst ek
  have hE:=z4j hs hx hes
  obtain ⟨E,hcs,hrun⟩:=hE
  have hemp:E.isEmpty=es.isEmpty:=by
   cases es with
   | nil=>have:=hcs.1;simp at this;simp [this]
   | cons a l=>have:=hcs.1;simp only [List.length_cons] at this;rw [List.isEmpty_cons];cases h0:E.isEmpty with
    | false=>rfl
    | true=>simp at h0;rw [h0] at this;simp at this
  have hkey':=zbp w (show zaq P (Instr.checkKey E.isEmpty 10000 kt iv)=some () by rw [hemp];exact hkey)
  rw [← hcs.keys] at hr
  have hf:=zvs hr w
  cases r with
  | none =>
   simp only [Option.map_eq_some_iff] at h
   obtain ⟨z,hz,rfl⟩:=h
   simp only [] at hf
   obtain ⟨zv,hz1,rfl⟩:=zte hz w
   have hzr:RepP w (Mut X H ρ) zv (ofVal zv):=zs4 zv
   refine ⟨if ok then .tuple #[zv,.bool false] else zv, ?_, ?_⟩
   ·rcases hrun with ⟨rfl,rfl⟩ | ⟨b,c,rfl,hC⟩
    ·have hf':=hf;simp only [Array.toList_empty] at hf';simp at hkey';simp [Instr.lookup,zb6 hu,hkey',hf',hz1]
    ·simp [Instr.lookup,zb6 hu,zh8 hC,hkey',hf,hz1]
   ·cases ok with
    | true =>
     refine .p _ _ (.tup _ _ rfl fun j hj=>?_)
     rcases (show j=0∨j=1 by simp only [List.length_cons,List.length_nil] at hj;omega) with rfl | rfl
     ·exact hzr
     ·exact .v _
    | false=>exact .p _ _ hzr
  | some i =>
   simp only [Option.map_eq_some_iff] at h
   obtain ⟨e,he,rfl⟩:=h
   obtain ⟨xe,hxe,hf⟩:=hf
   have hval:=(hcs.get hxe he).2
   refine ⟨if ok then .tuple #[xe.val,.bool true] else xe.val, ?_, ?_⟩
   ·rcases hrun with ⟨rfl,rfl⟩ | ⟨b,c,rfl,hC⟩
    ·have hf':=hf;simp only [Array.toList_empty] at hf';simp at hkey';simp [Instr.lookup,zb6 hu,hkey',hf']
    ·simp [Instr.lookup,zb6 hu,zh8 hC,hkey',hf]
   ·cases ok with
    | true =>
     refine RepD.mkTup ⟨rfl,fun j hj=>?_⟩
     rcases (show j=0∨j=1 by simp only [List.length_cons,List.length_nil] at hj;omega) with rfl | rfl
     ·exact hval
     ·exact .p _ _ (.v _)
    | false=>exact hval
 ·cases h
end
section
variable {P : Program} {X M : Nat → Prop} {w : World} {H : List Ob} {ρ : Pl}
theorem zsq [Gl] (hs:Sim X w H ρ) {id b c c':Nat}{E E':Array MapEntry}{es es':List (Value×Dv)} (hid:H[id]?=some (.mp es)) (hb:ρ id=some (b,0)) (hx:¬ X b) (hE:w.heap[b]?=some (.map E c))
  (hn:EntsD w (Mut X H ρ) H ρ E' es') :
  Evo H.length w H ρ { w with heap:=w.heap.setIfInBounds b (.map E' c') } (H.set id (.mp es')) ρ∧Sim X { w with heap:=w.heap.setIfInBounds b (.map E' c') } (H.set id (.mp es')) ρ:=by
 have hlt:=(Array.getElem?_eq_some_iff.1 hE).1
 have hother:∀ b',b'≠b→(w.heap.setIfInBounds b (.map E' c'))[b']?=w.heap[b']?:=fun b' h=>by rw [Array.getElem?_setIfInBounds];simp [Ne.symm h]
 have h5:∀ b',¬ (∃ x bs,H[id]?=some x∧x.live=true∧ρ id=some (b',bs))→(w.heap.setIfInBounds b (.map E' c'))[b']?=w.heap[b']? :=
  fun b' h=>hother b' (fun e=>h ⟨_,0,hid,rfl,by rw [e];exact hb⟩)
 have h6:∀ b' C,Blk w b' C→∃ C',Blk { w with heap:=w.heap.setIfInBounds b (.map E' c') } b' C'∧C'.size=C.size:=by
  rintro b' C ⟨T,fr,e⟩
  refine ⟨C,⟨T,fr, ?_⟩,rfl⟩
  show (w.heap.setIfInBounds b (.map E' c'))[b']?=_
  rw [hother b' (fun h=>by subst h;rw [hE] at e;cases e)]
  exact e
 have he:Evo H.length w H ρ { w with heap:=w.heap.setIfInBounds b (.map E' c') } (H.set id (.mp es')) ρ:=Evo.setOb rfl rfl rfl (by simp) h5 h6 (fun _=>⟨_,hid,rfl⟩) (fun _=>⟨_,hid,rfl⟩)
 refine ⟨he,hs.setOb rfl rfl rfl (by simp) h5 h6 (fun _=>⟨_,hid,rfl⟩) (fun _=>⟨_,hid,rfl⟩) (fun _=>?_)⟩
 exact ⟨b,E',c',hb,hx,by show (w.heap.setIfInBounds b (.map E' c'))[b]?=_;simp [hlt],hn.evo he⟩
theorem zlv {r:Nat}{E:Array MapEntry}{c:Nat}{o:Obj} (h:w.heap[r]?=some (.map E c)):(setObj r o).run P w=.ok () { w with heap:=w.heap.setIfInBounds r o }:=by
 simp [setObj,Sem.run,h]
theorem zty [Gl] (hs:Sim X w H ρ) {t:TypeId}{mv iv xv:Value}{m ix x:Dv} (hm:RepD w (Mut X H ρ) H ρ mv m) (hi:RepD w (Mut X H ρ) H ρ iv ix) (hx:RepD w (Mut X H ρ) H ρ xv x) {H':List Ob} (h:zfa P H t m ix x=some H') :
  ∃ w',(Instr.mapUpdate t mv iv xv).run P w=.ok () w'∧Evo H.length w H ρ w' H' ρ∧Sim X w' H' ρ:=by
 unfold zfa at h
 split at h
 ·rename_i kt et id hu
  split at h
  ·rename_i es hid
   simp only [Option.bind_eq_some_iff] at h
   obtain ⟨k,hk,_,hkey,r,hr,h⟩:=h
   have ek:=zha hi hk
   subst ek
   obtain ⟨b,rfl,hlt,ha⟩:=mp_at hm
   obtain ⟨b',E,c,e,hnx,hC,hcs⟩:=hs.obs _ _ hid
   have hb:=ha ⟨_,hid,rfl⟩
   rw [hb] at e
   simp only [Option.some.injEq,Prod.mk.injEq,and_true] at e
   subst e
   have hkey':=zbp w hkey
   rw [← hcs.keys] at hr
   have hf:=zvs hr w
   cases r with
   | none =>
    simp only [Option.some.injEq] at h
    subst h
    simp only [] at hf
    refine ⟨_, ?_,zsq hs (c':=c+1) (E':=E.push { key:=iv,val:=xv,born:=c }) hid hb hnx hC ⟨by simp [hcs.1],fun j hj hj'=>?_⟩⟩
    ·simp [Instr.mapUpdate,zb6 hu,zh8 hC,hkey',hf,zlv hC]
    ·by_cases hjl:j<es.length
     ·have hjE:j<E.size:=by rw [hcs.1];exact hjl
      have:=hcs.2 j hjl hjE
      rw [Array.getElem_push_lt hjE,List.getElem_append_left hjl]
      exact this
     ·have hj2:j=es.length:=by simp only [List.length_append,List.length_cons,List.length_nil] at hj;omega
      subst hj2
      have e1:(E.push { key:=iv,val:=xv,born:=c })[es.length]={ key:=iv,val:=xv,born:=c }:=by
       simp [Array.getElem_push,hcs.1]
      rw [e1]
      simp only [List.getElem_concat_length]
      exact ⟨trivial,hx⟩
   | some i =>
    simp only [Option.bind_eq_some_iff] at h
    obtain ⟨ee,hee,h⟩:=h
    split at h
    ·rename_i hsame
     simp only [Option.some.injEq] at h
     subst h
     obtain ⟨xe,hxe,hf⟩:=hf
     have hke:=(hcs.get hxe hee).1
     obtain ⟨hi1,hi2⟩:=List.getElem?_eq_some_iff.1 hee
     have hiE:i<E.size:=by rw [hcs.1];exact hi1
     have hxe':E[i]?=some xe:=by simpa using hxe
     have hstay:(Instr.keyThatStays xe.key iv).run P w=.ok iv w:=by
      simp [Instr.keyThatStays,hke,hsame]
     refine ⟨_, ?_,zsq hs (c':=c) (E':=E.modify i fun e=>{ e with key:=iv,val:=xv }) hid hb hnx hC ⟨by simp [hcs.1],fun j hj hj'=>?_⟩⟩
     ·simp [Instr.mapUpdate,zb6 hu,zh8 hC,hkey',hf,hxe',hstay,zlv hC]
     ·have hjl:j<es.length:=by simpa using hj
      have hjE:j<E.size:=by rw [hcs.1];exact hjl
      have:=hcs.2 j hjl hjE
      rw [Array.getElem_modify,List.getElem_set]
      by_cases hij:i=j
      ·simp only [hij,if_true];exact ⟨trivial,hx⟩
      ·simp only [hij,if_false];exact this
    ·cases h
  ·cases h
 ·cases h
theorem z4t [Gl] (hs:Sim X w H ρ) {ts:Array TypeId}{ty:TypeId}{mv iv:Value}{m ix d:Dv} (hm:RepD w (Mut X H ρ) H ρ mv m) (hi:RepD w (Mut X H ρ) H ρ iv ix) {H':List Ob} (h:zss P H ts m ix=some (d,H')) :
  ∃ v w' ρ',(Builtin.delete_ ts ty #[mv,iv]).run P w=.ok v w'∧Fin X w H ρ w' H' ρ' v d:=by
 have htup:∀ {w':World}{H':List Ob},RepD w' (Mut X H' ρ) H' ρ (.tuple #[]) (.p (.tup [])):=.p _ _ (.tup _ _ rfl fun j hj=>absurd hj (by simp))
 unfold zss at h
 split at h
 ·rename_i kt et id hu
  simp only [Option.bind_eq_some_iff] at hu
  obtain ⟨t,ht,hu⟩:=hu
  split at h
  ·rename_i es hid
   simp only [Option.bind_eq_some_iff] at h
   obtain ⟨k,hk,_,hkey,r,hr,h⟩:=h
   have ek:=zha hi hk
   subst ek
   obtain ⟨b,rfl,hlt,ha⟩:=mp_at hm
   obtain ⟨b',E,c,e,hnx,hC,hcs⟩:=hs.obs _ _ hid
   have hb:=ha ⟨_,hid,rfl⟩
   rw [hb] at e
   simp only [Option.some.injEq,Prod.mk.injEq,and_true] at e
   subst e
   have hemp:E.isEmpty=es.isEmpty:=by
    cases es with
    | nil=>have:=hcs.1;simp at this;simp [this]
    | cons a l=>have:=hcs.1;simp only [List.length_cons] at this;rw [List.isEmpty_cons];cases h0:E.isEmpty with
     | false=>rfl
     | true=>simp at h0;rw [h0] at this;simp at this
   have hkey':=zbp w (show zaq P (Instr.checkKey E.isEmpty 10000 kt iv)=some () by rw [hemp];exact hkey)
   rw [← hcs.keys] at hr
   have hf:=zvs hr w
   cases r with
   | none =>
    simp only [Option.some.injEq,Prod.mk.injEq] at h
    obtain ⟨rfl,rfl⟩:=h
    simp only [] at hf
    have hH:H.set id (.mp es)=H:=by
     have e:=(List.getElem?_eq_some_iff.1 hid)
     obtain ⟨h1,h2⟩:=e
     rw [← h2];exact List.set_getElem_self h1
    have hp:=zsq hs (c':=c) (E':=E) hid hb hnx hC hcs
    rw [hH] at hp
    refine ⟨_,_,ρ, ?_,hp.1,hp.2,htup⟩
    simp [Builtin.delete_,ht,zb6 hu,zh8 hC,hkey',hf,zlv hC]
   | some i =>
    simp only [Option.some.injEq,Prod.mk.injEq] at h
    obtain ⟨rfl,rfl⟩:=h
    obtain ⟨xe,hxe,hf⟩:=hf
    have hiE:i<E.size:=by simpa using (List.getElem?_eq_some_iff.1 hxe).1
    have hil:i<es.length:=by rw [← hcs.1];exact hiE
    have hp:=zsq hs (c':=c) (E':=E.eraseIdxIfInBounds i) (es':=es.eraseIdx i) hid hb hnx hC (by
     have e1:(E.eraseIdxIfInBounds i).toList=E.toList.eraseIdx i:=by simp [Array.eraseIdxIfInBounds,hiE]
     refine ⟨?_,fun j hj hj'=>?_⟩
     ·have:=congrArg List.length e1
      simp only [Array.length_toList] at this
      rw [this,List.length_eraseIdx,List.length_eraseIdx]
      simp [hcs.1]
     ·have e2:(E.eraseIdxIfInBounds i)[j]=(E.toList.eraseIdx i)[j]'(by rw [← e1,Array.length_toList];exact hj'):=by
       simp only [← e1,Array.getElem_toList]
      rw [e2,List.getElem_eraseIdx,List.getElem_eraseIdx]
      have hj2:j<(es.eraseIdx i).length:=hj
      rw [List.length_eraseIdx] at hj2
      simp only [hil,if_true] at hj2
      split
      ·have:=hcs.2 j (by omega) (by rw [hcs.1];omega);simpa using this
      ·have:=hcs.2 (j+1) (by omega) (by rw [hcs.1];omega);simpa using this)
    refine ⟨_,_,ρ, ?_,hp.1,hp.2,htup⟩
    simp [Builtin.delete_,ht,zb6 hu,zh8 hC,hkey',hf,zlv hC]
  ·cases h
 ·cases h
theorem z4p [Gl] (hs:Sim X w H ρ) {ts:Array TypeId}{ty:TypeId}{xv:Value}{x d:Dv} (hx:RepD w (Mut X H ρ) H ρ xv x) (h:zwm P H ts x=some d) :
  ∃ v,(Builtin.len_ ts ty #[xv]).run P w=.ok v w∧RepD w (Mut X H ρ) H ρ v d:=by
 unfold zwm at h
 split at h
 ·rename_i kt et hu
  simp only [Option.bind_eq_some_iff] at hu
  obtain ⟨t,ht,hu⟩:=hu
  simp only [Option.map_eq_some_iff] at h
  obtain ⟨es,hes,rfl⟩:=h
  obtain ⟨E,hcs,hrun⟩:=z4j hs hx hes
  refine ⟨goInt es.length, ?_,.p _ _ (.v _)⟩
  rcases hrun with ⟨rfl,rfl⟩ | ⟨b,c,rfl,hC⟩
  ·have:=hcs.1
   simp only [List.size_toArray,List.length_nil] at this
   rw [← this]
   simp [Builtin.len_,ht,zb6 hu]
  ·simp [Builtin.len_,ht,zb6 hu,zh8 hC,hcs.1]
 ·cases h
theorem zy5 [Gl] (hs:Sim X w H ρ) (t:TypeId) :
  ∃ v w' ρ',(Instr.makeMap t none).run P w=.ok v w'∧Fin X w H ρ w' (H++[.mp []]) ρ' v (.mp H.length):=by
 have he:Evo H.length w H ρ { w with heap:=w.heap.push (.map #[] 0) } (H++[.mp []]) (updPl ρ H.length (some (w.heap.size,0))) :=
  Evo.addOb rfl rfl rfl (by simp) (fun b hb=>zjx w _ b hb) (fun b bs e _=>by simp at e;omega)
 refine ⟨.map (some w.heap.size),_,_, ?_,he,hs.addOb rfl rfl rfl (by simp) (fun b hb=>zjx w _ b hb) (fun b bs e _=>by simp at e;omega) ?_, ?_⟩
 ·simp [Instr.makeMap,newObj,Sem.run]
 ·exact ⟨w.heap.size,#[],0,zdm ..,fun hx=>by have:=hs.xlt _ hx;omega,zke w _,rfl,fun j hj=>absurd hj (by simp)⟩
 ·exact .mp _ _ (by simp) (fun _=>zdm ..)
end
end Go.Ev

