/- A part of the proof: E0. No conditions of its own. -/
import Derived.Orders
import Derived.Tactics
import Derived.RowKit3
import Derived.Laws.Cells
import Derived.Laws.CopyRow
set_option linter.unusedVariables false
set_option linter.unusedSimpArgs false
namespace Go.Ev
def lenGe {α:Type}:Nat→List α→Bool
 | 0,_=>true
 | _+1,[]=>false
 | k+1,_ :: l=>lenGe k l
theorem zts {α:Type}:∀ {k:Nat}{l:List α},lenGe k l=true↔k≤l.length
 | 0,l=>by simp [lenGe]
 | k+1,[]=>by simp [lenGe]
 | k+1,a :: l=>by simp only [lenGe,List.length_cons,Nat.add_le_add_iff_right];exact zts
instance (priority := high) instLenGe {α : Type} (k : Nat) (l : List α) : Decidable (k ≤ l.length) := decidable_of_iff _ zts
inductive Pv where
 | v (x:Value)
 | lst (full:Bool) (n:Nat) (cells:List Pv)
 | agg (cs:List Pv)
 | tup (cs:List Pv)
 | iptr (cells:List Pv) (off:Nat)
 | fn (f:Fn) (caps:List Pv)
 deriving Inhabited
inductive Dv where
 | junk
 | p (x:Pv)
 | ref (id off len esz:Nat)
 | ptr (id off:Nat)
 | agg (cs:List Dv)
 | tup (cs:List Dv)
 | fn (f:Fn) (caps:List Dv)
 | mp (id:Nat)
 | ifc (t:TypeId) (d:Dv)
 deriving Inhabited
class Gl where
 glob:Nat→Option (List Pv)
 isMap:TypeId→Bool
inductive Ob where
 | dead
 | var (cs:List Dv)
 | arr (cs:List Pv)
 | frz (cs:List Pv)
 | ro (cs:List Dv)
 | roa (cs:List Pv)
 | mp (es:List (Value×Dv))
 | rmp (es:List (Value×Dv))
 deriving Inhabited
inductive Ghost where
 | keep (l:List Nat)
 | own (t esz:Nat)
 | freeze (t:Nat)
 | kill (l:List Nat)
 | weak (l:List Nat)
 | ownC (t off esz:Nat)
 | trim (t:Nat)
 | vary (t:Nat)
 | pack (t:Nat)
 | packV (t:Nat)
inductive ExtK where
 | pure (e:Array Value→Sem Value)
 | swap
 | swapper (l:List (TypeId×Nat×Nat×Nat×TypeId))
 | valueOf
 | valLen
structure Ann where
 keeps:Nat→Bool
 muts:Nat→Bool
 ros:Nat→Bool
 loud:Nat→Nat→Bool
 okf:Nat→Bool
 pre:Nat→Nat→List Ghost
 clone:Nat→Option Nat:=fun _=>none
 dyn:Nat→Nat→Option (List (Nat×Nat)):=fun _ _=>none
 outer:Nat→Option ExtK:=fun _=>none
 lp:Nat→Nat→Option (List (Nat×Nat)):=fun _ _=>none
 full:Nat→Bool:=fun _=>false
structure St where
 tmps:List Dv
 heap:List Ob
 nin:Nat
 deriving Inhabited
def zaq (P:Program) {α:Type}:Sem α→Option α
 | .pure a=>some a
 | .program k=>zaq P (k P)
 | .mark _ k=>zaq P k
 | _=>none
def zyv:Value→Pv
 | .slice none 0 0=>.lst true 0 []
 | x=>.v x
def ofVal:Value→Pv
 | .agg cs=>if cs.toList.all (·.oneCell') then .agg (cs.toList.map zyv) else .v (.agg cs)
 | x=>zyv x
def concs:List Pv→Option (List Value)
 | []=>some []
 | .v x :: cs=>(concs cs).map (x :: ·)
 | _ :: _=>none
def conc:Pv→Option Value
 | .v x=>some x
 | .agg cs=>(concs cs).map fun l=>.agg l.toArray
 | _=>none
def concD:Dv→Option Value
 | .p x=>conc x
 | _=>none
def allP:List Dv→Option (List Pv)
 | []=>some []
 | .p x :: ds=>(allP ds).map (x :: ·)
 | _ :: _=>none
def mkAgg (ds:List Dv):Dv:=match allP ds with | some cs=>.p (.agg cs) | none=>.agg ds
def mkTup (ds:List Dv):Dv:=match allP ds with | some cs=>.p (.tup cs) | none=>.tup ds
def mkFn (f:Fn) (ds:List Dv):Dv:=match allP ds with | some cs=>.p (.fn f cs) | none=>.fn f ds
def cellsD:Dv→Option (List Dv)
 | .p (.agg cs)=>some (cs.map .p)
 | .p (.tup _)=>none
 | .p (.v (.agg _))=>none
 | .p (.v (.tuple _))=>none
 | .p x=>some [.p x]
 | .agg ds=>some ds
 | .tup _=>none
 | .junk=>none
 | d=>some [d]
def setAt {α:Type}:List α→Nat→List α→List α
 | cs,_,[]=>cs
 | cs,off,d :: ds=>setAt (cs.set off d) (off+1) ds
def szOf (P:Program) (t:TypeId):Option Nat:=(P.info? t).map (·.size)
def bytesOf (P:Program) (t:TypeId):Option Nat:=(P.info? t).map (·.bytes)
def aggT (P:Program) (t:TypeId):Option Bool :=
 match P.underlying t with
 | some (.struct _)=>some true
 | some (.array _ _)=>some true
 | some _=>some false
 | none=>none
def zeroP (P:Program) (t:TypeId):Option Pv:=((P.info? t).bind (·.zero)).map ofVal
def cellsP:Pv→Option (List Pv)
 | .agg cs=>some cs
 | .tup _=>none
 | .v (.agg _)=>none
 | .v (.tuple _)=>none
 | x=>some [x]
def zey (P:Program) (t:TypeId):Option (List Pv):=(zeroP P t).bind cellsP
def repl {α:Type}:Nat→List α→List α
 | 0,_=>[]
 | n+1,z=>z++repl n z
mutual
def wk:Pv→Pv
 | .v x=>.v x
 | .lst _ n cells=>.lst false n (wks cells)
 | .agg cs=>.agg (wks cs)
 | .tup cs=>.tup (wks cs)
 | .iptr cells off=>.iptr (wks cells) off
 | .fn f caps=>.fn f (wks caps)
def wks:List Pv→List Pv
 | []=>[]
 | x :: xs=>wk x :: wks xs
end
def wkN:Pv→Pv
 | .lst true 0 []=>.lst true 0 []
 | x=>wk x
def wkE (P:Program) (e:TypeId) (cs:List Pv):List Pv:=match P.underlying e with | some (.slice _)=>cs.map wkN | _=>wks cs
def Ob.cell?:Ob→Nat→Option Dv
 | .var cs,j=>cs[j]?
 | .ro cs,j=>cs[j]?
 | .arr cs,j=>(cs[j]?).map .p
 | .frz cs,j=>(cs[j]?).map .p
 | .roa cs,j=>(cs[j]?).map .p
 | _,_=>none
def Ob.cells?:Ob→Nat→Nat→Option Dv
 | .var cs,off,n=>if off+n≤cs.length then some (mkAgg ((cs.drop off).take n)) else none
 | .ro cs,off,n=>if off+n≤cs.length then some (mkAgg ((cs.drop off).take n)) else none
 | .arr cs,off,n=>if off+n≤cs.length then some (.p (.agg ((cs.drop off).take n))) else none
 | .frz cs,off,n=>if off+n≤cs.length then some (.p (.agg ((cs.drop off).take n))) else none
 | .roa cs,off,n=>if off+n≤cs.length then some (.p (.agg ((cs.drop off).take n))) else none
 | _,_,_=>none
def Ob.size:Ob→Nat
 | .var cs=>cs.length
 | .ro cs=>cs.length
 | .arr cs=>cs.length
 | .frz cs=>cs.length
 | .roa cs=>cs.length
 | _=>0
def fitB (H:List Ob) (id k:Nat):Bool:=match H[id]? with | some o=>decide (k≤o.size) | none=>false
def loadD (P:Program) (H:List Ob) (t:TypeId) (a:Dv):Option Dv :=
 match aggT P t with
 | none=>none
 | some ag =>
  match a with
  | .ptr id off =>
   match H[id]? with
   | none=>none
   | some o=>if ag then (szOf P t).bind fun n=>o.cells? off n else o.cell? off
  | .p (.iptr cells off) =>
   if ag then (szOf P t).bind fun n=>if off+n≤cells.length then some (.p (.agg ((cells.drop off).take n))) else none
   else (cells[off]?).map .p
  | _=>none
def zpp (H:List Ob) (id off len esz:Nat):Option (List Pv) :=
 match H[id]? with
 | some (.arr cs)=>if off+len*esz≤cs.length then some ((cs.drop off).take (len*esz)) else none
 | some (.frz cs)=>if off+len*esz≤cs.length then some ((cs.drop off).take (len*esz)) else none
 | some (.roa cs)=>if off+len*esz≤cs.length then some ((cs.drop off).take (len*esz)) else none
 | some (.var cs)=>if off+len*esz≤cs.length then allP ((cs.drop off).take (len*esz)) else none
 | some (.ro cs)=>if off+len*esz≤cs.length then allP ((cs.drop off).take (len*esz)) else none
 | _=>none
def zk2 (H:List Ob):Dv→Option (Pv×List Nat)
 | .p x=>some (x,[])
 | .ref id off len esz =>
  match H[id]? with
  | some (.arr cs)=>if off+len*esz≤cs.length then some (.lst false len ((cs.drop off).take (len*esz)),[id]) else none
  | some (.frz cs)=>if off+len*esz≤cs.length then some (.lst false len ((cs.drop off).take (len*esz)),[]) else none
  | _=>none
 | .ptr id off =>
  match H[id]? with
  | some (.arr cs)=>if cs.isEmpty then none else some (.iptr cs off,[id])
  | some (.frz cs)=>if cs.isEmpty then none else some (.iptr cs off,[])
  | some (.var ds)=>if ds.isEmpty then none else (allP ds).map fun cs=>(.iptr cs off,[id])
  | _=>none
 | _=>none
def zfh (H:List Ob):List Dv→Option (List Pv×List Nat)
 | []=>some ([],[])
 | d :: ds =>
  match zk2 H d,zfh H ds with
  | some (x,l),some (xs,m)=>some (x :: xs,l++m)
  | _,_=>none
def z2p (H:List Ob):Dv→Option (Pv×List Nat)
 | .agg es=>(zfh H es).map fun (xs,l)=>(Pv.agg xs,l)
 | d=>zk2 H d
def zo2 (H:List Ob):List Dv→Option (List Pv×List Nat)
 | []=>some ([],[])
 | d :: ds =>
  match z2p H d,zo2 H ds with
  | some (x,l),some (xs,m)=>some (x :: xs,l++m)
  | _,_=>none
def zk9 (H:List Ob):Dv→Option (Pv×List Nat)
 | .agg ds=>(zfh H ds).map fun (xs,l)=>(.agg xs,l)
 | .tup ds=>(zo2 H ds).map fun (xs,l)=>(.tup xs,l)
 | .fn f ds=>(zfh H ds).map fun (xs,l)=>(.fn f xs,l)
 | d=>zk2 H d
def frzOb:Ob→Ob
 | .arr cs=>.frz cs
 | .var ds=>match allP ds with | some cs=>.frz cs | none=>.dead
 | o=>o
def frzAt (H:List Ob) (i:Nat):List Ob:=match H[i]? with | some o=>H.set i (frzOb o) | none=>H
def zan (H:List Ob):List Nat→List Ob
 | []=>H
 | i :: l=>zan (frzAt H i) l
def zdf (P:Program) (H:List Ob) (t:TypeId) (a d:Dv):Option (List Ob) :=
 match a,szOf P t with
 | .ptr id off,some n =>
  match H[id]?,cellsD d with
  | some (.var cs),some ds=>if ds.length=n∧off+n≤cs.length then some (H.set id (.var (setAt cs off ds))) else none
  | some (.arr cs),some ds =>
   match zfh H ds with
   | some (xs,l)=>if xs.length=n∧off+n≤cs.length∧¬ id∈l then some ((zan H l).set id (.arr (setAt cs off xs))) else none
   | none=>none
  | _,_=>none
 | _,_=>none
mutual
def za8:Dv→List Nat
 | .ref id _ _ _=>[id]
 | .ptr id _=>[id]
 | .agg ds=>zav ds
 | .tup ds=>zav ds
 | .fn _ ds=>zav ds
 | .mp id=>[id]
 | .ifc _ d=>za8 d
 | _=>[]
def zav:List Dv→List Nat
 | []=>[]
 | d :: ds=>za8 d++zav ds
end
def zfi:Ob→List Nat
 | .var ds=>zav ds
 | .ro ds=>zav ds
 | .mp es=>zav (es.map (·.2))
 | .rmp es=>zav (es.map (·.2))
 | _=>[]
mutual
def zd8 (g:Nat→Nat):Dv→Dv
 | .ref id off len esz=>.ref (g id) off len esz
 | .ptr id off=>.ptr (g id) off
 | .agg ds=>.agg (zbs g ds)
 | .tup ds=>.tup (zbs g ds)
 | .fn f ds=>.fn f (zbs g ds)
 | .mp id=>.mp (g id)
 | .ifc t d=>.ifc t (zd8 g d)
 | .p x=>.p x
 | .junk=>.junk
def zbs (g:Nat→Nat):List Dv→List Dv
 | []=>[]
 | d :: ds=>zd8 g d :: zbs g ds
end
def obMap (g:Nat→Nat):Ob→Ob
 | .var ds=>.var (zbs g ds)
 | .ro ds=>.ro (zbs g ds)
 | .mp es=>.mp (es.map fun e=>(e.1,zd8 g e.2))
 | .rmp es=>.rmp (es.map fun e=>(e.1,zd8 g e.2))
 | o=>o
def zen (H:List Ob):Nat→List Nat→List Nat→List Nat
 | 0,_,acc=>acc
 | _+1,[],acc=>acc
 | k+1,i :: todo,acc =>
  if acc.contains i then zen H k todo acc
  else zen H k (todo++(match H[i]? with | some o=>zfi o | none=>[])) (acc++[i])
def roOf:Ob→Ob
 | .var ds=>.ro ds
 | .arr cs=>.roa cs
 | .mp es=>.rmp es
 | o=>o
def intD:Dv→Option Int
 | .p (.v (.int _ n))=>some n
 | _=>none
def boolD:Dv→Option Bool
 | .p (.v (.bool b))=>some b
 | _=>none
def evalO [Gl] (s:List Dv):Operand→Dv
 | .tmp t=>s.getD t .junk
 | .const x=>.p (ofVal x)
 | .global g=>match Gl.glob g with | some cells=>.p (.iptr cells 0) | none=>.junk
 | .func f=>.p (.fn (.func f) [])
def zj3 (P:Program) (t:TypeId) (i:Nat):Option Field :=
 match P.underlying t with
 | some (.struct fs)=>fs[i]?
 | _=>none
def fillD (place:Nat→Option (Nat×Nat)) (cells:List Dv):List (Nat×Dv)→Option (List Dv)
 | []=>some cells
 | (i,d) :: rest =>
  match place i,cellsD d with
  | some (off,size),some ds=>if ds.length=size∧off+ds.length≤cells.length then fillD place (setAt cells off ds) rest else none
  | _,_=>none
def zp5 (P:Program):List Field→Option (List (Nat×Nat))
 | []=>some []
 | f :: fs=>match szOf P f.type,zp5 P fs with | some n,some l=>some ((f.offset,n) :: l) | _,_=>none
def zux (P:Program) (t:TypeId):Option (Nat→Option (Nat×Nat)) :=
 match P.underlying t with
 | some (.struct fs)=>(zp5 P fs.toList).map fun l i=>l[i]?
 | some (.array _ e)=>(szOf P e).map fun n=>fun i=>some (i*n,n)
 | _=>none
def partD (P:Program) (t:TypeId) (x:Dv) (off:Nat):Option Dv :=
 match aggT P t,szOf P t,x with
 | some true,some n,.p (.agg cs)=>if off+n≤cs.length then some (.p (.agg ((cs.drop off).take n))) else none
 | some true,some n,.agg ds=>if off+n≤ds.length then some (mkAgg ((ds.drop off).take n)) else none
 | some false,_,.p (.agg cs)=>(cs[off]?).map .p
 | some false,_,.agg ds=>ds[off]?
 | _,_,_=>none
def zhy (x:Option Dv) (dflt lim:Nat):Option Nat :=
 match x with
 | none=>some dflt
 | some d=>(intD d).bind fun i=>if 0≤i∧i≤lim then some i.toNat else none
def zt1 (P:Program) (H:List Ob) (t:TypeId) (x:Dv) (lo hi mx:Option Dv):Option Dv :=
 match P.underlying t with
 | some (.slice e) =>
  (szOf P e).bind fun sz =>
  if sz=0 then none else
  match x with
  | .p (.lst full n cells) =>
   if cells.length=n*sz then
   (zhy mx n n).bind fun m=>(zhy hi n m).bind fun h=>(zhy lo 0 h).bind fun l =>
    some (.p (.lst (mx.isSome && decide (h=m) || full && decide (h=n)) (h - l) ((cells.drop (l*sz)).take ((h - l)*sz))))
   else none
  | .ref id off len esz =>
   if mx.isSome || esz≠sz then none else
   (zhy hi len len).bind fun h=>(zhy lo 0 h).bind fun l=>some (.ref id (off+l*sz) (h - l) esz)
  | _=>none
 | some (.array n e) =>
  (szOf P e).bind fun sz =>
  if mx.isSome || sz=0 then none else
  match x with
  | .ptr id off =>
   if fitB H id (off+n*sz) then
    (zhy hi n n).bind fun h=>(zhy lo 0 h).bind fun l=>some (.ref id (off+l*sz) (h - l) sz)
   else none
  | .p (.iptr cells off)=>(zhy hi n n).bind fun h=>(zhy lo 0 h).bind fun l=>if off+n*sz≤cells.length then some (.p (.lst false (h - l) ((cells.drop (off+l*sz)).take ((h - l)*sz)))) else none
  | _=>none
 | some .string =>
  (concD x).bind fun u =>
  match lo.map concD,hi.map concD,mx with
  | none,none,none=>(zaq P (Instr.sliceAt t u none none none)).map fun r=>.p (.v r)
  | some (some a),none,none=>(zaq P (Instr.sliceAt t u (some a) none none)).map fun r=>.p (.v r)
  | none,some (some b),none=>(zaq P (Instr.sliceAt t u none (some b) none)).map fun r=>.p (.v r)
  | some (some a),some (some b),none=>(zaq P (Instr.sliceAt t u (some a) (some b) none)).map fun r=>.p (.v r)
  | _,_,_=>none
 | _=>none
def lenD (P:Program) (t:TypeId) (x:Dv):Option Dv :=
 match P.underlying t,x with
 | some (.slice _),.p (.lst _ n _)=>some (.p (.v (goInt n)))
 | some (.slice _),.ref _ _ n _=>some (.p (.v (goInt n)))
 | some .string,.p (.v (.string s))=>some (.p (.v (goInt s.size)))
 | some (.array n _),_=>some (.p (.v (goInt n)))
 | _,_=>none
def zw9:Dv→Bool
 | .p (.lst true 0 [])=>true
 | _=>false
def binD (P:Program) (op:BinOp) (t:TypeId) (xo yo:Operand) (x y:Dv):Option Dv :=
 match concD x,concD y with
 | some a,some b=>(zaq P (do eqGuard op t xo yo a b;binOp op t a b)).map fun r=>.p (.v r)
 | _,_=>none
def nilD (P:Program) (op:BinOp) (t:TypeId) (x:Dv):Option Dv :=
 match P.underlying t with
 | some (.slice _) =>
  match op,x with
  | .eql,.p (.lst _ _ (_ :: _))=>some (.p (.v (.bool false)))
  | .neq,.p (.lst _ _ (_ :: _))=>some (.p (.v (.bool true)))
  | .eql,.p (.v (.slice a _ _))=>some (.p (.v (.bool a.isNone)))
  | .neq,.p (.v (.slice a _ _))=>some (.p (.v (.bool (!a.isNone))))
  | _,_=>none
 | _=>none
def binN (P:Program) (op:BinOp) (t:TypeId) (xo yo:Operand) (x y:Dv):Option Dv :=
 match yo with
 | .const (.slice none 0 0)=>nilD P op t x
 | _=>binD P op t xo yo x y
def ziz (P:Program) (H:List Ob) (esz:Nat):Dv→Option (Nat×List Pv)
 | .p (.lst _ n cells)=>if cells.length=n*esz then some (n,cells) else none
 | .ref id off n sz=>if sz=esz then (zpp H id off n sz).map fun cs=>(n,cs) else none
 | .p (.v (.string s))=>if esz=1 then some (s.size,s.data.toList.map fun b=>.v (.int .u8 b.toNat)) else none
 | .p (.v (.slice _ 0 _))=>some (0,[])
 | _=>none
def srcT (P:Program) (ts:Array TypeId):Bool :=
 match ts[1]? with
 | none=>true
 | some t=>match P.underlying t with | some (.int _)=>false | some _=>true | none=>false
def zer (P:Program) (H:List Ob) (ts:Array TypeId) (x y:Dv):Option (Dv×List Ob) :=
 match ts[0]?.bind P.underlying with
 | some (.slice e) =>
  (szOf P e).bind fun sz=>(bytesOf P e).bind fun by_=>(zey P e).bind fun z =>
  if sz=0∨by_=0∨z.length≠sz∨srcT P ts=false then none else
  (ziz P H sz y).bind fun (m,new) =>
  match x with
  | .p (.lst true n cells) =>
   if cells.length=n*sz∧(n+m)*by_≤140737488355328 then
    if n=0∨m≠0 then some (.ref H.length 0 (n+m) sz,H++[.arr (cells++new)]) else some (.p (.lst true n cells),H)
   else none
  | .ref id off n esz =>
   match H[id]? with
   | some (.arr cs) =>
    if esz=sz∧off+n*sz≤cs.length∧(n+m)*by_≤140737488355328 then
     some (.ref H.length 0 (n+m) sz,H.set id .dead++[.arr ((cs.drop off).take (n*sz)++new)])
    else none
   | some (.var cs) =>
    if esz=sz∧n≠0∧off+n*sz≤cs.length∧(n+m)*by_≤140737488355328 then
     some (.ref H.length 0 (n+m) sz,H.set id .dead++[.var ((cs.drop off).take (n*sz)++new.map .p)])
    else none
   | _=>none
  | _=>none
 | _=>none
def copyD (P:Program) (H:List Ob) (ts:Array TypeId) (x y:Dv):Option (Dv×List Ob) :=
 match ts[0]?.bind P.underlying with
 | some (.slice e) =>
  (szOf P e).bind fun sz =>
  if sz=0 then none else
  (ziz P H sz y).bind fun (m,new) =>
  match x with
  | .ref id off n esz =>
   match H[id]? with
   | some (.arr cs) =>
    if esz=sz∧off+n*sz≤cs.length then
     some (.p (.v (goInt (Nat.min m n))),H.set id (.arr (setAt cs off (new.take (Nat.min m n*sz)))))
    else none
   | _=>none
  | .p (.lst _ 0 _)=>some (.p (.v (goInt 0)),H)
  | _=>none
 | _=>none
def makeD (P:Program) (H:List Ob) (t:TypeId) (l c:Dv):Option (Dv×List Ob) :=
 match P.underlying t,intD l,intD c with
 | some (.slice e),some n,some k =>
  (szOf P e).bind fun sz=>(bytesOf P e).bind fun by_=>(zey P e).bind fun z =>
  if sz=0∨z.length≠sz∨by_=0 then none else
  if 0≤n∧n≤k∧by_*k≤281474976710656 then some (.ref H.length 0 n.toNat sz,H++[.arr (repl n.toNat z)]) else none
 | _,_,_=>none
def ze1:Dv:=.p (.v undef)
def concL:List Dv→Option (List Value)
 | []=>some []
 | d :: ds=>match concD d,concL ds with | some x,some xs=>some (x :: xs) | _,_=>none
abbrev CallF:=FuncId→List Dv→List Ob→Option (Dv×List Ob)
def giveD (H:List Ob):List Dv→List Dv×List Nat
 | []=>([],[])
 | .ref id off len esz :: ds =>
  match H[id]? with
  | some (.arr cs)=>if off+len*esz≤cs.length then (.p (.lst false len ((cs.drop off).take (len*esz))) :: (giveD H ds).1,id :: (giveD H ds).2) else (.ref id off len esz :: (giveD H ds).1,(giveD H ds).2)
  | some (.frz cs)=>if off+len*esz≤cs.length then (.p (.lst false len ((cs.drop off).take (len*esz))) :: (giveD H ds).1,(giveD H ds).2) else (.ref id off len esz :: (giveD H ds).1,(giveD H ds).2)
  | _=>(.ref id off len esz :: (giveD H ds).1,(giveD H ds).2)
 | .p x :: ds=>(.p (wk x) :: (giveD H ds).1,(giveD H ds).2)
 | d :: ds=>(d :: (giveD H ds).1,(giveD H ds).2)
def wkDv:Dv→Dv
 | .p (.lst true 0 [])=>.p (.lst true 0 [])
 | .p x=>.p (wk x)
 | d=>d
def wkA (A:Ann) (f:Nat) (d:Dv):Dv:=if A.full f then d else wkDv d
def zk6 (b:Bool) (H:List Ob):Option (List Ob):=if b then some H else none
def za0 (H:List Ob) (acc:List Nat):List Ob:=acc.map fun i=>obMap acc.idxOf (H.getD i .dead)
def lentD (A:Ann) (f:FuncId) (H:List Ob) (acc:List Nat):List Ob :=
 if A.muts f then za0 H acc else (za0 H acc).map roOf
def backD (n:Nat) (acc:List Nat) (j:Nat):Nat:=if j<acc.length then acc.getD j 0 else n+(j - acc.length)
def zdh (g:Nat→Nat) (H:List Ob):List Nat→List Ob→List Ob
 | i :: acc,o :: h=>zdh g (H.set i (obMap g o)) acc h
 | [],h=>H++h.map (obMap g)
 | _ :: _,[]=>H
def accOk (H:List Ob) (acc refs:List Nat):Bool :=
 decide acc.Nodup && refs.all (fun i=>acc.contains i) && acc.all fun i=>decide (i<H.length) && (zfi (H.getD i .dead)).all fun j=>acc.contains j
def isRo:Ob→Bool
 | .ro _=>true
 | .roa _=>true
 | .rmp _=>true
 | _=>false
def noRo (h:List Ob):Bool:=h.all fun o=>!isRo o
def zh0:List Ob→List Ob→Bool
 | o :: hin,o' :: h=>(!isRo o' || isRo o) && zh0 hin h
 | [],h=>noRo h
 | _ :: _,[]=>true
def callD (call:CallF) (A:Ann) (H:List Ob) (f:FuncId) (args:List Dv):Option (Dv×Option (List Ob)) :=
 let gv:=if A.muts f || A.ros f then (args.map (wkA A f),[]) else giveD H args
 let H:=zan H gv.2
 let args:=gv.1
 let acc:=zen H 64 (zav args) []
 if accOk H acc (zav args) then
  (call f (zbs acc.idxOf args) (lentD A f H acc)).bind fun (r,h) =>
  match A.muts f,acc,h,r with
  | false,_,_,.p x=>some (.p x,zk6 (!gv.2.isEmpty) H)
  | true,[],[],.p x=>some (.p x,zk6 (!gv.2.isEmpty) H)
  | m,acc,h,r =>
   if (m || acc.isEmpty) && decide (acc.length≤h.length) && zh0 (za0 H acc) h then
    some (zd8 (backD H.length acc) r,some (zdh (backD H.length acc) H acc h))
   else none
 else none
def entsD (H:List Ob):Dv→Option (List (Value×Dv))
 | .p (.v (.map none))=>some []
 | .mp id =>
  match H[id]? with
  | some (.mp es)=>some es
  | some (.rmp es)=>some es
  | _=>none
 | _=>none
def zkh (k:TypeDesc) (x:Value):List Value→Nat→Option (Option Nat)
 | [],_=>some none
 | e :: es,i =>
  match Instr.sameNow k x e with
  | some true=>some (some i)
  | some false=>zkh k x es (i+1)
  | none=>none
def zm6 (P:Program) (kt:TypeId) (x:Value):List Value→Nat→Option (Option Nat)
 | [],_=>some none
 | e :: es,i=>(zaq P (Op.equal kt x e)).bind fun b=>if b then some (some i) else zm6 P kt x es (i+1)
def findD (P:Program) (kt:TypeId) (x:Value) (ks:List Value):Option (Option Nat) :=
 (P.underlying kt).bind fun k =>
 match zkh k x ks 0 with
 | some r=>some r
 | none=>zm6 P kt x ks 0
def keyD (P:Program) (empty:Bool) (kt:TypeId) (x:Value):Option Unit:=zaq P (Instr.checkKey empty 10000 kt x)
def zia (P:Program) (H:List Ob) (t:TypeId) (x ix:Dv) (ok:Bool):Option Dv :=
 match P.underlying t with
 | some (.map kt et) =>
  (entsD H x).bind fun es=>(concD ix).bind fun k=>(keyD P es.isEmpty kt k).bind fun _ =>
  (findD P kt k (es.map (·.1))).bind fun r =>
  match r with
  | some i=>(es[i]?).map fun e=>if ok then mkTup [e.2,.p (.v (.bool true))] else e.2
  | none=>(zeroP P et).map fun z=>if ok then .p (.tup [z,.v (.bool false)]) else .p z
 | _=>none
def zfa (P:Program) (H:List Ob) (t:TypeId) (m ix x:Dv):Option (List Ob) :=
 match P.underlying t,m with
 | some (.map kt _),.mp id =>
  match H[id]? with
  | some (.mp es) =>
   (concD ix).bind fun k=>(keyD P false kt k).bind fun _=>(findD P kt k (es.map (·.1))).bind fun r =>
   match r with
   | some i=>(es[i]?).bind fun e=>if Instr.sameBits 10000 e.1 k then some (H.set id (.mp (es.set i (k,x)))) else none
   | none=>some (H.set id (.mp (es++[(k,x)])))
  | _=>none
 | _,_=>none
def zss (P:Program) (H:List Ob) (ts:Array TypeId) (m ix:Dv):Option (Dv×List Ob) :=
 match ts[0]?.bind P.underlying,m with
 | some (.map kt _),.mp id =>
  match H[id]? with
  | some (.mp es) =>
   (concD ix).bind fun k=>(keyD P es.isEmpty kt k).bind fun _=>(findD P kt k (es.map (·.1))).bind fun r =>
   match r with
   | some i=>some (.p (.tup []),H.set id (.mp (es.eraseIdx i)))
   | none=>some (.p (.tup []),H)
  | _=>none
 | _,_=>none
def zwm (P:Program) (H:List Ob) (ts:Array TypeId) (x:Dv):Option Dv :=
 match ts[0]?.bind P.underlying with
 | some (.map _ _)=>(entsD H x).map fun es=>.p (.v (goInt es.length))
 | _=>none
def zjq (P:Program) (b:Builtin) (ts:Array TypeId) (type:TypeId) (args:List Dv):Option Dv :=
 match b with
 | .len=>match args with | [x]=>if ts.size=0 then none else lenD P (ts.getD 0 0) x | _=>none
 | .max=>(concL args).bind fun vs=>(zaq P (Builtin.max_ ts type vs.toArray)).map fun r=>.p (.v r)
 | .min=>(concL args).bind fun vs=>(zaq P (Builtin.min_ ts type vs.toArray)).map fun r=>.p (.v r)
 | _=>none
def zgj [Gl] (P:Program) (H:List Ob) (b:Builtin) (ts:Array TypeId) (type:TypeId) (args:List Dv):Option (Dv×Option (List Ob)) :=
 match b with
 | .append=>match args with | [x,y]=>(zer P H ts x y).map fun (r,h)=>(r,some h) | _=>none
 | .copy=>match args with | [x,y]=>(copyD P H ts x y).map fun (r,h)=>(r,some h) | _=>none
 | .delete=>match args with | [x,y]=>(zss P H ts x y).map fun (r,h)=>(r,some h) | _=>none
 | .len=>(if Gl.isMap (ts.getD 0 0) then match args with | [x]=>zwm P H ts x | _=>none else zjq P .len ts type args).map fun r=>(r,none)
 | b=>(zjq P b ts type args).map fun r=>(r,none)
def opD [Gl] (P:Program) (A:Ann) (call:CallF) (tm:List Dv) (H:List Ob) (o:Oper):Option (Dv×Option (List Ob)) :=
 let ρ:=evalO tm
 let n1 (r:Option Dv):Option (Dv×Option (List Ob)):=r.map fun d=>(d,none)
 match o.op with
 | .move x=>some (ρ x,none)
 | .assign x=>some (ρ x,none)
 | .pick c a b=>(boolD (ρ c)).map fun t=>(if t then ρ a else ρ b,none)
 | .alloc e=>(zey P e).map fun cs=>(.ptr H.length 0,some (H++[.var (cs.map .p)]))
 | .box _ x=>(cellsD (ρ x)).map fun ds=>(.ptr H.length 0,some (H++[.var ds]))
 | .build t parts =>
  n1 ((zux P t).bind fun pl=>(zey P t).bind fun z =>
   (fillD pl (z.map .p) (parts.toList.map fun (i,x)=>(i,ρ x))).map mkAgg)
 | .buildSlice t len parts =>
  match P.underlying t with
  | some (.slice e) =>
   (szOf P e).bind fun sz=>(zey P e).bind fun z =>
   if sz=0∨z.length≠sz∨len*sz > 2 ^ 24 then none else
   (fillD (fun i=>some (i*sz,sz)) ((repl len z).map .p) (parts.toList.map fun (i,x)=>(i,ρ x))).bind fun ds =>
   (zfh H ds).map fun (cs,l)=>(.p (.lst true len (wkE P e cs)),if l.isEmpty then none else some (zan H l))
  | _=>none
 | .load t a=>n1 (loadD P H t (ρ a))
 | .store t a x=>(zdf P H t (ρ a) (ρ x)).map fun h=>(ze1,some h)
 | .nilCheck x =>
  match ρ x with
  | .ptr id off=>some (.ptr id off,none)
  | .p (.iptr cs off)=>some (.p (.iptr cs off),none)
  | .p (.fn (.func f) cs)=>some (.p (.fn (.func f) cs),none)
  | .fn (.func f) cs=>some (.fn (.func f) cs,none)
  | _=>none
 | .binOp op t x y _=>n1 (binN P op t x y (ρ x) (ρ y))
 | .unOp op _ x=>n1 ((concD (ρ x)).bind fun a=>(zaq P (Op.unary op a)).map fun r=>.p (.v r))
 | .convert src dst x=>n1 ((concD (ρ x)).bind fun a=>(zaq P (convert src dst a)).map fun r=>.p (.v r))
 | .makeFunc fn first caps=>if first.size=0 then n1 (some (mkFn fn (caps.toList.map ρ))) else none
 | .makeSlice t l c=>(makeD P H t (ρ l) (ρ c)).map fun (r,h)=>(r,some h)
 | .slice t x lo hi mx=>if mx.isSome && hi.isNone then none else n1 (zt1 P H t (ρ x) (lo.map ρ) (hi.map ρ) (mx.map ρ))
 | .fieldAddr t x i =>
  n1 ((zj3 P t i).bind fun f=>(szOf P f.type).bind fun n =>
   if n=0 then none else
   match ρ x with
   | .ptr id off=>some (.ptr id (off+f.offset))
   | .p (.iptr cs off)=>some (.p (.iptr cs (off+f.offset)))
   | _=>none)
 | .field t x i=>n1 ((zj3 P t i).bind fun f=>partD P f.type (ρ x) f.offset)
 | .indexAddr t x ix =>
  n1 ((intD (ρ ix)).bind fun i =>
   match P.underlying t,ρ x with
   | some (.slice e),.p (.lst _ n cells)=>(szOf P e).bind fun sz=>if 0≤i∧i<n∧sz≠0∧cells.length=n*sz then some (.p (.iptr cells (i.toNat*sz))) else none
   | some (.slice e),.ref id off n esz=>(szOf P e).bind fun sz=>if 0≤i∧i<n∧sz=esz∧sz≠0 then some (.ptr id (off+i.toNat*sz)) else none
   | some (.array n e),.ptr id off=>(szOf P e).bind fun sz=>if 0≤i∧i<n∧sz≠0 then some (.ptr id (off+i.toNat*sz)) else none
   | some (.array n e),.p (.iptr cells off)=>(szOf P e).bind fun sz=>if 0≤i∧i<n∧sz≠0 then some (.p (.iptr cells (off+i.toNat*sz))) else none
   | _,_=>none)
 | .index t x ix =>
  n1 (match P.underlying t with
   | some .string=>(concD (ρ x)).bind fun a=>(concD (ρ ix)).bind fun b=>(zaq P (Instr.index t a b)).map fun r=>.p (.v r)
   | some (.array n e)=>(intD (ρ ix)).bind fun i=>(szOf P e).bind fun sz=>if 0≤i∧i<n then partD P e (ρ x) (i.toNat*sz) else none
   | _=>none)
 | .extract x i =>
  n1 (match ρ x with
   | .p (.tup cs)=>(cs[i]?).map .p
   | .tup ds=>ds[i]?
   | _=>none)
 | .makeMap _ none=>some (.mp H.length,some (H++[.mp []]))
 | .lookup t x ix ok=>n1 (zia P H t (ρ x) (ρ ix) ok)
 | .mapUpdate t m k x=>(zfa P H t (ρ m) (ρ k) (ρ x)).map fun h=>(ze1,some h)
 | .makeInterface t x =>
  match P.underlying t with
  | some (.slice _)=>some (.ifc t (ρ x),none)
  | _=>none
 | .call c =>
  match c.callee with
  | .builtin b=>zgj P H b c.argTypes o.type (c.args.toList.map ρ)
  | .value f =>
   match ρ f with
   | .p (.fn (.func g) cs)=>callD call A H g (c.args.toList.map ρ++cs.map .p)
   | .fn (.func g) ds=>callD call A H g (c.args.toList.map ρ++ds)
   | _=>none
  | _=>none
 | _=>none
def putD (tm:List Dv) (dst:Option Tmp) (d:Dv):List Dv :=
 match dst with
 | some t=>tm.set t d
 | none=>tm
def zms:Dv→Option (Option Bool)
 | .junk=>none
 | .p (.v (.bool b))=>some (some b)
 | _=>some none
def wantD (ops:Array Oper) (tm:List Dv) (o:Oper):Option Bool :=
 match o.guard with
 | none=>some true
 | some (j,want) =>
  match (ops[j]?).bind (·.dst) with
  | none=>some false
  | some t=>(zms (tm.getD t ze1)).map (· == some want)
def wrOp:Op→Bool
 | .store ..=>true
 | .alloc _=>true
 | .box ..=>true
 | .makeSlice ..=>true
 | .makeMap ..=>true
 | .mapUpdate ..=>true
 | .call { callee:=.builtin .append,.. }=>true
 | .call { callee:=.builtin .copy,.. }=>true
 | .call { callee:=.builtin .delete,.. }=>true
 | _=>false
def stepD [Gl] (P:Program) (A:Ann) (call:CallF) (quiet:Bool) (ops:Array Oper) (o:Oper) (s:St):Option St :=
 (wantD ops s.tmps o).bind fun w =>
 if w then
  (opD P A call s.tmps s.heap o).bind fun (d,h) =>
  match h with
  | none=>some { s with tmps:=putD s.tmps o.dst d }
  | some h=>if quiet && !wrOp o.op then none else some { s with tmps:=putD s.tmps o.dst d,heap:=h }
 else some { s with tmps:=putD s.tmps o.dst ze1 }
def opsD [Gl] (P:Program) (A:Ann) (call:CallF) (quiet:Bool) (ops:Array Oper):List Oper→St→Option St
 | [],s=>some s
 | o :: rest,s=>(stepD P A call quiet ops o s).bind (opsD P A call quiet ops rest)
inductive Cls where | n | r | w deriving DecidableEq
def clsOf [Gl] (quiet:Bool):Op→Cls
 | .load ..=>.r
 | .slice ..=>.r
 | .buildSlice ..=>if quiet then .r else .w
 | .store ..=>.w
 | .alloc _=>.w
 | .box ..=>.w
 | .makeSlice ..=>.w
 | .call { callee:=.builtin .append,.. }=>.w
 | .call { callee:=.builtin .copy,.. }=>.w
 | .makeMap ..=>.w
 | .mapUpdate ..=>.w
 | .lookup ..=>.r
 | .call { callee:=.builtin .delete,.. }=>.w
 | .call { callee:=.builtin .len,argTypes:=ts,.. }=>if Gl.isMap (ts.getD 0 0) then .r else .n
 | .call { callee:=.builtin _,.. }=>.n
 | .call _=>if quiet then .r else .w
 | _=>.n
def zih:Cls→Cls→Bool
 | .n,_=>true
 | _,.n=>true
 | .r,.r=>true
 | _,_=>false
def zpe (acc:List Nat) (l:List Edge) (s:Nat):Nat :=
 match l with
 | []=>s
 | e :: l=>zpe acc l (if Region.binds .any e then s ||| 2 ^ e.on ||| acc.getD e.on 0 else s)
def zso:List Oper→List Nat→List Nat
 | [],acc=>acc
 | o :: l,acc=>zso l (acc++[zpe acc o.after.toList 0])
def waits (ops:List Oper):List Nat:=zso ops []
def zst (ops:List Oper):Bool:=ops.zipIdx.all fun (o,k)=>o.after.toList.all fun e=>!Region.binds .any e || decide (e.on<k)
def zsd [Gl] (quiet:Bool) (opsA:Array Oper) (ws:List Nat):List (Oper×Nat)→Bool
 | []=>true
 | (o,i) :: rest=>(rest.all fun (o',j)=>(ws.getD j 0).testBit i || (o.apart opsA o' && zih (clsOf quiet o.op) (clsOf quiet o'.op))) && zsd quiet opsA ws rest
def regB [Gl] (quiet:Bool) (ops:Array Oper):Bool:=zst ops.toList && zsd quiet ops (waits ops.toList) ops.toList.zipIdx
def isNew:Op→Bool
 | .alloc _=>true
 | .box ..=>true
 | .makeSlice ..=>true
 | _=>false
def zfv [Gl]:Op→Bool
 | .move _=>true
 | .assign _=>true
 | .fieldAddr ..=>true
 | .indexAddr ..=>true
 | .unOp ..=>true
 | .convert ..=>true
 | .build ..=>true
 | .extract ..=>true
 | .call { callee:=.builtin .len,argTypes:=ts,.. }=>!Gl.isMap (ts.getD 0 0)
 | _=>false
def zcj:Op→Bool
 | .call { callee:=.value _,.. }=>true
 | _=>false
def isMem:Op→Bool
 | .load ..=>true
 | .store ..=>true
 | op=>isNew op
def rankN:List Oper→Nat→Nat
 | [],_=>0
 | _ :: _,0=>0
 | o :: l,i+1=>(if isNew o.op then 1 else 0)+rankN l i
def ptrId:Dv→Option Nat
 | .ptr id _=>some id
 | _=>none
def idOfD [Gl] (ops:Array Oper) (n:Nat) (tm:List Dv) (i:Nat):Option Nat :=
 match ops[i]? with
 | none=>none
 | some o =>
  match o.op with
  | .load _ x=>ptrId (evalO tm x)
  | .store _ x _=>ptrId (evalO tm x)
  | op=>if isNew op then some (n+rankN ops.toList i) else none
def isP:Dv→Bool
 | .p _=>true
 | _=>false
def varAt (H:List Ob) (d:Dv):Bool:=match d with | .ptr id _=>(match H[id]? with | some (.var _)=>true | _=>false) | _=>false
def isBS:Op→Bool
 | .buildSlice ..=>true
 | _=>false
def isCV (op:Op):Bool:=zcj op || isBS op
def zcw [Gl] (tm:List Dv) (o:Oper):Bool :=
 match o.op with
 | .call { callee:=.value f,args:=args,.. }=>isP (evalO tm f) && args.toList.all fun x=>isP (evalO tm x)
 | .buildSlice _ _ parts=>parts.toList.all fun p=>isP (evalO tm p.2)
 | _=>false
def zmc [Gl] (s:St) (o:Oper):Bool :=
 match o.op with
 | .store _ x y=>isP (evalO s.tmps y) || varAt s.heap (evalO s.tmps x)
 | _=>!isCV o.op || zcw s.tmps o
def neqO:Option Nat→Option Nat→Bool
 | some a,some b=>a != b
 | _,_=>true
def dynB [Gl] (ops:Array Oper) (n:Nat) (pairs:List (Nat×Nat)) (s:St):Bool :=
 (pairs.all fun (i,j)=>neqO (idOfD ops n s.tmps i) (idOfD ops n s.tmps j)) && ops.toList.all (zmc s)
def addrs:Op→List Operand
 | .load _ x=>[x]
 | .store _ x y=>[x,y]
 | .call { callee:=.value f,args:=args,.. }=>f :: args.toList
 | _=>[]
def zn6 (op:Op):List Operand:=addrs op++match op with | .buildSlice _ _ parts=>parts.toList.map (·.2) | _=>[]
def zs2:List Oper→Bool
 | []=>true
 | o :: l=>(zn6 o.op).all (fun x=>match x with | .tmp t=>(o :: l).all fun o'=>o'.dst != some t | _=>true) && zs2 l
def zoo [Gl] (pairs:List (Nat×Nat)) (opsA:Array Oper) (ws:List Nat):List (Oper×Nat)→Bool
 | []=>true
 | (o,i) :: rest=>(rest.all fun (o',j)=>(ws.getD j 0).testBit i || (o.apart opsA o' && (zih (clsOf true o.op) (clsOf true o'.op) || pairs.contains (i,j)))) && zoo pairs opsA ws rest
def dynS [Gl] (ops:Array Oper) (pairs:List (Nat×Nat)):Bool :=
 zst ops.toList && (ops.toList.all fun o=>o.guard.isNone && (isMem o.op || zfv o.op || isCV o.op)) && zs2 ops.toList && zoo pairs ops (waits ops.toList) ops.toList.zipIdx
def zry (A:Ann) (H:List Ob) (g:FuncId) (args:List Dv):List Nat :=
 let gv:=if A.muts g || A.ros g then (args.map (wkA A g),[]) else giveD H args
 zen (zan H gv.2) 64 (zav gv.1) []++gv.2
def refId:Dv→List Nat
 | .ref id _ _ _=>[id]
 | _=>[]
def zhp [Gl] (A:Ann) (tm:List Dv) (H:List Ob) (o:Oper):List Nat :=
 match o.op with
 | .call { callee:=.value f,args:=args,.. } =>
  match evalO tm f with
  | .p (.fn (.func g) cs)=>zry A H g (args.toList.map (evalO tm)++cs.map .p)
  | .fn (.func g) ds=>zry A H g (args.toList.map (evalO tm)++ds)
  | _=>[]
 | .buildSlice _ _ parts=>if parts.toList.all fun p=>isP (evalO tm p.2) then [] else List.range H.length
 | .call { callee:=.builtin .append,args:=args,.. }=>match args.toList with | x :: _=>refId (evalO tm x) | []=>[]
 | _=>[]
def isApp:Op→Bool
 | .call { callee:=.builtin .append,.. }=>true
 | _=>false
def appX (o:Oper):Option (Operand×Nat) :=
 match o.op,o.dst,o.guard with
 | .call { callee:=.builtin .append,args:=args,.. },some t,none=>(args.toList.head?).map fun x=>(x,t)
 | _,_,_=>none
def apT [Gl] (tm:List Dv) (p:Operand×Nat):List Nat:=refId (evalO tm p.1)++refId (tm.getD p.2 .junk)
def heavy (q:Bool) (op:Op):Bool:=isApp op || (!q && (zcj op || isBS op))
def zjr (op:Op):List Operand:=addrs op++match op with | .buildSlice _ _ parts=>parts.toList.map (·.2) | .call { callee:=.builtin .append,args:=args,.. }=>args.toList | _=>[]
def onceB:List Oper→Bool
 | []=>true
 | o :: l=>(match appX o with | some (_,t)=>l.all fun o'=>o'.dst != some t | none=>true) && onceB l
def zqg:List Oper→Bool
 | []=>true
 | o :: l=>(zjr o.op).all (fun x=>match x with | .tmp t=>(o :: l).all fun o'=>o'.dst != some t | _=>true) && zqg l
def zdi (o:Oper):Option Operand :=
 match o.op with
 | .load _ x=>if o.guard.isNone then some x else none
 | _=>none
def calm (o:Oper):Bool:=isBS o.op || isApp o.op || (zdi o).isSome
def zro [Gl] (A:Ann) (ops:Array Oper) (pairs:List (Nat×Nat)) (H:List Ob) (tm:List Dv):Bool :=
 pairs.all fun (i,j) =>
  match ops[i]?,ops[j]? with
  | some oi,some oj =>
   (match (zdi oi).bind fun x=>ptrId (evalO tm x) with
   | some id=>if isBS oj.op then (zhp A tm [.dead] oj).isEmpty else !(zhp A tm H oj).contains id
   | none=>true) &&
   (if (zdi oi).isNone then match (zdi oj).bind fun x=>ptrId (evalO tm x) with
    | some id=>(match appX oi with | some p=>decide (p.2<tm.length) && !(apT tm p).contains id | none=>zcj oi.op && zcw tm oi && decide (id<H.length))
    | none=>true
   else true)
  | _,_=>false
def zu7 [Gl] (q:Bool) (pairs:List (Nat×Nat)) (opsA:Array Oper) (ws:List Nat):List (Oper×Nat)→Bool
 | []=>true
 | (o,i) :: rest=>(rest.all fun (o',j)=>(ws.getD j 0).testBit i || (o.apart opsA o' && (zih (clsOf q o.op) (clsOf q o'.op) || pairs.contains (i,j)))) && zu7 q pairs opsA ws rest
def regL [Gl] (q:Bool) (ops:Array Oper) (pairs:List (Nat×Nat)):Bool :=
 zst ops.toList && zqg ops.toList && onceB ops.toList && zu7 q pairs ops (waits ops.toList) ops.toList.zipIdx &&
 pairs.all fun (i,j)=>decide (i<j) &&
  ((((ops[i]?).bind zdi).isSome && ((ops[j]?).map fun o=>heavy q o.op) == some true) || (((ops[i]?).map fun o=>(zdi o).isNone) == some true && ((ops[j]?).bind zdi).isSome)) &&
  (((ops[j]?).map calm) == some true || ops.toList.zipIdx.all fun (o,k)=>!decide (k<j) || clsOf q o.op != .w)
def zkw [Gl] (A:Ann) (f:Nat):Code→Bool
 | .region id ops draw=>!draw || (match A.lp f id with | some pairs=>regL (!A.loud f id) ops pairs | none=>match A.dyn f id with | none=>regB (!A.loud f id) ops | some pairs=>!A.loud f id && dynS ops pairs)
 | .seq a b=>zkw A f a && zkw A f b
 | .cond _ a b=>zkw A f a && zkw A f b
 | .block _ c=>zkw A f c
 | .loop c=>zkw A f c
 | _=>true
def keepD (l:List Nat) (s:St):Option St :=
 let tm:=s.tmps.zipIdx.map fun (d,i)=>if l.contains i then d else .junk
 let acc:=zen s.heap 256 (List.range s.nin++zav tm) []
 if accOk s.heap acc (zav tm) && decide (acc.take s.nin=List.range s.nin) then
  some { tmps:=zbs acc.idxOf tm,heap:=acc.map fun i=>obMap acc.idxOf (s.heap.getD i .dead),nin:=s.nin }
 else none
def killD:List Nat→List Dv→List Dv
 | [],ds=>ds
 | i :: l,ds=>killD l (ds.set i .junk)
def weakD:Dv→Dv
 | .p (.lst _ n cells)=>.p (.lst false n cells)
 | d=>d
def z3o:List Nat→List Dv→List Dv
 | [],ds=>ds
 | i :: l,ds=>z3o l (ds.set i (weakD (ds.getD i .junk)))
def zj7:Ghost→St→Option St
 | .keep l,s=>keepD l s
 | .own t esz,s=>if zw9 (s.tmps.getD t .junk) then some { s with tmps:=s.tmps.set t (.ref s.heap.length 0 0 esz),heap:=s.heap++[.arr []] } else some s
 | .freeze t,s =>
  match zk9 s.heap (s.tmps.getD t .junk) with
  | some (x,l)=>some { s with tmps:=s.tmps.set t (.p x),heap:=zan s.heap l }
  | none=>none
 | .kill l,s=>some { s with tmps:=killD l s.tmps }
 | .weak l,s=>some { s with tmps:=z3o l s.tmps }
 | .ownC t off esz,s =>
  match s.tmps.getD t .junk with
  | .ptr id o =>
   match s.heap[id]? with
   | some (.var cs)=>if zw9 (cs.getD (o+off) .junk) then some { s with heap:=s.heap.set id (.var (cs.set (o+off) (.ref s.heap.length 0 0 esz)))++[.arr []] } else some s
   | _=>some s
  | _=>some s
 | .trim t,s =>
  match s.tmps.getD t .junk with
  | .ref id off n esz =>
   match s.heap[id]? with
   | some (.arr cs)=>some { s with heap:=s.heap.set id (.arr (cs.take (off+n*esz))) }
   | _=>some s
  | _=>some s
 | .vary t,s =>
  match s.tmps.getD t .junk with
  | .ref id _ _ _ =>
   match s.heap[id]? with
   | some (.arr (c :: cs))=>some { s with heap:=s.heap.set id (.var ((c :: cs).map .p)) }
   | _=>some s
  | _=>some s
 | .pack t,s =>
  match s.tmps.getD t .junk with
  | .ptr id _ =>
   match s.heap[id]? with
   | some (.var ds)=>match allP ds with | some cs=>some { s with heap:=s.heap.set id (.arr cs) } | none=>some s
   | _=>some s
  | _=>some s
 | .packV t,s =>
  match s.tmps.getD t .junk with
  | .ptr v _ =>
   match s.heap[v]? with
   | some (.var [.ref id _ _ _]) =>
    match s.heap[id]? with
    | some (.var ds)=>match zfh s.heap ds with | some (cs,l)=>if id∈l then some s else some { s with heap:=(zan s.heap l).set id (.arr cs) } | none=>some s
    | _=>some s
   | _=>some s
  | _=>some s
def zaj:List Ghost→St→Option St
 | [],s=>some s
 | g :: l,s=>(zj7 g s).bind (zaj l)
inductive Ex where
 | normal
 | exit (id:Nat)
 | ret
def loopD (f:St→Option (Ex×St)):Nat→St→Option (Ex×St)
 | 0,_=>none
 | k+1,s =>
  match f s with
  | some (.normal,s')=>loopD f k s'
  | r=>r
def endR [Gl] (A:Ann) (fid id:Nat) (ops:Array Oper) (draw:Bool) (s0:St) (s:St):Option (Ex×St) :=
 match A.lp fid id with
 | some pairs=>if (!draw || zro A ops pairs s0.heap s.tmps)=true then some (.normal,s) else none
 | none =>
 match A.dyn fid id with
 | none=>some (.normal,s)
 | some pairs=>if (!draw || dynB ops s0.heap.length pairs s)=true then some (.normal,s) else none
def evC [Gl] (P:Program) (A:Ann) (call:CallF) (k:Nat) (fid:FuncId):Code→St→Option (Ex×St)
 | .skip,s=>some (.normal,s)
 | .label _,s=>some (.normal,s)
 | .region id ops draw,s =>
  (zaj (A.pre fid id) s).bind fun s=>(opsD P A call (draw && !A.loud fid id) ops ops.toList s).bind (endR A fid id ops draw s)
 | .seq a b,s =>
  match evC P A call k fid a s with
  | some (.normal,s')=>evC P A call k fid b s'
  | r=>r
 | .cond c t e,s =>
  match boolD (evalO s.tmps c) with
  | some b=>if b then evC P A call k fid t s else evC P A call k fid e s
  | none=>none
 | .block id body,s =>
  match evC P A call k fid body s with
  | some (.exit id',s')=>if id'=id then some (.normal,s') else some (.exit id',s')
  | r=>r
 | .loop body,s=>loopD (evC P A call k fid body) k s
 | .exit id,s=>some (.exit id,s)
 | .ret,s=>some (.ret,s)
 | _,_=>none
def resD (P:Program) (s:St):List ResultVar→Option (List Dv)
 | []=>some []
 | .tmp t :: l=>(resD P s l).map (s.tmps.getD t .junk :: ·)
 | .cell a t :: l =>
  match loadD P s.heap t (s.tmps.getD a .junk),resD P s l with
  | some d,some ds=>some (d :: ds)
  | _,_=>none
def oneD:List Dv→Dv
 | [d]=>d
 | ds=>mkTup ds
def zap (P:Program) (A:Ann) (f:FuncId) (fn:Func) (s:St):Option (Dv×List Ob) :=
 (resD P s fn.results.toList).bind fun ds =>
 (if A.keeps f then some (oneD ds,s.heap) else (zk9 s.heap (oneD ds)).map fun (x,l)=>(.p (wk x),zan s.heap l)).bind fun (d,H) =>
 let acc:=zen H 256 (List.range s.nin++za8 d) []
 if accOk H acc (za8 d) && decide (acc.take s.nin=List.range s.nin) then some (zd8 acc.idxOf d,za0 H acc) else none
def runD [Gl] (P:Program) (A:Ann) (call:CallF) (k:Nat) (f:FuncId) (args:List Dv) (H:List Ob):Option (Dv×List Ob) :=
 if A.okf f then
 match P.funcs[f]? with
 | some fn =>
  match fn.body with
  | some c =>
   match evC P A call k f c { tmps:=args++List.replicate (fn.ntmps - args.length) ze1,heap:=H,nin:=H.length } with
   | some (.normal,s)=>zap P A f fn s
   | some (.ret,s)=>zap P A f fn s
   | _=>none
  | none=>none
 | none=>none
 else none
def extD (P:Program) (k:ExtK) (args:List Dv) (H:List Ob):Option (Dv×List Ob) :=
 match k with
 | .pure e=>(concL args).bind fun vs=>(zaq P (e vs.toArray)).map fun r=>(.p (.v r),H)
 | .swapper l =>
  match args with
  | [.ifc t (.ref id off n esz)] =>
   (l.lookup t).map fun (f0,f1,f2,e) =>
    if n=0 then (.fn (.func f0) [],H) else if n=1 then (.fn (.func f1) [],H) else (.fn (.func f2) [.ref id off n esz,.p (.v (typeHandle P e))],H)
  | _=>none
 | .swap =>
  match args with
  | [.p (.v (.int .i64 i)),.p (.v (.int .i64 j)),.ref id off n esz,.p (.v hd)] =>
   (zaq P (Extern.Rtype.ofHandle hd)).bind fun e=>(szOf P e).bind fun sz =>
   if sz=esz∧0≤i∧i<n∧0≤j∧j<n then
    (loadD P H e (.ptr id (off+i.toNat*esz))).bind fun x=>(loadD P H e (.ptr id (off+j.toNat*esz))).bind fun y =>
    (zdf P H e (.ptr id (off+i.toNat*esz)) y).bind fun H1=>(zdf P H1 e (.ptr id (off+j.toNat*esz)) x).map fun H2=>(.p (.tup []),H2)
   else none
  | _=>none
 | .valueOf =>
  match args with
  | [.ifc t (.ref id off n esz)] =>
   match zaq P (Extern.Rtype.kind t) with
   | some 23=>some (.agg [.p (.v (typeHandle P t)),.ptr H.length 0,.p (.v (.int .u64 151))],H++[.var [.ref id off n esz]])
   | _=>none
  | _=>none
 | .valLen =>
  match args with
  | [.agg [.p (.v hd),.ptr id off,.p (.v (.int .u64 151))]] =>
   (zaq P (Extern.Rtype.ofHandle hd)).bind fun t =>
   (zaq P (Extern.Rtype.noPack "a Value asked or handed on" t)).bind fun _=>(zaq P (Extern.Rtype.under t)).bind fun u =>
   match u.2.desc,P.underlying t,loadD P H t (.ptr id off) with
   | .slice _,some (.slice _),some (.ref _ _ n _)=>some (.p (.v (goInt n)),H)
   | _,_,_=>none
  | _=>none
def zjm:List Dv→List Ob→Bool
 | [.p (.lst _ 0 [])],[]=>true
 | _,_=>false
def callN [Gl] (P:Program) (A:Ann):Nat→CallF
 | 0=>fun _ _ _=>none
 | k+1=>fun f args H =>
  match A.outer f with
  | some e=>extD P e args H
  | none =>
  match A.clone f with
  | none=>runD P A (callN P A k) k f args H
  | some sz=>if zjm args H then some (if sz=0 then (.p (.lst false 0 []),[]) else (.ref 0 0 0 sz,[.arr []])) else runD P A (callN P A k) k f args H
end Go.Ev

set_option linter.unusedVariables false
set_option linter.unusedSimpArgs false
namespace Go.Ev
inductive RepP (w:World) (M:Nat→Prop):Value→Pv→Prop
 | v (x:Value):RepP w M x (.v x)
 | lst (full:Bool) (n:Nat) (cells:List Pv) (A:Option Addr) (cap:Nat) (us:Nat→Value)
   (hn:n≤cap) (hf:full=true→cap=n)
   (ha:cells≠[]→∃ b o,A=some ⟨b,o,none⟩∧¬ M b∧∀ j,j<cells.length→w.cell? ⟨b,o+j,none⟩=some (us j))
   (h1:∀ j,j<cells.length→(us j).oneCell'=true)
   (hr:∀ j (h:j<cells.length),RepP w M (us j) cells[j]):RepP w M (.slice A n cap) (.lst full n cells)
 | agg (vs:Array Value) (cs:List Pv) (hl:vs.size=cs.length) (h1:∀ j,j<cs.length→(vs.getD j undef).oneCell'=true)
   (hr:∀ j (h:j<cs.length),RepP w M (vs.getD j undef) cs[j]):RepP w M (.agg vs) (.agg cs)
 | tup (vs:Array Value) (cs:List Pv) (hl:vs.size=cs.length) (hr:∀ j (h:j<cs.length),RepP w M (vs.getD j undef) cs[j]):RepP w M (.tuple vs) (.tup cs)
 | iptr (cells:List Pv) (off b o:Nat) (us:Nat→Value)
   (ha:cells≠[]→¬ M b∧∀ j,j<cells.length→w.cell? ⟨b,o+j,none⟩=some (us j))
   (h1:∀ j,j<cells.length→(us j).oneCell'=true)
   (hr:∀ j (h:j<cells.length),RepP w M (us j) cells[j]):RepP w M (.pointer (some ⟨b,o+off,none⟩)) (.iptr cells off)
 | fn (f:Fn) (vs:Array Value) (cs:List Pv) (hl:vs.size=cs.length) (hr:∀ j (h:j<cs.length),RepP w M (vs.getD j undef) cs[j]):RepP w M (.func f #[] vs) (.fn f cs)
theorem zff:∀ (l:List Pv),(wks l).length=l.length
 | []=>by simp [wks]
 | x :: xs=>by simp [wks,zff xs]
theorem zme:∀ (l:List Pv) (j:Nat) (h:j<(wks l).length) (h':j<l.length),(wks l)[j]=wk l[j]
 | [],j,h,h'=>absurd h' (by simp)
 | x :: xs,0,h,h'=>by simp [wks]
 | x :: xs,j+1,h,h'=>by
  simp only [wks,List.getElem_cons_succ]
  exact zme xs j (by simpa [wks] using h) (by simpa using h')
theorem zw2 {l:List Pv} (h:wks l≠[]):l≠[]:=by intro e;subst e;exact h (by simp [wks])
theorem RepP.wk {w:World}{M:Nat→Prop}{v:Value}{x:Pv} (h:RepP w M v x):RepP w M v (wk x):=by
 induction h with
 | v x=>rw [Go.Ev.wk.eq_1];exact .v x
 | lst full n cells A cap us hn hf ha h1 hr ih =>
  rw [Go.Ev.wk.eq_2]
  refine .lst false n _ A cap us hn (fun e=>by simp at e) (fun e=>?_) (fun j hj=>h1 j (by simpa [zff] using hj)) (fun j hj=>?_)
  ·obtain ⟨b,o,e1,e2,e3⟩:=ha (zw2 e)
   exact ⟨b,o,e1,e2,fun j hj=>e3 j (by simpa [zff] using hj)⟩
  ·rw [zme _ _ _ (by simpa [zff] using hj)];exact ih j (by simpa [zff] using hj)
 | agg vs cs hl h1 hr ih =>
  rw [Go.Ev.wk.eq_3]
  refine .agg vs _ (by rw [zff];exact hl) (fun j hj=>h1 j (by simpa [zff] using hj)) (fun j hj=>?_)
  rw [zme _ _ _ (by simpa [zff] using hj)];exact ih j (by simpa [zff] using hj)
 | tup vs cs hl hr ih =>
  rw [Go.Ev.wk.eq_4]
  refine .tup vs _ (by rw [zff];exact hl) (fun j hj=>?_)
  rw [zme _ _ _ (by simpa [zff] using hj)];exact ih j (by simpa [zff] using hj)
 | iptr cells off b o us ha h1 hr ih =>
  rw [Go.Ev.wk.eq_5]
  refine .iptr _ off b o us (fun e=>?_) (fun j hj=>h1 j (by simpa [zff] using hj)) (fun j hj=>?_)
  ·obtain ⟨e2,e3⟩:=ha (zw2 e)
   exact ⟨e2,fun j hj=>e3 j (by simpa [zff] using hj)⟩
  ·rw [zme _ _ _ (by simpa [zff] using hj)];exact ih j (by simpa [zff] using hj)
 | fn f vs cs hl hr ih =>
  rw [Go.Ev.wk.eq_6]
  refine .fn f vs _ (by rw [zff];exact hl) (fun j hj=>?_)
  rw [zme _ _ _ (by simpa [zff] using hj)];exact ih j (by simpa [zff] using hj)
abbrev Pl:=Nat→Option (Nat×Nat)
def Ob.live:Ob→Bool
 | .var _=>true
 | .arr _=>true
 | .mp _=>true
 | _=>false
def Ob.alive:Ob→Bool
 | .dead=>false
 | _=>true
def Alive (H:List Ob) (i:Nat):Prop:=∃ o,H[i]?=some o∧o.alive=true
def Live (H:List Ob) (ρ:Pl) (b:Nat):Prop:=∃ i o bs,H[i]?=some o∧o.live=true∧ρ i=some (b,bs)
def Mut (X:Nat→Prop) (H:List Ob) (ρ:Pl) (b:Nat):Prop:=X b∨Live H ρ b
def Blk (w:World) (b:Nat) (C:Array Value):Prop:=∃ T fr,w.heap[b]?=some (.cells C T fr)
def Own (w:World) (b:Nat) (C:Array Value):Prop:=∃ T,w.heap[b]?=some (.cells C T (0,0))
inductive RepD (w:World) (M:Nat→Prop) (H:List Ob) (ρ:Pl):Value→Dv→Prop
 | junk (x:Value):RepD w M H ρ x .junk
 | p (x:Value) (y:Pv) (h:RepP w M x y):RepD w M H ρ x (.p y)
 | ref (id off len esz:Nat) (A:Option Addr) (cap:Nat) (hid:id<H.length) (hn:len≤cap)
   (ha:0<cap→∃ a,A=some a∧(Alive H id→∃ b bs C,ρ id=some (b,bs)∧a=⟨b,bs+off,none⟩∧Blk w b C∧bs+off+cap*esz≤C.size)) :
   RepD w M H ρ (.slice A len cap) (.ref id off len esz)
 | ptr (id off:Nat) (a:Addr) (hid:id<H.length) (ha:Alive H id→∃ b bs,ρ id=some (b,bs)∧a=⟨b,bs+off,none⟩):RepD w M H ρ (.pointer (some a)) (.ptr id off)
 | agg (vs:Array Value) (cs:List Dv) (hl:vs.size=cs.length) (h1:∀ j,j<cs.length→(vs.getD j undef).oneCell'=true)
   (hr:∀ j (h:j<cs.length),RepD w M H ρ (vs.getD j undef) cs[j]):RepD w M H ρ (.agg vs) (.agg cs)
 | tup (vs:Array Value) (cs:List Dv) (hl:vs.size=cs.length) (hr:∀ j (h:j<cs.length),RepD w M H ρ (vs.getD j undef) cs[j]):RepD w M H ρ (.tuple vs) (.tup cs)
 | fn (f:Fn) (vs:Array Value) (cs:List Dv) (hl:vs.size=cs.length) (hr:∀ j (h:j<cs.length),RepD w M H ρ (vs.getD j undef) cs[j]):RepD w M H ρ (.func f #[] vs) (.fn f cs)
 | mp (id b:Nat) (hid:id<H.length) (ha:Alive H id→ρ id=some (b,0)):RepD w M H ρ (.map (some b)) (.mp id)
 | ifc (t:TypeId) (v:Value) (d:Dv) (h:RepD w M H ρ v d):RepD w M H ρ (.iface t v) (.ifc t d)
def CellsP (w:World) (M:Nat→Prop) (C:Array Value) (bs:Nat) (cs:List Pv):Prop :=
 bs+cs.length≤C.size∧∀ j (h:j<cs.length),(C.getD (bs+j) undef).oneCell'=true∧RepP w M (C.getD (bs+j) undef) cs[j]
def CellsD (w:World) (M:Nat→Prop) (H:List Ob) (ρ:Pl) (C:Array Value) (bs:Nat) (cs:List Dv):Prop :=
 bs+cs.length≤C.size∧∀ j (h:j<cs.length),(C.getD (bs+j) undef).oneCell'=true∧RepD w M H ρ (C.getD (bs+j) undef) cs[j]
def EntsD (w:World) (M:Nat→Prop) (H:List Ob) (ρ:Pl) (E:Array MapEntry) (es:List (Value×Dv)):Prop :=
 E.size=es.length∧∀ j (h:j<es.length) (h':j<E.size),E[j].key=es[j].1∧RepD w M H ρ E[j].val es[j].2
def ObOk (w:World) (X:Nat→Prop) (H:List Ob) (ρ:Pl) (i:Nat):Ob→Prop
 | .dead=>True
 | .var ds=>∃ b bs C,ρ i=some (b,bs)∧¬ X b∧Own w b C∧CellsD w (Mut X H ρ) H ρ C bs ds
 | .arr cs=>(cs=[]∧ρ i=none)∨∃ b bs C,ρ i=some (b,bs)∧¬ X b∧Own w b C∧CellsP w (Mut X H ρ) C bs cs
 | .frz cs=>(cs=[]∧ρ i=none)∨∃ b bs C,ρ i=some (b,bs)∧¬ Mut X H ρ b∧Blk w b C∧CellsP w (Mut X H ρ) C bs cs
 | .ro ds=>∃ b bs C,ρ i=some (b,bs)∧¬ Live H ρ b∧Blk w b C∧CellsD w (Mut X H ρ) H ρ C bs ds
 | .roa cs=>(cs=[]∧ρ i=none)∨∃ b bs C,ρ i=some (b,bs)∧¬ Live H ρ b∧Blk w b C∧CellsP w (Mut X H ρ) C bs cs
 | .mp es=>∃ b E c,ρ i=some (b,0)∧¬ X b∧w.heap[b]?=some (.map E c)∧EntsD w (Mut X H ρ) H ρ E es
 | .rmp es=>∃ b E c,ρ i=some (b,0)∧¬ Live H ρ b∧w.heap[b]?=some (.map E c)∧EntsD w (Mut X H ρ) H ρ E es
def GlobOk [Gl] (w:World) (M:Nat→Prop):Prop:=∀ g cells,Gl.glob g=some cells→RepP w M (.pointer (some ⟨g,0,none⟩)) (.iptr cells 0)
structure Sim [Gl] (X:Nat→Prop) (w:World) (H:List Ob) (ρ:Pl):Prop where
 xlt:∀ b,X b→b<w.heap.size
 obs:∀ i o,H[i]?=some o→ObOk w X H ρ i o
 inj:∀ i j o o' b bs bs',H[i]?=some o→H[j]?=some o'→o.live=true→o'.live=true→ρ i=some (b,bs)→ρ j=some (b,bs')→i=j
 globs:GlobOk w (Mut X H ρ)
structure Evo (n:Nat) (w:World) (H:List Ob) (ρ:Pl) (w':World) (H':List Ob) (ρ':Pl):Prop where
 os:w'.os=w.os
 tape:w'.tape=w.tape
 output:w'.output=w.output
 size:w.heap.size≤w'.heap.size
 block:∀ b,b<w.heap.size→¬ Live H ρ b→w'.heap[b]?=w.heap[b]?
 shape:∀ b C,Blk w b C→∃ C',Blk w' b C'∧C'.size=C.size
 live:∀ b,Live H' ρ' b→Live H ρ b∨w.heap.size≤b
 len:n≤H.length
 len':n≤H'.length
 alive:∀ i,i<n→Alive H' i→Alive H i∧ρ' i=ρ i
theorem Evo.refl (w:World) (H:List Ob) (ρ:Pl):Evo H.length w H ρ w H ρ :=
 ⟨rfl,rfl,rfl,Nat.le_refl _,fun _ _ _=>rfl,fun b C h=>⟨C,h,rfl⟩,fun _ h=>.inl h,Nat.le_refl _,Nat.le_refl _,fun _ _ h=>⟨h,rfl⟩⟩
theorem Evo.mono {n m:Nat}{w w':World}{H H':List Ob}{ρ ρ':Pl} (h:Evo n w H ρ w' H' ρ') (hm:m≤n):Evo m w H ρ w' H' ρ' :=
 ⟨h.os,h.tape,h.output,h.size,h.block,h.shape,h.live,Nat.le_trans hm h.len,Nat.le_trans hm h.len',fun i hi=>h.alive i (Nat.lt_of_lt_of_le hi hm)⟩
theorem Evo.trans {n:Nat}{w w1 w2:World}{H H1 H2:List Ob}{ρ ρ1 ρ2:Pl} (h:Evo n w H ρ w1 H1 ρ1) (k:Evo n w1 H1 ρ1 w2 H2 ρ2):Evo n w H ρ w2 H2 ρ2 where
 os:=k.os.trans h.os
 tape:=k.tape.trans h.tape
 output:=k.output.trans h.output
 size:=Nat.le_trans h.size k.size
 block b hb hl:=by
  rw [k.block b (Nat.lt_of_lt_of_le hb h.size) (fun h1=>?_),h.block b hb hl]
  rcases h.live b h1 with h2 | h2
  ·exact hl h2
  ·omega
 shape b C hC:=by
  obtain ⟨C1,h1,e1⟩:=h.shape b C hC
  obtain ⟨C2,h2,e2⟩:=k.shape b C1 h1
  exact ⟨C2,h2,e2.trans e1⟩
 live b hb:=by
  rcases k.live b hb with h1 | h1
  ·exact h.live b h1
  ·exact .inr (Nat.le_trans h.size h1)
 len:=h.len
 len':=k.len'
 alive i hi ha:=by
  obtain ⟨h1,e1⟩:=k.alive i hi ha
  obtain ⟨h2,e2⟩:=h.alive i hi h1
  exact ⟨h2,e1.trans e2⟩
theorem Blk.lt {w:World}{b:Nat}{C:Array Value} (h:Blk w b C):b<w.heap.size:=by
 obtain ⟨T,fr,h⟩:=h
 exact (Array.getElem?_eq_some_iff.1 h).1
theorem Own.blk {w:World}{b:Nat}{C:Array Value} (h:Own w b C):Blk w b C:=let ⟨T,h⟩:=h;⟨T,_,h⟩
theorem Blk.cell {w:World}{b:Nat}{C:Array Value} (h:Blk w b C) (j:Nat):w.cell? ⟨b,j,none⟩=C[j]?:=by
 obtain ⟨T,fr,h⟩:=h
 simp [World.cell?,h]
theorem z9w {w:World}{b o:Nat}{u:Value} (h:w.cell? ⟨b,o,none⟩=some u):∃ C,Blk w b C:=by
 unfold World.cell? at h
 split at h
 ·rename_i C T fr hb
  exact ⟨C,T,fr,hb⟩
 ·simp at h
theorem Blk.unique {w:World}{b:Nat}{C C':Array Value} (h:Blk w b C) (h':Blk w b C'):C=C':=by
 obtain ⟨T,fr,h⟩:=h
 obtain ⟨T',fr',h'⟩:=h'
 rw [h] at h'
 injection h' with h'
 injection h'
theorem getD_some {C:Array Value}{j:Nat} (h:j<C.size):C[j]?=some (C.getD j undef):=by
 simp [h]
theorem Sim.live_x [Gl] {X:Nat→Prop}{w:World}{H:List Ob}{ρ:Pl} (h:Sim X w H ρ) {b:Nat} (hb:Live H ρ b):¬ X b∧b<w.heap.size:=by
 obtain ⟨i,o,bs,hi,ho,hρ⟩:=hb
 have h1:=h.obs i o hi
 cases o with
 | var ds =>
  obtain ⟨b',bs',C,e,hx,hC,_⟩:=h1
  rw [hρ] at e
  simp only [Option.some.injEq,Prod.mk.injEq] at e
  obtain ⟨rfl,rfl⟩:=e
  exact ⟨hx,hC.blk.lt⟩
 | arr cs =>
  rcases h1 with ⟨_,e⟩ | ⟨b',bs',C,e,hx,hC,_⟩
  ·rw [hρ] at e;cases e
  ·rw [hρ] at e
   simp only [Option.some.injEq,Prod.mk.injEq] at e
   obtain ⟨rfl,rfl⟩:=e
   exact ⟨hx,hC.blk.lt⟩
 | mp es =>
  obtain ⟨b',E,c,e,hx,hC,_⟩:=h1
  rw [hρ] at e
  simp only [Option.some.injEq,Prod.mk.injEq] at e
  obtain ⟨rfl,rfl⟩:=e
  exact ⟨hx,(Array.getElem?_eq_some_iff.1 hC).1⟩
 | dead=>cases ho
 | frz _=>cases ho
 | ro _=>cases ho
 | roa _=>cases ho
 | rmp _=>cases ho
theorem Sim.live_lt [Gl] {X:Nat→Prop}{w:World}{H:List Ob}{ρ:Pl} (h:Sim X w H ρ) {b:Nat} (hb:Live H ρ b):b<w.heap.size:=by
 exact (h.live_x hb).2
theorem Sim.mut_lt [Gl] {X:Nat→Prop}{w:World}{H:List Ob}{ρ:Pl} (h:Sim X w H ρ) {b:Nat} (hb:Mut X H ρ b):b<w.heap.size:=by
 rcases hb with hb | hb
 ·exact h.xlt b hb
 ·exact h.live_lt hb
theorem RepP.mono {w w':World}{M M':Nat→Prop}{x:Value}{y:Pv} (h:RepP w M x y)
  (hc:∀ b o u,w.cell? ⟨b,o,none⟩=some u→¬ M b→w'.cell? ⟨b,o,none⟩=some u∧¬ M' b):RepP w' M' x y:=by
 induction h with
 | v x=>exact .v x
 | lst full n cells A cap us hn hf ha h1 hr ih =>
  refine .lst full n cells A cap us hn hf (fun hne=>?_) h1 ih
  obtain ⟨b,o,e,hm,hcell⟩:=ha hne
  have hpos:0<cells.length:=by cases cells<;>simp_all
  refine ⟨b,o,e,(hc b (o+0) _ (hcell 0 hpos) hm).2,fun j hj=>(hc b (o+j) _ (hcell j hj) hm).1⟩
 | agg vs cs hl h1 hr ih=>exact .agg vs cs hl h1 ih
 | tup vs cs hl hr ih=>exact .tup vs cs hl ih
 | iptr cells off b o us ha h1 hr ih =>
  refine .iptr cells off b o us (fun hne=>?_) h1 ih
  obtain ⟨hm,hcell⟩:=ha hne
  have hpos:0<cells.length:=by cases cells<;>simp_all
  exact ⟨(hc b (o+0) _ (hcell 0 hpos) hm).2,fun j hj=>(hc b (o+j) _ (hcell j hj) hm).1⟩
 | fn f vs cs hl hr ih=>exact .fn f vs cs hl ih
theorem Evo.cells {n:Nat}{X:Nat→Prop}{w w':World}{H H':List Ob}{ρ ρ':Pl} (h:Evo n w H ρ w' H' ρ') :
  ∀ b o u,w.cell? ⟨b,o,none⟩=some u→¬ Mut X H ρ b→w'.cell? ⟨b,o,none⟩=some u∧¬ Mut X H' ρ' b:=by
 intro b o u hu hm
 obtain ⟨C,hC⟩:=z9w hu
 have hlt:=hC.lt
 refine ⟨?_,fun hm'=>?_⟩
 ·have:w'.heap[b]?=w.heap[b]?:=h.block b hlt (fun hl=>hm (.inr hl))
  unfold World.cell? at *
  simp only [this]
  exact hu
 ·rcases hm' with hx | hl
  ·exact hm (.inl hx)
  ·rcases h.live b hl with h1 | h1
   ·exact hm (.inr h1)
   ·omega
theorem RepP.evo {n:Nat}{X:Nat→Prop}{w w':World}{H H':List Ob}{ρ ρ':Pl} (h:Evo n w H ρ w' H' ρ') {x:Value}{y:Pv} (hr:RepP w (Mut X H ρ) x y):RepP w' (Mut X H' ρ') x y :=
 hr.mono h.cells
theorem RepP.sub {w:World}{M M':Nat→Prop}{x:Value}{y:Pv} (h:RepP w M x y) (hs:∀ b,M' b→M b):RepP w M' x y :=
 h.mono fun b o u hu hm=>⟨hu,fun h'=>hm (hs b h')⟩
theorem RepD.evo {X:Nat→Prop}{w w':World}{H H':List Ob}{ρ ρ':Pl} (h:Evo H.length w H ρ w' H' ρ') {x:Value}{y:Dv} (hr:RepD w (Mut X H ρ) H ρ x y):RepD w' (Mut X H' ρ') H' ρ' x y:=by
 induction hr with
 | junk x=>exact .junk x
 | p x y hp=>exact .p x y (hp.evo h)
 | ref id off len esz A cap hid hn ha =>
  refine .ref id off len esz A cap (Nat.lt_of_lt_of_le hid h.len') hn (fun hcap=>?_)
  obtain ⟨a,ea,hal⟩:=ha hcap
  refine ⟨a,ea,fun hl=>?_⟩
  obtain ⟨h1,e1⟩:=h.alive id hid hl
  obtain ⟨b,bs,C,e2,e3,hC,hsz⟩:=hal h1
  obtain ⟨C',hC',e4⟩:=h.shape b C hC
  exact ⟨b,bs,C',e1.trans e2,e3,hC',by rw [e4];exact hsz⟩
 | ptr id off a hid ha =>
  refine .ptr id off a (Nat.lt_of_lt_of_le hid h.len') (fun hl=>?_)
  obtain ⟨h1,e1⟩:=h.alive id hid hl
  obtain ⟨b,bs,e2,e3⟩:=ha h1
  exact ⟨b,bs,e1.trans e2,e3⟩
 | agg vs cs hl h1 hr ih=>exact .agg vs cs hl h1 ih
 | tup vs cs hl hr ih=>exact .tup vs cs hl ih
 | fn f vs cs hl hr ih=>exact .fn f vs cs hl ih
 | mp id b hid ha =>
  refine .mp id b (Nat.lt_of_lt_of_le hid h.len') (fun hl=>?_)
  obtain ⟨h1,e1⟩:=h.alive id hid hl
  exact e1.trans (ha h1)
 | ifc t v d hr ih=>exact .ifc t v d ih
theorem EntsD.evo {X:Nat→Prop}{w w':World}{H H':List Ob}{ρ ρ':Pl} (h:Evo H.length w H ρ w' H' ρ') {E:Array MapEntry}{es:List (Value×Dv)} (hr:EntsD w (Mut X H ρ) H ρ E es):EntsD w' (Mut X H' ρ') H' ρ' E es :=
 ⟨hr.1,fun j hj hj'=>⟨(hr.2 j hj hj').1,(hr.2 j hj hj').2.evo h⟩⟩
theorem GlobOk.evo [Gl] {n:Nat}{X:Nat→Prop}{w w':World}{H H':List Ob}{ρ ρ':Pl} (h:Evo n w H ρ w' H' ρ') (hr:GlobOk w (Mut X H ρ)):GlobOk w' (Mut X H' ρ') :=
 fun g cells hg=>(hr g cells hg).evo h
theorem GlobOk.sub [Gl] {w:World}{M M':Nat→Prop} (h:GlobOk w M) (hs:∀ b,M' b→M b):GlobOk w M':=fun g cells hg=>(h g cells hg).sub hs
theorem CellsP.evo {n:Nat}{X:Nat→Prop}{w w':World}{H H':List Ob}{ρ ρ':Pl} (h:Evo n w H ρ w' H' ρ') {C:Array Value}{bs:Nat}{cs:List Pv} (hr:CellsP w (Mut X H ρ) C bs cs):CellsP w' (Mut X H' ρ') C bs cs :=
 ⟨hr.1,fun j hj=>⟨(hr.2 j hj).1,(hr.2 j hj).2.evo h⟩⟩
theorem CellsD.evo {X:Nat→Prop}{w w':World}{H H':List Ob}{ρ ρ':Pl} (h:Evo H.length w H ρ w' H' ρ') {C:Array Value}{bs:Nat}{cs:List Dv} (hr:CellsD w (Mut X H ρ) H ρ C bs cs):CellsD w' (Mut X H' ρ') H' ρ' C bs cs :=
 ⟨hr.1,fun j hj=>⟨(hr.2 j hj).1,(hr.2 j hj).2.evo h⟩⟩
theorem ObOk.keep [Gl] {X:Nat→Prop}{w w':World}{H H':List Ob}{ρ ρ':Pl} (hs:Sim X w H ρ) (h:Evo H.length w H ρ w' H' ρ') {i:Nat}{o:Ob} (hi:H[i]?=some o) (hi':H'[i]?=some o)
  (hb:∀ b bs,ρ i=some (b,bs)→o.live=true→w'.heap[b]?=w.heap[b]?):ObOk w' X H' ρ' i o:=by
 have hlt:i<H.length:=(List.getElem?_eq_some_iff.1 hi).1
 have hok:=hs.obs i o hi
 have keep:∀ {b C},Blk w b C→w'.heap[b]?=w.heap[b]?→Blk w' b C:=by
  intro b C ⟨T,fr,e⟩ e';exact ⟨T,fr,e'.trans e⟩
 have keepO:∀ {b C},Own w b C→w'.heap[b]?=w.heap[b]?→Own w' b C:=by
  intro b C ⟨T,e⟩ e';exact ⟨T,e'.trans e⟩
 have nolive:∀ {b C},Blk w b C→¬ Live H ρ b→¬ Live H' ρ' b:=by
  intro b C hC hl hl'
  rcases h.live b hl' with h1 | h1
  ·exact hl h1
  ·have:=hC.lt;omega
 cases o with
 | dead=>trivial
 | var ds =>
  obtain ⟨b,bs,C,e,hx,hC,hcs⟩:=hok
  have e':=(h.alive i hlt ⟨_,hi',rfl⟩).2
  exact ⟨b,bs,C,e'.trans e,hx,keepO hC (hb b bs e rfl),hcs.evo h⟩
 | arr cs =>
  have e':=(h.alive i hlt ⟨_,hi',rfl⟩).2
  rcases hok with ⟨h0,e⟩ | ⟨b,bs,C,e,hx,hC,hcs⟩
  ·exact .inl ⟨h0,e'.trans e⟩
  ·exact .inr ⟨b,bs,C,e'.trans e,hx,keepO hC (hb b bs e rfl),hcs.evo h⟩
 | frz cs =>
  have e':=(h.alive i hlt ⟨_,hi',rfl⟩).2
  rcases hok with ⟨h0,e⟩ | ⟨b,bs,C,e,hx,hC,hcs⟩
  ·exact .inl ⟨h0,e'.trans e⟩
  ·refine .inr ⟨b,bs,C,e'.trans e,fun hm=>?_,keep hC (h.block b hC.lt (fun hl=>hx (.inr hl))),hcs.evo h⟩
   rcases hm with hm | hm
   ·exact hx (.inl hm)
   ·exact nolive hC (fun hl=>hx (.inr hl)) hm
 | ro ds =>
  have e':=(h.alive i hlt ⟨_,hi',rfl⟩).2
  obtain ⟨b,bs,C,e,hx,hC,hcs⟩:=hok
  exact ⟨b,bs,C,e'.trans e,nolive hC hx,keep hC (h.block b hC.lt hx),hcs.evo h⟩
 | roa cs =>
  have e':=(h.alive i hlt ⟨_,hi',rfl⟩).2
  rcases hok with ⟨h0,e⟩ | ⟨b,bs,C,e,hx,hC,hcs⟩
  ·exact .inl ⟨h0,e'.trans e⟩
  ·exact .inr ⟨b,bs,C,e'.trans e,nolive hC hx,keep hC (h.block b hC.lt hx),hcs.evo h⟩
 | mp es =>
  obtain ⟨b,E,c,e,hx,hC,hcs⟩:=hok
  have e':=(h.alive i hlt ⟨_,hi',rfl⟩).2
  exact ⟨b,E,c,e'.trans e,hx,(hb b 0 e rfl).trans hC,hcs.evo h⟩
 | rmp es =>
  obtain ⟨b,E,c,e,hx,hC,hcs⟩:=hok
  have e':=(h.alive i hlt ⟨_,hi',rfl⟩).2
  have hlt':=(Array.getElem?_eq_some_iff.1 hC).1
  refine ⟨b,E,c,e'.trans e,fun hl'=>?_,(h.block b hlt' hx).trans hC,hcs.evo h⟩
  rcases h.live b hl' with h1 | h1
  ·exact hx h1
  ·omega
end Go.Ev

set_option linter.unusedVariables false
set_option linter.unusedSimpArgs false
namespace Go.Ev
def updPl (ρ:Pl) (n:Nat) (x:Option (Nat×Nat)):Pl:=fun i=>if i=n then x else ρ i
theorem zdm (ρ:Pl) (n:Nat) (x:Option (Nat×Nat)):updPl ρ n x n=x:=by simp [updPl]
theorem zie {ρ:Pl}{n i:Nat}{x:Option (Nat×Nat)} (h:i≠n):updPl ρ n x i=ρ i:=by simp [updPl,h]
theorem Sim.step [Gl] {X:Nat→Prop}{w w':World}{H H':List Ob}{ρ ρ':Pl} (hs:Sim X w H ρ) (he:Evo H.length w H ρ w' H' ρ')
  (hob:∀ i o,H'[i]?=some o→(H[i]?=some o∧(∀ b bs,ρ i=some (b,bs)→o.live=true→w'.heap[b]?=w.heap[b]?))∨ObOk w' X H' ρ' i o)
  (hinj:∀ i j o o' b bs bs',H'[i]?=some o→H'[j]?=some o'→o.live=true→o'.live=true→ρ' i=some (b,bs)→ρ' j=some (b,bs')→i=j):Sim X w' H' ρ' where
 xlt b hb:=Nat.lt_of_lt_of_le (hs.xlt b hb) he.size
 obs i o hi:=by
  rcases hob i o hi with ⟨h1,h2⟩ | h
  ·exact ObOk.keep hs he h1 hi h2
  ·exact h
 inj:=hinj
 globs:=hs.globs.evo he
theorem Evo.world {w w':World}{H:List Ob}{ρ:Pl} (h1:w'.os=w.os) (h2:w'.tape=w.tape) (h3:w'.output=w.output) (h4:w.heap.size≤w'.heap.size)
  (h5:∀ b,b<w.heap.size→w'.heap[b]?=w.heap[b]?):Evo H.length w H ρ w' H ρ where
 os:=h1
 tape:=h2
 output:=h3
 size:=h4
 block b hb _:=h5 b hb
 shape b C hC:=by
  have hlt:=hC.lt
  obtain ⟨T,fr,e⟩:=hC
  exact ⟨C,⟨T,fr,(h5 b hlt).trans e⟩,rfl⟩
 live b hb:=.inl hb
 len:=Nat.le_refl _
 len':=Nat.le_refl _
 alive i hi ha:=⟨ha,rfl⟩
theorem Sim.world [Gl] {X:Nat→Prop}{w w':World}{H:List Ob}{ρ:Pl} (hs:Sim X w H ρ) (h1:w'.os=w.os) (h2:w'.tape=w.tape) (h3:w'.output=w.output) (h4:w.heap.size≤w'.heap.size)
  (h5:∀ b,b<w.heap.size→w'.heap[b]?=w.heap[b]?):Sim X w' H ρ :=
 hs.step (Evo.world h1 h2 h3 h4 h5) (fun i o hi=>.inl ⟨hi,fun b bs e ho=>h5 b (hs.live_lt ⟨i,o,bs,hi,ho,e⟩)⟩) hs.inj
theorem zjx (w:World) (o:Obj) (b:Nat) (hb:b<w.heap.size):({ w with heap:=w.heap.push o }:World).heap[b]?=w.heap[b]?:=by
 show (w.heap.push o)[b]?=_
 rw [Array.getElem?_push,if_neg (by omega)]
theorem zke (w:World) (o:Obj):({ w with heap:=w.heap.push o }:World).heap[w.heap.size]?=some o:=by
 show (w.heap.push o)[w.heap.size]?=_
 simp
theorem Evo.push (w:World) (o:Obj) (H:List Ob) (ρ:Pl):Evo H.length w H ρ { w with heap:=w.heap.push o } H ρ :=
 Evo.world rfl rfl rfl (by simp) (fun b hb=>zjx w o b hb)
theorem Sim.push [Gl] {X:Nat→Prop}{w:World}{H:List Ob}{ρ:Pl} (hs:Sim X w H ρ) (o:Obj):Sim X { w with heap:=w.heap.push o } H ρ :=
 hs.world rfl rfl rfl (by simp) (fun b hb=>zjx w o b hb)
theorem Evo.drew (w:World) (H:List Ob) (ρ:Pl):Evo H.length w H ρ { w with drawn:=w.drawn+1 } H ρ :=
 Evo.world rfl rfl rfl (Nat.le_refl _) (fun _ _=>rfl)
theorem Sim.drew [Gl] {X:Nat→Prop}{w:World}{H:List Ob}{ρ:Pl} (hs:Sim X w H ρ):Sim X { w with drawn:=w.drawn+1 } H ρ :=
 hs.world rfl rfl rfl (Nat.le_refl _) (fun _ _=>rfl)
theorem zpm {H:List Ob}{o:Ob}{i:Nat} (h:i<H.length):(H++[o])[i]?=H[i]?:=by
 rw [List.getElem?_append_left h]
theorem zgc {H:List Ob}{o x:Ob}{i:Nat} (h:(H++[o])[i]?=some x):(i<H.length∧H[i]?=some x)∨(i=H.length∧x=o):=by
 by_cases hi:i<H.length
 ·rw [List.getElem?_append_left hi] at h;exact .inl ⟨hi,h⟩
 ·rw [List.getElem?_append_right (by omega)] at h
  have h':i - H.length=0:=by
   rcases Nat.eq_zero_or_pos (i - H.length) with h0 | h0
   ·exact h0
   ·rw [List.getElem?_eq_none (by simp;omega)] at h;cases h
  rw [h'] at h
  simp at h
  exact .inr ⟨by omega,h.symm⟩
theorem Evo.addOb {w w':World}{H:List Ob}{ρ:Pl}{o:Ob}{pl:Option (Nat×Nat)} (h1:w'.os=w.os) (h2:w'.tape=w.tape) (h3:w'.output=w.output) (h4:w.heap.size≤w'.heap.size)
  (h5:∀ b,b<w.heap.size→w'.heap[b]?=w.heap[b]?) (hpl:∀ b bs,pl=some (b,bs)→o.live=true→w.heap.size≤b):Evo H.length w H ρ w' (H++[o]) (updPl ρ H.length pl) where
 os:=h1
 tape:=h2
 output:=h3
 size:=h4
 block b hb _:=h5 b hb
 shape b C hC:=by
  have hlt:=hC.lt
  obtain ⟨T,fr,e⟩:=hC
  exact ⟨C,⟨T,fr,(h5 b hlt).trans e⟩,rfl⟩
 live b hb:=by
  obtain ⟨i,x,bs,hi,hx,e⟩:=hb
  rcases zgc hi with ⟨hlt,h⟩ | ⟨rfl,rfl⟩
  ·rw [zie (by omega)] at e
   exact .inl ⟨i,x,bs,h,hx,e⟩
  ·rw [zdm] at e
   exact .inr (hpl b bs e hx)
 len:=Nat.le_refl _
 len':=by simp
 alive i hi ha:=by
  obtain ⟨x,h,hx⟩:=ha
  rw [zpm hi] at h
  exact ⟨⟨x,h,hx⟩,zie (by omega)⟩
theorem Sim.addOb [Gl] {X:Nat→Prop}{w w':World}{H:List Ob}{ρ:Pl}{o:Ob}{pl:Option (Nat×Nat)} (hs:Sim X w H ρ) (h1:w'.os=w.os) (h2:w'.tape=w.tape) (h3:w'.output=w.output) (h4:w.heap.size≤w'.heap.size)
  (h5:∀ b,b<w.heap.size→w'.heap[b]?=w.heap[b]?) (hpl:∀ b bs,pl=some (b,bs)→o.live=true→w.heap.size≤b)
  (hob:ObOk w' X (H++[o]) (updPl ρ H.length pl) H.length o):Sim X w' (H++[o]) (updPl ρ H.length pl):=by
 refine hs.step (Evo.addOb h1 h2 h3 h4 h5 hpl) (fun i x hi=>?_) (fun i j x y b bs bs' hi hj hx hy ei ej=>?_)
 ·rcases zgc hi with ⟨hlt,h⟩ | ⟨rfl,rfl⟩
  ·exact .inl ⟨h,fun b bs e ho=>h5 b (hs.live_lt ⟨i,x,bs,h,ho,e⟩)⟩
  ·exact .inr hob
 ·rcases zgc hi with ⟨hlt,h⟩ | ⟨rfl,rfl⟩<;>rcases zgc hj with ⟨hlt',h'⟩ | ⟨rfl,rfl⟩
  ·rw [zie (by omega)] at ei ej
   exact hs.inj i j x y b bs bs' h h' hx hy ei ej
  ·rw [zie (by omega)] at ei
   rw [zdm] at ej
   have:=hs.live_lt ⟨i,x,bs,h,hx,ei⟩
   have:=hpl b bs' ej hy
   omega
  ·rw [zie (by omega)] at ej
   rw [zdm] at ei
   have:=hs.live_lt ⟨j,y,bs',h',hy,ej⟩
   have:=hpl b bs ei hx
   omega
  ·rfl
theorem z30 [Gl] {X:Nat→Prop}{w:World}{H:List Ob}{ρ:Pl} (hs:Sim X w H ρ) (C:Array Value) (T:TypeId) (cs:List Pv) (hc:CellsP w (Mut X H ρ) C 0 cs) :
  Evo H.length w H ρ { w with heap:=w.heap.push (.cells C T) } (H++[.arr cs]) (updPl ρ H.length (some (w.heap.size,0))) ∧
  Sim X { w with heap:=w.heap.push (.cells C T) } (H++[.arr cs]) (updPl ρ H.length (some (w.heap.size,0))):=by
 have he:Evo H.length w H ρ { w with heap:=w.heap.push (.cells C T) } (H++[.arr cs]) (updPl ρ H.length (some (w.heap.size,0))) :=
  Evo.addOb rfl rfl rfl (by simp) (fun b hb=>zjx w _ b hb) (fun b bs e _=>by simp at e;omega)
 refine ⟨he,hs.addOb rfl rfl rfl (by simp) (fun b hb=>zjx w _ b hb) (fun b bs e _=>by simp at e;omega) ?_⟩
 refine .inr ⟨w.heap.size,0,C,zdm ..,fun hx=>?_,⟨T,zke w _⟩,hc.evo he⟩
 have:=hs.xlt _ hx
 omega
theorem zr9 [Gl] {X:Nat→Prop}{w:World}{H:List Ob}{ρ:Pl} (hs:Sim X w H ρ) (C:Array Value) (T:TypeId) (ds:List Dv) (hc:CellsD w (Mut X H ρ) H ρ C 0 ds) :
  Evo H.length w H ρ { w with heap:=w.heap.push (.cells C T) } (H++[.var ds]) (updPl ρ H.length (some (w.heap.size,0))) ∧
  Sim X { w with heap:=w.heap.push (.cells C T) } (H++[.var ds]) (updPl ρ H.length (some (w.heap.size,0))):=by
 have he:Evo H.length w H ρ { w with heap:=w.heap.push (.cells C T) } (H++[.var ds]) (updPl ρ H.length (some (w.heap.size,0))) :=
  Evo.addOb rfl rfl rfl (by simp) (fun b hb=>zjx w _ b hb) (fun b bs e _=>by simp at e;omega)
 refine ⟨he,hs.addOb rfl rfl rfl (by simp) (fun b hb=>zjx w _ b hb) (fun b bs e _=>by simp at e;omega) ?_⟩
 refine ⟨w.heap.size,0,C,zdm ..,fun hx=>?_,⟨T,zke w _⟩,hc.evo he⟩
 have:=hs.xlt _ hx
 omega
theorem zli [Gl] {X:Nat→Prop}{w:World}{H:List Ob}{ρ:Pl} (hs:Sim X w H ρ) :
  Evo H.length w H ρ w (H++[.arr []]) (updPl ρ H.length none)∧Sim X w (H++[.arr []]) (updPl ρ H.length none):=by
 refine ⟨Evo.addOb rfl rfl rfl (Nat.le_refl _) (fun _ _=>rfl) (fun b bs e _=>by simp at e),hs.addOb rfl rfl rfl (Nat.le_refl _) (fun _ _=>rfl) (fun b bs e _=>by simp at e) ?_⟩
 exact .inl ⟨rfl,zdm ..⟩
theorem ze5 {H:List Ob}{k i:Nat}{o x:Ob} (h:(H.set k o)[i]?=some x):(i≠k∧H[i]?=some x)∨(i=k∧x=o∧k<H.length):=by
 by_cases hi:k=i
 ·subst hi
  rw [List.getElem?_set_self'] at h
  cases hk:H[k]? with
  | none=>rw [hk] at h;cases h
  | some y =>
   rw [hk] at h
   simp at h
   exact .inr ⟨rfl,h.symm,(List.getElem?_eq_some_iff.1 hk).1⟩
 ·rw [List.getElem?_set_ne hi] at h
  exact .inl ⟨fun e=>hi e.symm,h⟩
theorem Evo.setOb {w w':World}{H:List Ob}{ρ:Pl}{k:Nat}{o:Ob} (h1:w'.os=w.os) (h2:w'.tape=w.tape) (h3:w'.output=w.output) (h4:w'.heap.size=w.heap.size)
  (h5:∀ b,¬ (∃ x bs,H[k]?=some x∧x.live=true∧ρ k=some (b,bs))→w'.heap[b]?=w.heap[b]?) (h6:∀ b C,Blk w b C→∃ C',Blk w' b C'∧C'.size=C.size)
  (hl:o.live=true→∃ x,H[k]?=some x∧x.live=true) (ha:o.alive=true→Alive H k):Evo H.length w H ρ w' (H.set k o) ρ where
 os:=h1
 tape:=h2
 output:=h3
 size:=by omega
 block b hb hn:=h5 b fun ⟨x,bs,hx,hxl,e⟩=>hn ⟨k,x,bs,hx,hxl,e⟩
 shape:=h6
 live b hb:=by
  obtain ⟨i,x,bs,hi,hx,e⟩:=hb
  rcases ze5 hi with ⟨hne,h⟩ | ⟨rfl,rfl,hk⟩
  ·exact .inl ⟨i,x,bs,h,hx,e⟩
  ·obtain ⟨y,hy,hyl⟩:=hl hx
   exact .inl ⟨i,y,bs,hy,hyl,e⟩
 len:=Nat.le_refl _
 len':=by simp
 alive i hi ha':=by
  obtain ⟨x,h,hx⟩:=ha'
  rcases ze5 h with ⟨hne,h⟩ | ⟨rfl,rfl,hk⟩
  ·exact ⟨⟨x,h,hx⟩,rfl⟩
  ·exact ⟨ha hx,rfl⟩
theorem Sim.setOb [Gl] {X:Nat→Prop}{w w':World}{H:List Ob}{ρ:Pl}{k:Nat}{o:Ob} (hs:Sim X w H ρ) (h1:w'.os=w.os) (h2:w'.tape=w.tape) (h3:w'.output=w.output) (h4:w'.heap.size=w.heap.size)
  (h5:∀ b,¬ (∃ x bs,H[k]?=some x∧x.live=true∧ρ k=some (b,bs))→w'.heap[b]?=w.heap[b]?) (h6:∀ b C,Blk w b C→∃ C',Blk w' b C'∧C'.size=C.size)
  (hl:o.live=true→∃ x,H[k]?=some x∧x.live=true) (ha:o.alive=true→Alive H k) (hob:k<H.length→ObOk w' X (H.set k o) ρ k o):Sim X w' (H.set k o) ρ:=by
 refine hs.step (Evo.setOb h1 h2 h3 h4 h5 h6 hl ha) (fun i x hi=>?_) (fun i j x y b bs bs' hi hj hx hy ei ej=>?_)
 ·rcases ze5 hi with ⟨hne,h⟩ | ⟨rfl,rfl,hk⟩
  ·refine .inl ⟨h,fun b bs e ho=>h5 b fun ⟨y,bs',hy,hyl,e'⟩=>hne ?_⟩
   exact hs.inj i k x y b bs bs' h hy ho hyl e e'
  ·exact .inr (hob hk)
 ·rcases ze5 hi with ⟨hne,h⟩ | ⟨rfl,rfl,hk⟩<;>rcases ze5 hj with ⟨hne',h'⟩ | ⟨rfl,rfl,hk'⟩
  ·exact hs.inj i j x y b bs bs' h h' hx hy ei ej
  ·obtain ⟨z,hz,hzl⟩:=hl hy
   exact hs.inj i j x z b bs bs' h hz hx hzl ei ej
  ·obtain ⟨z,hz,hzl⟩:=hl hx
   exact hs.inj i j z y b bs bs' hz h' hzl hy ei ej
  ·rfl
theorem zr6 [Gl] {X:Nat→Prop}{w:World}{H:List Ob}{ρ:Pl} (hs:Sim X w H ρ) (k:Nat):Evo H.length w H ρ w (H.set k .dead) ρ∧Sim X w (H.set k .dead) ρ :=
  ⟨Evo.setOb rfl rfl rfl rfl (fun _ _=>rfl) (fun b C h=>⟨C,h,rfl⟩) (fun h=>by cases h) (fun h=>by cases h),
   hs.setOb rfl rfl rfl rfl (fun _ _=>rfl) (fun b C h=>⟨C,h,rfl⟩) (fun h=>by cases h) (fun h=>by cases h) (fun _=>trivial)⟩
theorem zzy [Gl] {X:Nat→Prop}{w:World}{H:List Ob}{ρ:Pl} (hs:Sim X w H ρ) (k:Nat) (cs:List Pv) (hk:H[k]?=some (.arr cs)):Evo H.length w H ρ w (H.set k (.frz cs)) ρ∧Sim X w (H.set k (.frz cs)) ρ:=by
 have he:Evo H.length w H ρ w (H.set k (.frz cs)) ρ:=Evo.setOb rfl rfl rfl rfl (fun _ _=>rfl) (fun b C h=>⟨C,h,rfl⟩) (fun h=>by cases h) (fun _=>⟨_,hk,rfl⟩)
 refine ⟨he,hs.setOb rfl rfl rfl rfl (fun _ _=>rfl) (fun b C h=>⟨C,h,rfl⟩) (fun h=>by cases h) (fun _=>⟨_,hk,rfl⟩) (fun hlt=>?_)⟩
 rcases hs.obs k _ hk with ⟨h0,e⟩ | ⟨b,bs,C,e,hx,hC,hcs⟩
 ·exact .inl ⟨h0,e⟩
 ·refine .inr ⟨b,bs,C,e,fun hm=>?_,hC.blk,hcs.evo he⟩
  rcases hm with hm | ⟨i,x,bs',hi,hxl,e'⟩
  ·exact hx hm
  ·rcases ze5 hi with ⟨hne,h⟩ | ⟨rfl,rfl,_⟩
   ·exact hne (hs.inj i k x _ b bs' bs h hk hxl rfl e' e)
   ·cases hxl
theorem zin:∀ {ds:List Dv}{cs:List Pv},allP ds=some cs→ds=cs.map .p
 | [],cs,h=>by simp [allP] at h;subst h;rfl
 | .p x :: ds,cs,h=>by
  simp only [allP,Option.map_eq_some_iff] at h
  obtain ⟨xs,h1,rfl⟩:=h
  rw [zin h1];rfl
 | .junk :: _,_,h=>by simp [allP] at h
 | .ref .. :: _,_,h=>by simp [allP] at h
 | .ptr .. :: _,_,h=>by simp [allP] at h
 | .agg .. :: _,_,h=>by simp [allP] at h
 | .tup .. :: _,_,h=>by simp [allP] at h
 | .fn .. :: _,_,h=>by simp [allP] at h
 | .mp .. :: _,_,h=>by simp [allP] at h
 | .ifc .. :: _,_,h=>by simp [allP] at h
theorem RepD.toP {w:World}{M:Nat→Prop}{H:List Ob}{ρ:Pl}{x:Value}{y:Pv} (h:RepD w M H ρ x (.p y)):RepP w M x y:=by
 cases h with
 | p x y h=>exact h
theorem CellsD.pure {w:World}{M:Nat→Prop}{H:List Ob}{ρ:Pl}{C:Array Value}{bs:Nat}{cs:List Pv} (h:CellsD w M H ρ C bs (cs.map .p)):CellsP w M C bs cs:=by
 obtain ⟨h1,h2⟩:=h
 refine ⟨by simpa using h1,fun j hj=>?_⟩
 have:=h2 j (by simpa using hj)
 refine ⟨this.1, ?_⟩
 have h3:=this.2
 simp only [List.getElem_map] at h3
 exact h3.toP
theorem CellsP.dyn {w:World}{M:Nat→Prop}{H:List Ob}{ρ:Pl}{C:Array Value}{bs:Nat}{cs:List Pv} (h:CellsP w M C bs cs):CellsD w M H ρ C bs (cs.map .p):=by
 obtain ⟨h1,h2⟩:=h
 refine ⟨by simpa using h1,fun j hj=>?_⟩
 have:=h2 j (by simpa using hj)
 exact ⟨this.1,by simp only [List.getElem_map];exact .p _ _ this.2⟩
theorem zzi [Gl] {X:Nat→Prop}{w:World}{H:List Ob}{ρ:Pl} (hs:Sim X w H ρ) (k:Nat) (cs:List Pv) (hk:H[k]?=some (.var (cs.map .p))):Evo H.length w H ρ w (H.set k (.frz cs)) ρ∧Sim X w (H.set k (.frz cs)) ρ:=by
 have he:Evo H.length w H ρ w (H.set k (.frz cs)) ρ:=Evo.setOb rfl rfl rfl rfl (fun _ _=>rfl) (fun b C h=>⟨C,h,rfl⟩) (fun h=>by cases h) (fun _=>⟨_,hk,rfl⟩)
 refine ⟨he,hs.setOb rfl rfl rfl rfl (fun _ _=>rfl) (fun b C h=>⟨C,h,rfl⟩) (fun h=>by cases h) (fun _=>⟨_,hk,rfl⟩) (fun hlt=>?_)⟩
 obtain ⟨b,bs,C,e,hx,hC,hcs⟩:=hs.obs k _ hk
 refine .inr ⟨b,bs,C,e,fun hm=>?_,hC.blk,hcs.pure.evo he⟩
 rcases hm with hm | ⟨i,x,bs',hi,hxl,e'⟩
 ·exact hx hm
 ·rcases ze5 hi with ⟨hne,h⟩ | ⟨rfl,rfl,_⟩
  ·exact hne (hs.inj i k x _ b bs' bs h hk hxl rfl e' e)
  ·cases hxl
theorem zzf [Gl] {X:Nat→Prop}{w:World}{H:List Ob}{ρ:Pl} (hs:Sim X w H ρ) (k:Nat) {o:Ob} (hk:H[k]?=some o):Evo H.length w H ρ w (H.set k (frzOb o)) ρ∧Sim X w (H.set k (frzOb o)) ρ:=by
 have same:∀ {x:Ob},H[k]?=some x→H.set k x=H:=by
  intro x hx
  apply List.ext_getElem?
  intro i
  by_cases hi:k=i
  ·subst hi;rw [List.getElem?_set_self',hx];rfl
  ·rw [List.getElem?_set_ne hi]
 cases o with
 | arr cs=>exact zzy hs k cs hk
 | var ds =>
  simp only [frzOb]
  cases h:allP ds with
  | none=>exact zr6 hs k
  | some cs=>rw [zin h] at hk;exact zzi hs k cs hk
 | dead=>simp only [frzOb];rw [same hk];exact ⟨Evo.refl ..,hs⟩
 | frz cs=>simp only [frzOb];rw [same hk];exact ⟨Evo.refl ..,hs⟩
 | ro ds=>simp only [frzOb];rw [same hk];exact ⟨Evo.refl ..,hs⟩
 | roa cs=>simp only [frzOb];rw [same hk];exact ⟨Evo.refl ..,hs⟩
 | mp es=>simp only [frzOb];rw [same hk];exact ⟨Evo.refl ..,hs⟩
 | rmp es=>simp only [frzOb];rw [same hk];exact ⟨Evo.refl ..,hs⟩
theorem zcs (H:List Ob) (l:List Nat):(zan H l).length=H.length:=by
 induction l generalizing H with
 | nil=>rfl
 | cons i l ih =>
  simp only [zan]
  rw [ih]
  unfold frzAt
  split<;>simp
theorem zgf [Gl] {X:Nat→Prop}{w:World}{ρ:Pl}:∀ (l:List Nat) {H:List Ob},Sim X w H ρ→Evo H.length w H ρ w (zan H l) ρ∧Sim X w (zan H l) ρ
 | [],H,hs=>⟨Evo.refl ..,hs⟩
 | i :: l,H,hs=>by
  simp only [zan,frzAt]
  cases hi:H[i]? with
  | none=>exact zgf l hs
  | some o =>
   simp only []
   obtain ⟨h1,h2⟩:=zzf hs i hi
   obtain ⟨h3,h4⟩:=zgf l h2
   refine ⟨h1.trans ?_,h4⟩
   rw [List.length_set] at h3
   exact h3
end Go.Ev

set_option linter.unusedVariables false
set_option linter.unusedSimpArgs false
namespace Go.Ev
theorem zbp {P:Program}{α:Type}:∀ {s:Sem α}{a:α} (w:World),zaq P s=some a→s.run P w=.ok a w
 | .pure _,_,w,h=>by simp only [zaq,Option.some.injEq] at h;subst h;rfl
 | .program k,_,w,h=>by
  simp only [zaq] at h
  simp only [Sem.run]
  exact zbp w h
 | .mark _ k,_,w,h=>by
  simp only [zaq] at h
  simp only [Sem.run]
  exact zbp w h
 | .load ..,_,_,h=>by simp [zaq] at h
 | .store ..,_,_,h=>by simp [zaq] at h
 | .new ..,_,_,h=>by simp [zaq] at h
 | .shape ..,_,_,h=>by simp [zaq] at h
 | .freeze ..,_,_,h=>by simp [zaq] at h
 | .frozen ..,_,_,h=>by simp [zaq] at h
 | .getObj ..,_,_,h=>by simp [zaq] at h
 | .setObj ..,_,_,h=>by simp [zaq] at h
 | .choose ..,_,_,h=>by simp [zaq] at h
 | .sys ..,_,_,h=>by simp [zaq] at h
 | .halt _,_,_,h=>by simp [zaq] at h
section
variable {X M : Nat → Prop} {w : World} {H : List Ob} {ρ : Pl}
theorem zuf (x:Value):RepP w M x (zyv x):=by
 unfold zyv
 split
 ·exact .lst true 0 [] none 0 (fun _=>undef) (Nat.le_refl _) (fun _=>rfl) (fun h=>absurd rfl h) (fun j hj=>absurd hj (by simp)) (fun j hj=>absurd hj (by simp))
 ·exact .v _
theorem zs4 (x:Value):RepP w M x (ofVal x):=by
 unfold ofVal
 split
 ·rename_i cs
  split
  ·rename_i h
   refine .agg cs _ (by simp) (fun j hj=>?_) (fun j hj=>?_)
   ·simp only [List.length_map,Array.length_toList] at hj
    have:=List.all_eq_true.1 h (cs.getD j undef) (by simp [hj])
    exact this
   ·simp only [List.length_map,Array.length_toList] at hj
    simp only [List.getElem_map,Array.getElem_toList]
    have:cs.getD j undef=cs[j]:=by simp [hj]
    rw [this]
    exact zuf _
  ·exact .v _
 ·exact zuf _
def TOk (w:World) (M:Nat→Prop) (H:List Ob) (ρ:Pl) (vs:Array Value) (ds:List Dv):Prop :=
 vs.size=ds.length∧∀ j (h:j<ds.length),RepD w M H ρ (vs.getD j undef) ds[j]
def COk (w:World) (M:Nat→Prop) (H:List Ob) (ρ:Pl) (vs:Array Value) (ds:List Dv):Prop :=
 vs.size=ds.length∧∀ j (h:j<ds.length),(vs.getD j undef).oneCell'=true∧RepD w M H ρ (vs.getD j undef) ds[j]
theorem TOk.get {vs:Array Value}{ds:List Dv} (h:TOk w M H ρ vs ds) (t:Nat):RepD w M H ρ (vs.getD t undef) (ds.getD t .junk):=by
 by_cases ht:t<ds.length
 ·have:=h.2 t ht
  simpa [List.getD,ht] using this
 ·have:ds.getD t .junk=.junk:=by simp [List.getD,Nat.le_of_not_lt ht]
  rw [this];exact .junk _
theorem zox [Gl] {a:Act}{tm:List Dv} (hg:GlobOk w M) (h:TOk w M H ρ a.tmps tm) (x:Operand):RepD w M H ρ (a.eval x) (evalO tm x):=by
 cases x with
 | tmp t=>exact h.get t
 | const v=>exact .p _ _ (zs4 v)
 | global g =>
  simp only [evalO,Act.eval]
  cases hgl:Gl.glob g with
  | none=>exact .junk _
  | some cells=>exact .p _ _ (hg g cells hgl)
 | func f=>exact .p _ _ (.fn (.func f) #[] [] rfl (fun j hj=>absurd hj (by simp)))
theorem zr1 [Gl] {X:Nat→Prop}{a:Act}{tm:List Dv} (hs:Sim X w H ρ) (h:TOk w (Mut X H ρ) H ρ a.tmps tm) (x:Operand):RepD w (Mut X H ρ) H ρ (a.eval x) (evalO tm x):=zox hs.globs h x
theorem TOk.put {a:Act}{tm:List Dv} (h:TOk w M H ρ a.tmps tm) {v:Value}{d:Dv} (hv:RepD w M H ρ v d) (dst:Option Tmp):TOk w M H ρ (a.put dst v).tmps (putD tm dst d):=by
 cases dst with
 | none=>exact h
 | some t =>
  refine ⟨by simp [Act.put,putD,h.1],fun j hj=>?_⟩
  simp only [Act.put,putD,List.length_set] at hj ⊢
  have hj':j<a.tmps.size:=by rw [h.1];exact hj
  by_cases ht:t=j
  ·subst ht
   have e1:(a.tmps.setIfInBounds t v).getD t undef=v:=by simp [hj']
   have e2:(tm.set t d)[t]'(by simpa using hj)=d:=by simp
   rw [e1,e2];exact hv
  ·have e1:(a.tmps.setIfInBounds t v).getD j undef=a.tmps.getD j undef:=by simp [hj',Array.getElem_setIfInBounds,ht]
   have e2:(tm.set t d)[j]'(by simpa using hj)=tm[j]:=by simp [List.getElem_set,ht]
   rw [e1,e2];exact h.2 j hj
theorem TOk.evo {X:Nat→Prop}{w':World}{H':List Ob}{ρ':Pl} (he:Evo H.length w H ρ w' H' ρ') {vs:Array Value}{ds:List Dv} (h:TOk w (Mut X H ρ) H ρ vs ds):TOk w' (Mut X H' ρ') H' ρ' vs ds :=
 ⟨h.1,fun j hj=>(h.2 j hj).evo he⟩
theorem zlr (a:Act) (dst:Option Tmp) (v:Value):(a.put dst v).defers=a.defers:=by cases dst<;>rfl
theorem zq3:∀ {cs:List Pv}{l:List Value},concs cs=some l→cs=l.map .v
 | [],l,h=>by simp [concs] at h;subst h;rfl
 | .v x :: cs,l,h=>by
  simp only [concs,Option.map_eq_some_iff] at h
  obtain ⟨xs,h1,rfl⟩:=h
  rw [zq3 h1];rfl
 | .lst .. :: _,_,h=>by simp [concs] at h
 | .agg .. :: _,_,h=>by simp [concs] at h
 | .tup .. :: _,_,h=>by simp [concs] at h
 | .iptr .. :: _,_,h=>by simp [concs] at h
 | .fn .. :: _,_,h=>by simp [concs] at h
theorem RepP.v_eq {x y:Value} (h:RepP w M x (.v y)):x=y:=by cases h;rfl
theorem yc4 {x:Value}{y:Pv} (h:RepP w M x y) {u:Value} (hc:conc y=some u):x=u:=by
 cases h with
 | v x=>simpa [conc] using hc
 | agg vs cs hl h1 hr =>
  simp only [conc,Option.map_eq_some_iff] at hc
  obtain ⟨l,h2,rfl⟩:=hc
  have:=zq3 h2
  subst this
  congr 1
  apply Array.ext
  ·simp [hl]
  ·intro i hi hi'
   have hi2:i<(l.map Pv.v).length:=by simpa using hi'
   have:=hr i hi2
   simp only [List.getElem_map] at this
   have:=this.v_eq
   simpa [hi] using this
 | lst=>simp [conc] at hc
 | tup=>simp [conc] at hc
 | iptr=>simp [conc] at hc
 | fn=>simp [conc] at hc
theorem zha {x:Value}{d:Dv} (h:RepD w M H ρ x d) {u:Value} (hc:concD d=some u):x=u:=by
 cases h with
 | p x y h=>exact yc4 h hc
 | _=>simp [concD] at hc
theorem zpx {x:Value}{d:Dv} (h:RepD w M H ρ x d) {n:Int} (hc:intD d=some n):∃ k,x=.int k n:=by
 unfold intD at hc
 split at hc
 ·rename_i k m
  simp at hc;subst hc
  exact ⟨k,h.toP.v_eq⟩
 ·cases hc
theorem zya {x:Value}{d:Dv} (h:RepD w M H ρ x d) {b:Bool} (hc:boolD d=some b):x=.bool b:=by
 unfold boolD at hc
 split at hc
 ·simp at hc;subst hc
  exact h.toP.v_eq
 ·cases hc
theorem RepD.mkAgg {vs:Array Value}{ds:List Dv} (h:COk w M H ρ vs ds):RepD w M H ρ (.agg vs) (mkAgg ds):=by
 unfold Ev.mkAgg
 split
 ·rename_i cs hcs
  have:=zin hcs
  subst this
  refine .p _ _ (.agg vs cs (by simpa using h.1) (fun j hj=>(h.2 j (by simpa using hj)).1) (fun j hj=>?_))
  have h2:=(h.2 j (by simpa using hj)).2
  simp only [List.getElem_map] at h2
  exact h2.toP
 ·exact .agg vs ds h.1 (fun j hj=>(h.2 j hj).1) (fun j hj=>(h.2 j hj).2)
theorem RepD.mkTup {vs:Array Value}{ds:List Dv} (h:TOk w M H ρ vs ds):RepD w M H ρ (.tuple vs) (mkTup ds):=by
 unfold Ev.mkTup
 split
 ·rename_i cs hcs
  have:=zin hcs
  subst this
  refine .p _ _ (.tup vs cs (by simpa using h.1) (fun j hj=>?_))
  have h2:=h.2 j (by simpa using hj)
  simp only [List.getElem_map] at h2
  exact h2.toP
 ·exact .tup vs ds h.1 h.2
theorem RepD.mkFn {f:Fn}{vs:Array Value}{ds:List Dv} (h:TOk w M H ρ vs ds):RepD w M H ρ (.func f #[] vs) (mkFn f ds):=by
 unfold Ev.mkFn
 split
 ·rename_i cs hcs
  have:=zin hcs
  subst this
  refine .p _ _ (.fn f vs cs (by simpa using h.1) (fun j hj=>?_))
  have h2:=h.2 j (by simpa using hj)
  simp only [List.getElem_map] at h2
  exact h2.toP
 ·exact .fn f vs ds h.1 h.2
theorem COk.one {v:Value}{d:Dv} (h1:v.oneCell'=true) (h:RepD w M H ρ v d):COk w M H ρ v.cells [d]:=by
 have e:v.cells=#[v]:=by cases v<;>simp_all [Value.cells,Value.oneCell']
 rw [e]
 refine ⟨rfl,fun j hj=>?_⟩
 simp only [List.length_cons,List.length_nil] at hj
 obtain rfl:j=0:=by omega
 exact ⟨h1,h⟩
theorem zky {v:Value}{d:Dv} (h:RepD w M H ρ v d) {ds:List Dv} (hc:cellsD d=some ds):COk w M H ρ v.cells ds:=by
 unfold cellsD at hc
 split at hc
 ·rename_i cs
  simp only [Option.some.injEq] at hc
  subst hc
  cases h.toP with
  | agg vs cs hl h1 hr =>
   refine ⟨by simpa [Value.cells] using hl,fun j hj=>?_⟩
   simp only [List.length_map] at hj
   simp only [Value.cells,List.getElem_map]
   exact ⟨h1 j hj,.p _ _ (hr j hj)⟩
 ·cases hc
 ·cases hc
 ·cases hc
 ·rename_i x hx1 hx2 hx3 hx4
  simp only [Option.some.injEq] at hc
  subst hc
  refine COk.one ?_ h
  have hp:=h.toP
  cases hp with
  | v x=>cases v<;>simp_all [Value.oneCell']
  | lst=>rfl
  | agg vs cs=>exact absurd rfl (hx1 cs)
  | tup vs cs=>exact absurd rfl (hx2 cs)
  | iptr=>rfl
  | fn=>rfl
 ·rename_i es
  simp only [Option.some.injEq] at hc
  subst hc
  cases h with
  | agg vs cs hl h1 hr=>exact ⟨hl,fun j hj=>⟨h1 j hj,hr j hj⟩⟩
 ·cases hc
 ·cases hc
 ·rename_i hx1 hx2 hx3 hx4
  simp only [Option.some.injEq] at hc
  subst hc
  refine COk.one ?_ h
  cases h<;>simp_all [Value.oneCell']
theorem z2t {v:Value}{y:Pv} (h:RepP w M v y) {cs:List Pv} (hc:cellsP y=some cs):COk w M H ρ v.cells (cs.map .p):=by
 refine zky (.p v y h) ?_
 unfold cellsP at hc
 unfold cellsD
 split at hc<;>simp_all
 subst hc;rfl
theorem COk.cellsD {vs:Array Value}{ds:List Dv} (h:COk w M H ρ vs ds):CellsD w M H ρ vs 0 ds:=by
 refine ⟨by simp [h.1],fun j hj=>?_⟩
 simpa using h.2 j hj
theorem COk.sub {C:Array Value}{bs:Nat}{ds:List Dv} (h:CellsD w M H ρ C bs ds) (off n:Nat) (hn:off+n≤ds.length) :
  COk w M H ρ (C.extract (bs+off) (bs+off+n)) ((ds.drop off).take n):=by
 have h1:=h.1
 refine ⟨by simp;omega,fun j hj=>?_⟩
 have hj:j<n:=by simp only [List.length_take,List.length_drop] at hj;omega
 have h2:=h.2 (off+j) (by omega)
 have e1:(C.extract (bs+off) (bs+off+n)).getD j undef=C.getD (bs+(off+j)) undef:=by
  rw [Array.getD_eq_getD_getElem?,Array.getD_eq_getD_getElem?,Array.getElem?_extract,if_pos (by omega),Nat.add_assoc]
 rw [e1]
 simpa using h2
structure Fin [Gl] (X:Nat→Prop) (w:World) (H:List Ob) (ρ:Pl) (w':World) (H':List Ob) (ρ':Pl) (v:Value) (d:Dv):Prop where
 evo:Evo H.length w H ρ w' H' ρ'
 sim:Sim X w' H' ρ'
 rep:RepD w' (Mut X H' ρ') H' ρ' v d
def OpOk [Gl] (P:Program) (X:Nat→Prop) (w:World) (H:List Ob) (ρ:Pl) (r:Result Next) (d:Dv) (H':List Ob):Prop :=
 (∃ v w' ρ',(r=.ok (.value v) w'∨(r=.ok .skip w'∧v=undef))∧Fin X w H ρ w' H' ρ' v d) ∨
 (∃ f args,r=.ok (.enter f args) w∧Calls P f args w fun e w'=>∃ v ρ',e=.returned v∧Fin X w H ρ w' H' ρ' v d)
theorem OpOk.wp [Gl] {P:Program}{o:Oper}{a:Act}{next:Act→World→Prop}{Q:Exit→Act→World→Prop}{d:Dv}{H':List Ob} (h:OpOk P X w H ρ ((execOp a.eval o).run P w) d H')
  (hn:∀ v w' ρ',Fin X w H ρ w' H' ρ' v d→next (a.put o.dst v) w'):o.wp P a w next Q:=by
 unfold Oper.wp
 rcases h with ⟨v,w',ρ',h1,h2⟩ | ⟨f,args,h1,h2⟩
 ·rcases h1 with h1 | ⟨h1,rfl⟩
  ·rw [h1];exact hn _ _ _ h2
  ·rw [h1];exact hn _ _ _ h2
 ·rw [h1]
  refine h2.mono fun e w' ⟨v,ρ',he,hf⟩=>?_
  subst he
  exact hn _ _ _ hf
theorem OpOk.same [Gl] {P:Program}{r:Result Next}{v:Value}{d:Dv} (hs:Sim X w H ρ) (hr:r=.ok (.value v) w) (hv:RepD w (Mut X H ρ) H ρ v d):OpOk P X w H ρ r d H :=
 .inl ⟨v,w,ρ,.inl hr,Evo.refl ..,hs,hv⟩
theorem OpOk.val [Gl] {P:Program}{r:Result Next}{v:Value}{d:Dv}{w':World}{H':List Ob}{ρ':Pl} (hr:r=.ok (.value v) w') (hf:Fin X w H ρ w' H' ρ' v d):OpOk P X w H ρ r d H' :=
 .inl ⟨v,w',ρ',.inl hr,hf⟩
end
end Go.Ev

set_option linter.unusedVariables false
set_option linter.unusedSimpArgs false
namespace Go.Ev
section
variable {P : Program} {X M : Nat → Prop} {w : World} {H : List Ob} {ρ : Pl}
theorem zeu {t:TypeId}{n:Nat} (h:szOf P t=some n) (w:World):(sizeOf t).run P w=.ok n w:=by
 unfold szOf at h
 simp only [Option.map_eq_some_iff] at h
 obtain ⟨i,h1,rfl⟩:=h
 simp [sizeOf,typeInfo,h1]
theorem zmd {t:TypeId}{n:Nat} (h:bytesOf P t=some n) (w:World):∃ i,(typeInfo t).run P w=.ok i w∧i.bytes=n:=by
 unfold bytesOf at h
 simp only [Option.map_eq_some_iff] at h
 obtain ⟨i,h1,rfl⟩:=h
 exact ⟨i,by simp [typeInfo,h1],rfl⟩
theorem zb6 {t:TypeId}{d:TypeDesc} (h:P.underlying t=some d) (w:World):(underlying t).run P w=.ok d w:=by
 simp [underlying,h]
theorem zly {t:TypeId}{b:Bool} (h:aggT P t=some b) (w:World):(isAgg t).run P w=.ok b w:=by
 unfold aggT at h
 split at h
 ·rename_i fs hu
  simp at h;subst h
  simp [isAgg,zb6 hu]
 ·rename_i n e hu
  simp at h;subst h
  simp [isAgg,zb6 hu]
 ·rename_i d h1 h2 hu
  simp at h;subst h
  simp only [isAgg,Sem.run_bind,zb6 hu,Result.andThen_ok]
  cases d<;>simp_all
 ·cases h
theorem zte {t:TypeId}{y:Pv} (h:zeroP P t=some y) (w:World):∃ z,(zeroValue t).run P w=.ok z w∧y=ofVal z:=by
 unfold zeroP at h
 simp only [Option.map_eq_some_iff,Option.bind_eq_some_iff] at h
 obtain ⟨z,⟨i,h1,h2⟩,rfl⟩:=h
 exact ⟨z,by simp [zeroValue,typeInfo,h1,h2],rfl⟩
theorem zg1 (b o j:Nat):(⟨b,o,none⟩:Addr).add j=⟨b,o+j,none⟩:=by
 unfold Addr.add
 split
 ·rename_i h;subst h;rfl
 ·rfl
theorem zmn {t:TypeId}{n:Nat} (ha:aggT P t=some true) (hn:szOf P t=some n) (b o:Nat) (us:Nat→Value) (hc:∀ j,j<n→w.cell? ⟨b,o+j,none⟩=some (us j)) :
  (loadVar t ⟨b,o,none⟩).run P w=.ok (.agg ((List.range n).map us).toArray) w:=by
 have:=run_loadCells (P:=P) w ⟨b,o,none⟩ n us (fun j hj=>by rw [zg1];exact hc j hj)
 simp only [loadVar,Sem.run_bind,zly ha,Result.andThen_ok,if_true,zeu hn,this,Sem.run_pure]
theorem zqe {t:TypeId} (ha:aggT P t=some false) (b o:Nat) (u:Value) (hc:w.cell? ⟨b,o,none⟩=some u) :
  (loadVar t ⟨b,o,none⟩).run P w=.ok u w:=by
 simp [loadVar,zly ha,hc]
theorem zqb {n:Nat}{us:Nat→Value}{ds:List Dv} (hl:n=ds.length) (h:∀ j (hj:j<ds.length),(us j).oneCell'=true∧RepD w M H ρ (us j) ds[j]) :
  COk w M H ρ ((List.range n).map us).toArray ds:=by
 subst hl
 refine ⟨by simp,fun j hj=>?_⟩
 have e:((List.range ds.length).map us).toArray.getD j undef=us j:=by simp [hj]
 rw [e]
 exact h j hj
theorem Sim.cells [Gl] {i:Nat}{o:Ob} (hs:Sim X w H ρ) (hi:H[i]?=some o) (hpos:0<o.size):∃ b bs C ds,ρ i=some (b,bs)∧Blk w b C∧CellsD w (Mut X H ρ) H ρ C bs ds∧ds.length=o.size ∧
  (∀ j,o.cell? j=ds[j]?)∧(∀ off n,o.cells? off n=if off+n≤ds.length then some (mkAgg ((ds.drop off).take n)) else none):=by
 have aggP:∀ (cs:List Pv) (off n:Nat),mkAgg (((cs.map Dv.p).drop off).take n)=.p (.agg ((cs.drop off).take n)):=by
  intro cs off n
  have e:∀ l:List Pv,allP (l.map Dv.p)=some l:=by
   intro l
   induction l with
   | nil=>rfl
   | cons a l ih=>simp [allP,ih]
  unfold mkAgg
  rw [← List.map_drop,← List.map_take,e]
 have hok:=hs.obs i o hi
 cases o with
 | dead=>simp [Ob.size] at hpos
 | var ds =>
  obtain ⟨b,bs,C,e,hx,hC,hcs⟩:=hok
  exact ⟨b,bs,C,ds,e,hC.blk,hcs,rfl,fun j=>rfl,fun off n=>rfl⟩
 | ro ds =>
  obtain ⟨b,bs,C,e,hx,hC,hcs⟩:=hok
  exact ⟨b,bs,C,ds,e,hC,hcs,rfl,fun j=>rfl,fun off n=>rfl⟩
 | arr cs =>
  rcases hok with ⟨h0,e⟩ | ⟨b,bs,C,e,hx,hC,hcs⟩
  ·subst h0;simp [Ob.size] at hpos
  ·exact ⟨b,bs,C,cs.map .p,e,hC.blk,hcs.dyn,by simp [Ob.size],fun j=>by simp [Ob.cell?],fun off n=>by simp only [Ob.cells?,List.length_map,aggP]⟩
 | frz cs =>
  rcases hok with ⟨h0,e⟩ | ⟨b,bs,C,e,hx,hC,hcs⟩
  ·subst h0;simp [Ob.size] at hpos
  ·exact ⟨b,bs,C,cs.map .p,e,hC,hcs.dyn,by simp [Ob.size],fun j=>by simp [Ob.cell?],fun off n=>by simp only [Ob.cells?,List.length_map,aggP]⟩
 | roa cs =>
  rcases hok with ⟨h0,e⟩ | ⟨b,bs,C,e,hx,hC,hcs⟩
  ·subst h0;simp [Ob.size] at hpos
  ·exact ⟨b,bs,C,cs.map .p,e,hC,hcs.dyn,by simp [Ob.size],fun j=>by simp [Ob.cell?],fun off n=>by simp only [Ob.cells?,List.length_map,aggP]⟩
 | mp es=>simp [Ob.size] at hpos
 | rmp es=>simp [Ob.size] at hpos
theorem Ob.alive_of_size {o:Ob} (h:0<o.size):o.alive=true:=by cases o<;>simp_all [Ob.size,Ob.alive]
theorem Ob.cell_size {o:Ob}{j:Nat}{d:Dv} (h:o.cell? j=some d):j<o.size:=by
 cases o with
 | dead=>simp [Ob.cell?] at h
 | var cs=>exact (List.getElem?_eq_some_iff.1 h).1
 | ro cs=>exact (List.getElem?_eq_some_iff.1 h).1
 | arr cs=>simp only [Ob.cell?,Option.map_eq_some_iff] at h;obtain ⟨x,h1,_⟩:=h;exact (List.getElem?_eq_some_iff.1 h1).1
 | frz cs=>simp only [Ob.cell?,Option.map_eq_some_iff] at h;obtain ⟨x,h1,_⟩:=h;exact (List.getElem?_eq_some_iff.1 h1).1
 | roa cs=>simp only [Ob.cell?,Option.map_eq_some_iff] at h;obtain ⟨x,h1,_⟩:=h;exact (List.getElem?_eq_some_iff.1 h1).1
 | mp es=>simp [Ob.cell?] at h
 | rmp es=>simp [Ob.cell?] at h
theorem Ob.cells_size {o:Ob}{off n:Nat}{d:Dv} (h:o.cells? off n=some d):off+n≤o.size∧o.alive=true:=by
 cases o<;>simp [Ob.cells?,Ob.size,Ob.alive] at h ⊢
 all_goals exact h.1
theorem zhm (t:TypeId) (a:Addr) (w:World):(Instr.loadAt t (.pointer (some a))).run P w=(loadVar t a).run P w:=by
 simp [Instr.loadAt,Instr.sureAddr]
theorem zo3 [Gl] (hs:Sim X w H ρ) {t:TypeId}{av:Value}{ad d:Dv} (ha:RepD w (Mut X H ρ) H ρ av ad) (h:loadD P H t ad=some d) :
  ∃ v,(Instr.loadAt t av).run P w=.ok v w∧RepD w (Mut X H ρ) H ρ v d:=by
 unfold loadD at h
 cases hag:aggT P t with
 | none=>simp [hag] at h
 | some ag =>
  simp only [hag] at h
  cases ha with
  | ptr id off a hid hal =>
   simp only [] at h
   cases hi:H[id]? with
   | none=>simp [hi] at h
   | some o =>
    simp only [hi] at h
    cases ag with
    | true =>
     simp only [if_true,Option.bind_eq_some_iff] at h
     obtain ⟨n,hn,h⟩:=h
     obtain ⟨hsz,halive⟩:=Ob.cells_size h
     obtain ⟨b,bs,e1,rfl⟩:=hal ⟨o,hi,halive⟩
     by_cases hpos:0<o.size
     ·obtain ⟨b',bs',C,ds,e2,hC,hcs,hl,hc1,hc2⟩:=hs.cells hi hpos
      rw [e1] at e2
      simp only [Option.some.injEq,Prod.mk.injEq] at e2
      obtain ⟨rfl,rfl⟩:=e2
      rw [hc2,if_pos (by omega)] at h
      simp only [Option.some.injEq] at h
      subst h
      refine ⟨_,(zhm ..).trans <| zmn hag hn b (bs+off) (fun j=>C.getD (bs+off+j) undef) (fun j hj=>?_), ?_⟩
      ·rw [hC.cell]
       have:=hcs.1
       exact getD_some (by omega)
      ·refine RepD.mkAgg (zqb (by simp;omega) (fun j hj=>?_))
       have hj:j<n:=by simp only [List.length_take,List.length_drop] at hj;omega
       have:=hcs.2 (off+j) (by omega)
       simpa [Nat.add_assoc] using this
     ·have hn0:n=0:=by omega
      have ho:off=0:=by omega
      subst hn0
      have hd:d=mkAgg []:=by
       cases o<;>simp [Ob.cells?] at h
       all_goals (obtain ⟨_,rfl⟩:=h;rfl)
      subst hd
      refine ⟨_,(zhm ..).trans <| zmn hag hn b (bs+off) (fun j=>undef) (fun j hj=>absurd hj (by omega)), ?_⟩
      exact RepD.mkAgg (zqb rfl (fun j hj=>absurd hj (by simp)))
    | false =>
     simp only [Bool.false_eq_true,if_false] at h
     have hlt:=Ob.cell_size h
     obtain ⟨b,bs,e1,rfl⟩:=hal ⟨o,hi,Ob.alive_of_size (by omega)⟩
     obtain ⟨b',bs',C,ds,e2,hC,hcs,hl,hc1,hc2⟩:=hs.cells hi (by omega)
     rw [e1] at e2
     simp only [Option.some.injEq,Prod.mk.injEq] at e2
     obtain ⟨rfl,rfl⟩:=e2
     rw [hc1] at h
     obtain ⟨h1,h2⟩:=List.getElem?_eq_some_iff.1 h
     have h3:=hcs.2 off h1
     rw [h2] at h3
     refine ⟨_,(zhm ..).trans <| zqe hag b (bs+off) (C.getD (bs+off) undef) ?_,h3.2⟩
     rw [hC.cell]
     exact getD_some (by have:=hcs.1;omega)
  | p x y hp =>
   cases hp with
   | iptr cells off b o us hcell h1 hr =>
    simp only [] at h
    cases ag with
    | true =>
     simp only [if_true,Option.bind_eq_some_iff] at h
     obtain ⟨n,hn,h⟩:=h
     split at h
     ·rename_i hsz
      simp only [Option.some.injEq] at h
      subst h
      refine ⟨_,(zhm ..).trans <| zmn hag hn b (o+off) (fun j=>us (off+j)) (fun j hj=>?_), ?_⟩
      ·have hne:cells≠[]:=by intro e;subst e;simp at hsz;omega
       rw [Nat.add_assoc]
       exact (hcell hne).2 (off+j) (by omega)
      ·refine .p _ _ (.agg _ _ (by simp;omega) (fun j hj=>?_) (fun j hj=>?_))
       ·have hj:j<n:=by simp only [List.length_take,List.length_drop] at hj;omega
        have e:((List.range n).map fun j=>us (off+j)).toArray.getD j undef=us (off+j):=by simp [hj]
        rw [e];exact h1 _ (by omega)
       ·have hj:j<n:=by simp only [List.length_take,List.length_drop] at hj;omega
        have e:((List.range n).map fun j=>us (off+j)).toArray.getD j undef=us (off+j):=by simp [hj]
        rw [e]
        have:=hr (off+j) (by omega)
        simpa using this
     ·cases h
    | false =>
     simp only [Bool.false_eq_true,if_false,Option.map_eq_some_iff] at h
     obtain ⟨y,h,rfl⟩:=h
     obtain ⟨h2,h3⟩:=List.getElem?_eq_some_iff.1 h
     have hne:cells≠[]:=by intro e;subst e;simp at h2
     have h4:=hr off h2
     rw [h3] at h4
     exact ⟨_,(zhm ..).trans <| zqe hag b (o+off) (us off) ((hcell hne).2 off h2),.p _ _ h4⟩
   | _=>simp at h
  | _=>simp at h
theorem z3w {t:TypeId}{vs:Array Value}{x d:Dv}{off:Nat} (hx:RepD w M H ρ (.agg vs) x) (h:partD P t x off=some d) :
  ∃ v,(part t vs off).run P w=.ok v w∧RepD w M H ρ v d:=by
 unfold partD at h
 split at h
 ·rename_i n cs ha hn
  split at h
  ·rename_i hsz
   simp only [Option.some.injEq] at h
   subst h
   cases hx.toP with
   | agg vs cs hl h1 hr =>
    refine ⟨_,by simp [part,zly ha,zeu hn];rfl,.p _ _ (.agg _ _ (by simp;omega) (fun j hj=>?_) (fun j hj=>?_))⟩
    all_goals
     have hj:j<n:=by simp only [List.length_take,List.length_drop] at hj;omega
     have e1:(vs.extract off (off+n)).getD j undef=vs.getD (off+j) undef:=by
      rw [Array.getD_eq_getD_getElem?,Array.getD_eq_getD_getElem?,Array.getElem?_extract,if_pos (by omega)]
     rw [e1]
    ·exact h1 _ (by omega)
    ·simpa using hr (off+j) (by omega)
  ·cases h
 ·rename_i n ds ha hn
  split at h
  ·rename_i hsz
   simp only [Option.some.injEq] at h
   subst h
   cases hx with
   | agg vs cs hl h1 hr =>
    refine ⟨_,by simp [part,zly ha,zeu hn];rfl,RepD.mkAgg ?_⟩
    have:=COk.sub (C:=vs) (bs:=0) (ds:=ds) (w:=w) (M:=M) (H:=H) (ρ:=ρ) ⟨by omega,fun j hj=>by rw [Nat.zero_add];exact ⟨h1 j hj,hr j hj⟩⟩ off n hsz
    rw [Nat.zero_add] at this;exact this
  ·cases h
 ·rename_i cs ha
  simp only [Option.map_eq_some_iff] at h
  obtain ⟨y,h,rfl⟩:=h
  obtain ⟨h2,h3⟩:=List.getElem?_eq_some_iff.1 h
  cases hx.toP with
  | agg vs cs hl h1 hr =>
   have h4:=hr off h2
   rw [h3] at h4
   refine ⟨_, ?_,.p _ _ h4⟩
   have hg:=getD_some (C:=vs) (j:=off) (by omega)
   simp only [part,Sem.run_bind,zly ha,Result.andThen_ok,Bool.false_eq_true,if_false,hg];rfl
 ·rename_i ds ha
  obtain ⟨h2,h3⟩:=List.getElem?_eq_some_iff.1 h
  cases hx with
  | agg vs cs hl h1 hr =>
   have h4:=hr off h2
   rw [h3] at h4
   refine ⟨_, ?_,h4⟩
   have hg:=getD_some (C:=vs) (j:=off) (by omega)
   simp only [part,Sem.run_bind,zly ha,Result.andThen_ok,Bool.false_eq_true,if_false,hg];rfl
 ·cases h
theorem ztr {t:TypeId}{v:Value}{x d:Dv}{off:Nat} (hx:RepD w M H ρ v x) (h:partD P t x off=some d):∃ vs,v=.agg vs:=by
 unfold partD at h
 split at h
 ·cases hx.toP;exact ⟨_,rfl⟩
 ·cases hx;exact ⟨_,rfl⟩
 ·cases hx.toP;exact ⟨_,rfl⟩
 ·cases hx;exact ⟨_,rfl⟩
 ·cases h
end
end Go.Ev

set_option linter.unusedVariables false
set_option linter.unusedSimpArgs false
namespace Go.Ev
section
variable {P : Program} {X M : Nat → Prop} {w : World} {H : List Ob} {ρ : Pl}
theorem zof {t:TypeId}{i:Nat}{f:Field} (h:zj3 P t i=some f):∃ fs,P.underlying t=some (.struct fs)∧fs[i]?=some f:=by
 unfold zj3 at h
 split at h
 ·rename_i fs hu;exact ⟨fs,hu,h⟩
 ·cases h
theorem zpn {t:TypeId}{i:Nat}{f:Field} (h:zj3 P t i=some f) {n:Nat} (hn:szOf P f.type=some n) (h0:n≠0) (a:Addr) (w:World) :
  (Instr.fieldAt t (.pointer (some a)) i).run P w=.ok (.pointer (some (a.add f.offset))) w:=by
 obtain ⟨fs,hu,hf⟩:=zof h
 simp [Instr.fieldAt,zb6 hu,hf,Instr.sureAddr,fieldPlace,zeu hn,h0]
theorem z48 {t:TypeId}{i:Nat}{f:Field} (h:zj3 P t i=some f) (vs:Array Value) (w:World) :
  (Instr.field t (.agg vs) i).run P w=(part f.type vs f.offset).run P w:=by
 obtain ⟨fs,hu,hf⟩:=zof h
 simp [Instr.field,zb6 hu,hf,asAgg]
theorem z17 {id off k:Nat}{a:Addr} (h:RepD w M H ρ (.pointer (some a)) (.ptr id off)):RepD w M H ρ (.pointer (some (a.add k))) (.ptr id (off+k)):=by
 cases h with
 | ptr _ _ _ hid ha =>
  refine .ptr id (off+k) _ hid (fun hl=>?_)
  obtain ⟨b,bs,e,rfl⟩:=ha hl
  exact ⟨b,bs,e,by rw [zg1,Nat.add_assoc]⟩
theorem zyn {cs:List Pv}{off k:Nat}{a:Addr} (h:RepP w M (.pointer (some a)) (.iptr cs off)):RepP w M (.pointer (some (a.add k))) (.iptr cs (off+k)):=by
 cases h with
 | iptr _ _ b o us ha h1 hr =>
  rw [zg1,Nat.add_assoc]
  exact .iptr cs (off+k) b o us ha h1 hr
theorem zqh {v:Value}{id off:Nat} (h:RepD w M H ρ v (.ptr id off)):∃ a,v=.pointer (some a):=by
 cases h;exact ⟨_,rfl⟩
theorem zor {v:Value}{cs:List Pv}{off:Nat} (h:RepP w M v (.iptr cs off)):∃ a,v=.pointer (some a):=by
 cases h;exact ⟨_,rfl⟩
theorem zku {v:Value}{full:Bool}{n:Nat}{cells:List Pv} (h:RepP w M v (.lst full n cells)):∃ (A:Option Addr) (cap:Nat) (us:Nat→Value),v=.slice A n cap∧n≤cap∧(full=true→cap=n) ∧
  (cells≠[]→∃ b o,A=some ⟨b,o,none⟩∧¬ M b∧∀ j,j<cells.length→w.cell? ⟨b,o+j,none⟩=some (us j)) ∧
  (∀ j,j<cells.length→(us j).oneCell'=true)∧(∀ j (h:j<cells.length),RepP w M (us j) cells[j]):=by
 cases h with
 | lst _ _ _ A cap us hn hf ha h1 hr=>exact ⟨A,cap,us,rfl,hn,hf,ha,h1,hr⟩
theorem zks {v:Value}{id off len esz:Nat} (h:RepD w M H ρ v (.ref id off len esz)):∃ A cap,v=.slice A len cap∧id<H.length∧len≤cap ∧
  (0<cap→∃ a,A=some a∧(Alive H id→∃ b bs C,ρ id=some (b,bs)∧a=⟨b,bs+off,none⟩∧Blk w b C∧bs+off+cap*esz≤C.size)):=by
 cases h with
 | ref _ _ _ _ A cap hid hn ha=>exact ⟨A,cap,rfl,hid,hn,ha⟩
theorem zm2 {t e:TypeId} (hu:P.underlying t=some (.slice e)) {sz:Nat} (hsz:szOf P e=some sz) {k:IntKind}{i:Int}{len cap:Nat} (h0:0≤i) (h1:i<len) (a:Addr) (w:World) :
  (Instr.indexAt t (.slice (some a) len cap) (.int k i)).run P w=.ok (.pointer (some (a.add (i.toNat*sz)))) w:=by
 simp [Instr.indexAt,asIntOf,zb6 hu,h0,h1,zeu hsz]
theorem zo1 {t e:TypeId}{n:Nat} (hu:P.underlying t=some (.array n e)) {sz:Nat} (hsz:szOf P e=some sz) {k:IntKind}{i:Int} (h0:0≤i) (h1:i<n) (a:Addr) (w:World) :
  (Instr.indexAt t (.pointer (some a)) (.int k i)).run P w=.ok (.pointer (some (a.add (i.toNat*sz)))) w:=by
 simp [Instr.indexAt,asIntOf,zb6 hu,h0,h1,zeu hsz,Instr.sureAddr]
theorem zt8 {t:TypeId}{xv iv:Value}{x ix d:Dv} (hx:RepD w (Mut X H ρ) H ρ xv x) (hix:RepD w (Mut X H ρ) H ρ iv ix)
  (h:((intD ix).bind fun i =>
   match P.underlying t,x with
   | some (.slice e),.p (.lst _ n cells)=>(szOf P e).bind fun sz=>if 0≤i∧i<n∧sz≠0∧cells.length=n*sz then some (Dv.p (.iptr cells (i.toNat*sz))) else none
   | some (.slice e),.ref id off n esz=>(szOf P e).bind fun sz=>if 0≤i∧i<n∧sz=esz∧sz≠0 then some (.ptr id (off+i.toNat*sz)) else none
   | some (.array n e),.ptr id off=>(szOf P e).bind fun sz=>if 0≤i∧i<n∧sz≠0 then some (.ptr id (off+i.toNat*sz)) else none
   | some (.array n e),.p (.iptr cells off)=>(szOf P e).bind fun sz=>if 0≤i∧i<n∧sz≠0 then some (.p (.iptr cells (off+i.toNat*sz))) else none
   | _,_=>none)=some d) :
  ∃ v,(Instr.indexAt t xv iv).run P w=.ok v w∧RepD w (Mut X H ρ) H ρ v d:=by
 simp only [Option.bind_eq_some_iff] at h
 obtain ⟨i,hi,h⟩:=h
 obtain ⟨k,rfl⟩:=zpx hix hi
 split at h
 ·rename_i e full n cells hu
  simp only [Option.bind_eq_some_iff] at h
  obtain ⟨sz,hsz,h⟩:=h
  split at h
  ·rename_i hc
   simp only [Option.some.injEq] at h
   subst h
   obtain ⟨A,cap,us,rfl,hn,hf,ha,h1,hr⟩:=zku hx.toP
   have hne:cells≠[]:=by
    intro e0;subst e0
    have h2:=hc.2.2.2
    simp only [List.length_nil] at h2
    have h3:n=0:=by
     rcases Nat.eq_zero_or_pos n with h4 | h4
     ·exact h4
     ·have:=Nat.mul_pos h4 (Nat.pos_of_ne_zero hc.2.2.1);omega
    have:=hc.1;have:=hc.2.1;omega
   obtain ⟨b,o,rfl,hm,hcell⟩:=ha hne
   refine ⟨_,zm2 hu hsz hc.1 hc.2.1 _ w, ?_⟩
   rw [zg1]
   exact .p _ _ (.iptr cells (i.toNat*sz) b o us (fun _=>⟨hm,hcell⟩) h1 hr)
  ·cases h
 ·rename_i e id off n esz hu
  simp only [Option.bind_eq_some_iff] at h
  obtain ⟨sz,hsz,h⟩:=h
  split at h
  ·rename_i hc
   simp only [Option.some.injEq] at h
   subst h
   obtain ⟨A,cap,rfl,hid,hn,ha⟩:=zks hx
   obtain ⟨a,rfl,hal⟩:=ha (by have:=hc.1;have:=hc.2.1;omega)
   refine ⟨_,zm2 hu hsz hc.1 hc.2.1 _ w, ?_⟩
   refine .ptr id _ _ hid (fun hl=>?_)
   obtain ⟨b,bs,C,e1,rfl,_,_⟩:=hal hl
   exact ⟨b,bs,e1,by rw [zg1,Nat.add_assoc]⟩
  ·cases h
 ·rename_i n e id off hu
  simp only [Option.bind_eq_some_iff] at h
  obtain ⟨sz,hsz,h⟩:=h
  split at h
  ·rename_i hc
   simp only [Option.some.injEq] at h
   subst h
   obtain ⟨a,rfl⟩:=zqh hx
   exact ⟨_,zo1 hu hsz hc.1 hc.2.1 _ w,z17 hx⟩
  ·cases h
 ·rename_i n e cells off hu
  simp only [Option.bind_eq_some_iff] at h
  obtain ⟨sz,hsz,h⟩:=h
  split at h
  ·rename_i hc
   simp only [Option.some.injEq] at h
   subst h
   obtain ⟨a,rfl⟩:=zor hx.toP
   exact ⟨_,zo1 hu hsz hc.1 hc.2.1 _ w,.p _ _ (zyn hx.toP)⟩
  ·cases h
 ·cases h
theorem zh2 {x:Option Dv}{dflt lim b:Nat} (h:zhy x dflt lim=some b):(x=none∧b=dflt)∨∃ d i,x=some d∧intD d=some i∧0≤i∧i≤lim∧b=i.toNat:=by
 unfold zhy at h
 cases x with
 | none=>simp at h;exact .inl ⟨rfl,h.symm⟩
 | some d =>
  simp only [Option.bind_eq_some_iff] at h
  obtain ⟨i,hi,h⟩:=h
  split at h
  ·rename_i hc;simp at h;exact .inr ⟨d,i,rfl,hi,hc.1,hc.2,h.symm⟩
  ·cases h
theorem zel {k:IntKind}{i:Int}{y:Nat}{c:BoundsCode} (h0:0≤i) (h1:i≤y):(Instr.sliceBound (.int k i) y c)=pure i.toNat:=by
 simp [Instr.sliceBound,asIntOf,h0,h1]
theorem zht [Gl] {a:Act}{tm:List Dv} (hg:GlobOk w M) (ht:TOk w M H ρ a.tmps tm) (isS:Bool) (len cap n m h l:Nat) (lo hi mx:Option Operand) (hnc:n≤cap)
  (hm:zhy (mx.map (evalO tm)) n n=some m) (hh:zhy (hi.map (evalO tm)) len (if mx.isSome then m else len)=some h) (hl:zhy (lo.map (evalO tm)) 0 h=some l)
  (hmx:mx.isSome=true→hi.isSome=true) (hlc:len≤n) :
  (Instr.sliceBounds isS len cap (lo.map a.eval) (hi.map a.eval) (mx.map a.eval)).run P w=.ok (l,h,if mx.isSome then m else cap) w∧l≤h∧h≤(if mx.isSome then m else len)∧m≤n:=by
 have vlo:∀ (x:Operand) (i:Int),intD (evalO tm x)=some i→∃ k,a.eval x=.int k i:=fun x i hi=>zpx (zox hg ht x) hi
 cases mx with
 | none =>
  simp only [Option.map_none,Option.isSome_none,Bool.false_eq_true,if_false] at hm hh ⊢
  have hm':m=n:=by simpa [zhy] using hm.symm
  rcases zh2 hh with ⟨eh,rfl⟩ | ⟨d,i,eh,ei,h0,h1,rfl⟩
  ·have:hi=none:=by cases hi<;>simp_all
   subst this
   rcases zh2 hl with ⟨el,rfl⟩ | ⟨d,i,el,ei,h0,h1,rfl⟩
   ·have:lo=none:=by cases lo<;>simp_all
    subst this
    exact ⟨by simp [Instr.sliceBounds],by omega,by omega,by omega⟩
   ·cases lo with
    | none=>simp at el
    | some x =>
     simp only [Option.map_some,Option.some.injEq] at el
     subst el
     obtain ⟨k,e⟩:=vlo x i ei
     exact ⟨by simp [Instr.sliceBounds,e,zel h0 h1],by omega,by omega,by omega⟩
  ·cases hi with
   | none=>simp at eh
   | some y =>
    simp only [Option.map_some,Option.some.injEq] at eh
    subst eh
    obtain ⟨k,e⟩:=vlo y i ei
    have h1':i≤(cap:Int):=by omega
    rcases zh2 hl with ⟨el,rfl⟩ | ⟨d,i',el,ei',h0',h1'',rfl⟩
    ·have:lo=none:=by cases lo<;>simp_all
     subst this
     exact ⟨by simp [Instr.sliceBounds,e,zel h0 h1'],by omega,by omega,by omega⟩
    ·cases lo with
     | none=>simp at el
     | some x =>
      simp only [Option.map_some,Option.some.injEq] at el
      subst el
      obtain ⟨k',e'⟩:=vlo x i' ei'
      exact ⟨by simp [Instr.sliceBounds,e,zel h0 h1',e',zel h0' h1''],by omega,by omega,by omega⟩
 | some z =>
  simp only [Option.map_some,Option.isSome_some,if_true] at hm hh hmx ⊢
  rcases zh2 hm with ⟨em,_⟩ | ⟨d,iz,em,eiz,hz0,hz1,rfl⟩
  ·cases em
  ·simp only [Option.some.injEq] at em
   subst em
   obtain ⟨kz,ez⟩:=vlo z iz eiz
   have hz2:iz≤(cap:Int):=by omega
   cases hi with
   | none=>simp at hmx
   | some y =>
    rcases zh2 hh with ⟨eh,_⟩ | ⟨d,i,eh,ei,h0,h1,rfl⟩
    ·simp at eh
    ·simp only [Option.map_some,Option.some.injEq] at eh
     subst eh
     obtain ⟨k,e⟩:=vlo y i ei
     rcases zh2 hl with ⟨el,rfl⟩ | ⟨d,i',el,ei',h0',h1'',rfl⟩
     ·have:lo=none:=by cases lo<;>simp_all
      subst this
      exact ⟨by simp [Instr.sliceBounds,ez,zel hz0 hz2,e,zel h0 h1],by omega,by omega,by omega⟩
     ·cases lo with
      | none=>simp at el
      | some x =>
       simp only [Option.map_some,Option.some.injEq] at el
       subst el
       obtain ⟨k',e'⟩:=vlo x i' ei'
       exact ⟨by simp [Instr.sliceBounds,ez,zel hz0 hz2,e,zel h0 h1,e',zel h0' h1''],by omega,by omega,by omega⟩
end
end Go.Ev

set_option linter.unusedVariables false
set_option linter.unusedSimpArgs false
namespace Go.Ev
section
variable {P : Program} {X M : Nat → Prop} {w : World} {H : List Ob} {ρ : Pl}
theorem zm9 {t e:TypeId} (hu:P.underlying t=some (.slice e)) {sz:Nat} (hsz:szOf P e=some sz) (A:Option Addr) (len cap l h m:Nat) (lo hi mx:Option Value)
  (hb:(Instr.sliceBounds true len cap lo hi mx).run P w=.ok (l,h,m) w) :
  (Instr.sliceAt t (.slice A len cap) lo hi mx).run P w=.ok (.slice (if m=l then A else A.map (·.add (l*sz))) (h - l) (m - l)) w:=by
 simp [Instr.sliceAt,zb6 hu,Instr.slice,hb,zeu hsz]
theorem zpf {t e:TypeId}{n:Nat} (hu:P.underlying t=some (.array n e)) {sz:Nat} (hsz:szOf P e=some sz) (a:Addr) (l h m:Nat) (lo hi mx:Option Value)
  (hb:(Instr.sliceBounds false n n lo hi mx).run P w=.ok (l,h,m) w) :
  (Instr.sliceAt t (.pointer (some a)) lo hi mx).run P w=.ok (.slice (some (if m=l then a else a.add (l*sz))) (h - l) (m - l)) w:=by
 simp [Instr.sliceAt,zb6 hu,Instr.sureAddr,hb,zeu hsz]
theorem z39 {A:Option Addr}{us:Nat→Value}{cells:List Pv} (ha:cells≠[]→∃ b o,A=some ⟨b,o,none⟩∧¬ M b∧∀ j,j<cells.length→w.cell? ⟨b,o+j,none⟩=some (us j))
  (h1:∀ j,j<cells.length→(us j).oneCell'=true) (hr:∀ j (h:j<cells.length),RepP w M (us j) cells[j])
  (off len n cap:Nat) (full:Bool) (A':Option Addr) (hle:n≤cap) (hfull:full=true→cap=n) (hlen:off+len≤cells.length)
  (hA:len≠0→∀ b o,A=some ⟨b,o,none⟩→A'=some ⟨b,o+off,none⟩) :
  RepP w M (.slice A' n cap) (.lst full n ((cells.drop off).take len)):=by
 have hl:((cells.drop off).take len).length=len:=by simp;omega
 refine .lst full n _ A' cap (fun j=>us (off+j)) hle hfull (fun hne=>?_) (fun j hj=>h1 _ (by omega)) (fun j hj=>?_)
 ·have hpos:len≠0:=by intro e;subst e;simp at hne
  obtain ⟨b,o,e,hm,hc⟩:=ha (by intro e;subst e;simp at hlen;omega)
  exact ⟨b,o+off,hA hpos b o e,hm,fun j hj=>by rw [Nat.add_assoc];exact hc _ (by omega)⟩
 ·have:=hr (off+j) (by omega)
  simpa using this
theorem z7g [Gl] (hs:Sim X w H ρ) {a:Act}{tm:List Dv} (ht:TOk w (Mut X H ρ) H ρ a.tmps tm) {t:TypeId}{x:Operand}{lo hi mx:Option Operand}{d:Dv} (hmx:mx.isSome=true→hi.isSome=true)
  (h:zt1 P H t (evalO tm x) (lo.map (evalO tm)) (hi.map (evalO tm)) (mx.map (evalO tm))=some d) :
  ∃ v,(Instr.sliceAt t (a.eval x) (lo.map a.eval) (hi.map a.eval) (mx.map a.eval)).run P w=.ok v w∧RepD w (Mut X H ρ) H ρ v d:=by
 have hx:=zr1 hs ht x
 generalize hxd:evalO tm x=xd at *
 generalize hxv:a.eval x=xv at *
 unfold zt1 at h
 split at h
 ·rename_i e hu
  simp only [Option.bind_eq_some_iff] at h
  obtain ⟨sz,hsz,h⟩:=h
  split at h
  ·cases h
  ·rename_i hz
   split at h
   ·rename_i full n cells
    split at h
    ·rename_i hcl
     simp only [Option.bind_eq_some_iff] at h
     obtain ⟨m,hm,hh,hhh,l,hl,h⟩:=h
     simp only [Option.some.injEq] at h
     subst h
     obtain ⟨A,cap,us,rfl,hn,hf,ha,h1,hr⟩:=zku hx.toP
     have hm':mx.isSome=false→m=n:=by
      intro h0
      have:mx=none:=by cases mx<;>simp_all
      subst this
      simpa [zhy] using hm.symm
     obtain ⟨hrun,hlh,hhm,hmn⟩:=zht (P:=P) hs.globs ht true n cap n m hh l lo hi mx hn hm (by
      cases hq:mx.isSome with
      | true=>simpa [hq] using hhh
      | false=>rw [hm' hq] at hhh;simpa [hq] using hhh) hl hmx (Nat.le_refl _)
     refine ⟨_,zm9 hu hsz A n cap l hh _ _ _ _ hrun, ?_⟩
     have hhn:hh≤n:=by
      cases hq:mx.isSome with
      | true=>simp [hq] at hhm;omega
      | false=>simp [hq] at hhm;omega
     have hmul:l*sz+(hh - l)*sz≤cells.length:=by
      rw [hcl,← Nat.add_mul]
      exact Nat.mul_le_mul_right _ (by omega)
     refine .p _ _ (z39 ha h1 hr (l*sz) ((hh - l)*sz) (hh - l) _ _ _ ?_ ?_ hmul ?_)
     ·cases hq:mx.isSome with
      | true=>simp [hq] at hhm ⊢;omega
      | false=>simp [hq] at hhm ⊢;omega
     ·intro hfl
      simp only [Option.isSome_map,Bool.or_eq_true,Bool.and_eq_true,decide_eq_true_eq] at hfl
      rcases hfl with ⟨h2,h3⟩ | ⟨h2,h3⟩
      ·simp [h2];omega
      ·have:=hf h2
       cases hq:mx.isSome with
       | true=>simp [hq] at hhm ⊢;omega
       | false=>simp [hq] at hhm ⊢;omega
     ·intro hne b o e
      have hlt:l<hh:=by
       rcases Nat.lt_or_ge l hh with h2 | h2
       ·exact h2
       ·exfalso;apply hne;rw [show hh - l=0 from by omega];simp
      rw [if_neg ?_,e]
      ·simp [zg1]
      ·cases hq:mx.isSome with
       | true=>simp [hq] at hhm ⊢;omega
       | false=>simp [hq] at hhm ⊢;omega
    ·cases h
   ·rename_i id off len esz
    split at h
    ·cases h
    ·rename_i hc
     simp only [Bool.or_eq_true,decide_eq_true_eq,not_or,Bool.not_eq_true,ne_eq,Decidable.not_not,Option.isSome_map] at hc
     obtain ⟨hc1,rfl⟩:=hc
     simp only [Option.bind_eq_some_iff] at h
     obtain ⟨hh,hhh,l,hl,h⟩:=h
     simp only [Option.some.injEq] at h
     subst h
     have hmx0:mx=none:=by cases mx<;>simp_all
     subst hmx0
     obtain ⟨A,cap,rfl,hid,hn,ha⟩:=zks hx
     obtain ⟨hrun,hlh,hhm,_⟩:=zht (P:=P) hs.globs ht true len cap len len hh l lo hi none hn (by simp [zhy]) (by simpa using hhh) hl (by simp) (Nat.le_refl _)
     simp only [Option.isSome_none,Bool.false_eq_true,if_false] at hrun hhm
     refine ⟨_,zm9 hu hsz A len cap l hh _ _ _ _ hrun, ?_⟩
     refine .ref id _ _ _ _ _ hid (by omega) (fun hcap=>?_)
     obtain ⟨a',rfl,hal⟩:=ha (by omega)
     refine ⟨a'.add (l*esz),by simp;omega,fun hl'=>?_⟩
     obtain ⟨b,bs,C,e1,rfl,hC,hsz'⟩:=hal hl'
     refine ⟨b,bs,C,e1,by rw [zg1,Nat.add_assoc],hC, ?_⟩
     have:bs+(off+l*esz)+(cap - l)*esz=bs+off+cap*esz:=by
      rw [← Nat.add_assoc,Nat.add_assoc (bs+off),← Nat.add_mul];congr 2;omega
     omega
   ·cases h
 ·rename_i n e hu
  simp only [Option.bind_eq_some_iff] at h
  obtain ⟨sz,hsz,h⟩:=h
  split at h
  ·cases h
  ·rename_i hz
   simp only [Bool.or_eq_true,decide_eq_true_eq,not_or,Bool.not_eq_true,Option.isSome_map] at hz
   have hmx0:mx=none:=by cases mx<;>simp_all
   subst hmx0
   split at h
   ·rename_i id off
    split at h
    ·rename_i hfit
     simp only [Option.bind_eq_some_iff] at h
     obtain ⟨hh,hhh,l,hl,h⟩:=h
     simp only [Option.some.injEq] at h
     subst h
     obtain ⟨a',rfl⟩:=zqh hx
     obtain ⟨hrun,hlh,hhm,_⟩:=zht (P:=P) hs.globs ht false n n n n hh l lo hi none (Nat.le_refl _) (by simp [zhy]) (by simpa using hhh) hl (by simp) (Nat.le_refl _)
     simp only [Option.isSome_none,Bool.false_eq_true,if_false] at hrun hhm
     refine ⟨_,zpf hu hsz a' l hh _ _ _ _ hrun, ?_⟩
     cases hx with
     | ptr _ _ _ hid hal =>
      refine .ref id _ _ _ _ _ hid (by omega) (fun hcap=>⟨_,rfl,fun hl'=>?_⟩)
      obtain ⟨b,bs,e1,rfl⟩:=hal hl'
      obtain ⟨o,ho,_⟩:=hl'
      simp only [fitB,ho,decide_eq_true_eq] at hfit
      have hnpos:0<n*sz:=Nat.mul_pos (by omega) (Nat.pos_of_ne_zero hz.2)
      obtain ⟨b',bs',C,ds,e2,hC,hcs,hld,_,_⟩:=hs.cells ho (by omega)
      rw [e1] at e2
      simp only [Option.some.injEq,Prod.mk.injEq] at e2
      obtain ⟨rfl,rfl⟩:=e2
      refine ⟨b,bs,C,e1,by rw [if_neg (by omega),zg1,Nat.add_assoc],hC, ?_⟩
      have:bs+(off+l*sz)+(n - l)*sz=bs+off+n*sz:=by
       rw [← Nat.add_assoc,Nat.add_assoc (bs+off),← Nat.add_mul];congr 2;omega
      have:=hcs.1
      omega
    ·cases h
   ·rename_i cells off
    simp only [Option.bind_eq_some_iff] at h
    obtain ⟨hh,hhh,l,hl,h⟩:=h
    split at h
    ·rename_i hfit
     simp only [Option.some.injEq] at h
     subst h
     obtain ⟨hrun,hlh,hhm,_⟩:=zht (P:=P) hs.globs ht false n n n n hh l lo hi none (Nat.le_refl _) (by simp [zhy]) (by simpa using hhh) hl (by simp) (Nat.le_refl _)
     simp only [Option.isSome_none,Bool.false_eq_true,if_false] at hrun hhm
     cases hx.toP with
     | iptr _ _ b o us ha h1 hr =>
      refine ⟨_,zpf hu hsz _ l hh _ _ _ _ hrun, ?_⟩
      have hmul:off+l*sz+(hh - l)*sz≤cells.length:=by
       have:l*sz+(hh - l)*sz=hh*sz:=by rw [← Nat.add_mul];congr 1;omega
       have:=Nat.mul_le_mul_right sz hhm
       omega
      refine .p _ _ (z39 (A:=some ⟨b,o,none⟩) (fun hne=>⟨b,o,rfl,(ha hne).1,(ha hne).2⟩) h1 hr (off+l*sz) ((hh - l)*sz) (hh - l) _ false _ (by omega) (fun h=>by cases h) hmul ?_)
      intro hne b' o' e
      simp only [Option.some.injEq,Addr.mk.injEq] at e
      obtain ⟨rfl,rfl,_⟩:=e
      have hlt:l<hh:=by
       rcases Nat.lt_or_ge l hh with h2 | h2
       ·exact h2
       ·exfalso;apply hne;rw [show hh - l=0 from by omega];simp
      rw [if_neg (by omega),zg1,Nat.add_assoc]
    ·cases h
   ·cases h
 ·rename_i hu
  simp only [Option.bind_eq_some_iff] at h
  obtain ⟨u,hux,h⟩:=h
  have:=zha hx hux
  subst this
  have hopt:∀ (z:Option Operand) (q:Option (Option Value)),(z.map (evalO tm)).map concD=q→(q=none→z=none)∧(∀ u,q=some (some u)→z.map a.eval=some u):=by
   intro z q hq
   subst hq
   cases z with
   | none=>simp
   | some o =>
    simp only [Option.map_some,reduceCtorEq,false_implies,Option.some.injEq,true_and]
    intro u hu
    exact zha (zr1 hs ht o) hu
  split at h
  ·rename_i e1 e2 e3
   obtain rfl:=(hopt lo _ e1).1 rfl
   obtain rfl:=(hopt hi _ e2).1 rfl
   have:mx=none:=by cases mx<;>simp_all
   subst this
   simp only [Option.map_eq_some_iff] at h
   obtain ⟨r,hr,rfl⟩:=h
   exact ⟨r,zbp w hr,.p _ _ (.v r)⟩
  ·rename_i u1 e1 e2 e3
   have e4:=(hopt lo _ e1).2 u1 rfl
   obtain rfl:=(hopt hi _ e2).1 rfl
   have:mx=none:=by cases mx<;>simp_all
   subst this
   simp only [Option.map_eq_some_iff] at h
   obtain ⟨r,hr,rfl⟩:=h
   rw [e4]
   exact ⟨r,zbp w hr,.p _ _ (.v r)⟩
  ·rename_i u2 e1 e2 e3
   obtain rfl:=(hopt lo _ e1).1 rfl
   have e4:=(hopt hi _ e2).2 u2 rfl
   have:mx=none:=by cases mx<;>simp_all
   subst this
   simp only [Option.map_eq_some_iff] at h
   obtain ⟨r,hr,rfl⟩:=h
   rw [e4]
   exact ⟨r,zbp w hr,.p _ _ (.v r)⟩
  ·rename_i u1 u2 e1 e2 e3
   have e4:=(hopt lo _ e1).2 u1 rfl
   have e5:=(hopt hi _ e2).2 u2 rfl
   have:mx=none:=by cases mx<;>simp_all
   subst this
   simp only [Option.map_eq_some_iff] at h
   obtain ⟨r,hr,rfl⟩:=h
   rw [e4,e5]
   exact ⟨r,zbp w hr,.p _ _ (.v r)⟩
  ·cases h
 ·cases h
theorem yaf {ts:Array TypeId}{ty:TypeId}{xv:Value}{x d:Dv} (hx:RepD w M H ρ xv x) (h:lenD P (ts.getD 0 0) x=some d) (ht:0<ts.size) :
  ∃ v,(Builtin.len_ ts ty #[xv]).run P w=.ok v w∧RepD w M H ρ v d:=by
 have e0:ts[0]?=some (ts.getD 0 0):=by simp [ht]
 generalize ts.getD 0 0=t0 at *
 unfold lenD at h
 split at h
 ·rename_i e full n cells hu
  simp only [Option.some.injEq] at h
  subst h
  obtain ⟨A,cap,us,rfl,_⟩:=zku hx.toP
  exact ⟨_,by simp [Builtin.len_,e0,zb6 hu],.p _ _ (.v _)⟩
 ·rename_i e id off n esz hu
  simp only [Option.some.injEq] at h
  subst h
  obtain ⟨A,cap,rfl,_⟩:=zks hx
  exact ⟨_,by simp [Builtin.len_,e0,zb6 hu],.p _ _ (.v _)⟩
 ·rename_i s hu
  simp only [Option.some.injEq] at h
  subst h
  have:=hx.toP.v_eq
  subst this
  exact ⟨_,by simp [Builtin.len_,e0,zb6 hu],.p _ _ (.v _)⟩
 ·rename_i n e hu
  simp only [Option.some.injEq] at h
  subst h
  exact ⟨_,by simp [Builtin.len_,e0,zb6 hu],.p _ _ (.v _)⟩
 ·cases h
end
end Go.Ev

