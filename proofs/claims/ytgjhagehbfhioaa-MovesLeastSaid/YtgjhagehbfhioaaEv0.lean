/- The abstract interpreter: definitions. Values without addresses (Pv), values of a frame (Dv), objects that a call may write (Ob), and a step for each operation. -/
import Derived.Orders
import Derived.Tactics
import Derived.RowKit3
set_option linter.unusedVariables false
set_option linter.unusedSimpArgs false
namespace Go.Ev

/-- A pure value: it holds no address that anybody may write to. -/
inductive Pv where
  | v (x : Value)
  | lst (full : Bool) (n : Nat) (cells : List Pv)
  | agg (cs : List Pv)
  | tup (cs : List Pv)
  | iptr (cells : List Pv) (off : Nat)
  | fn (f : Fn) (caps : List Pv)
  deriving Inhabited

/-- A value in a frame. 'ref id off len esz': a slice into object id from cell off on; 'ptr id off': a pointer to a cell of object id. -/
inductive Dv where
  | junk
  | p (x : Pv)
  | ref (id off len esz : Nat)
  | ptr (id off : Nat)
  | agg (cs : List Dv)
  | tup (cs : List Dv)
  | fn (f : Fn) (caps : List Dv)
  deriving Inhabited

/-- An object: a variable, an array, an array that nobody writes any more, what a callee may only read. -/
inductive Ob where
  | dead
  | var (cs : List Dv)
  | arr (cs : List Pv)
  | frz (cs : List Pv)
  | ro (cs : List Dv)
  | roa (cs : List Pv)
  deriving Inhabited

inductive Ghost where
  | keep (l : List Nat)
  | own (t esz : Nat)
  | freeze (t : Nat)
  | kill (l : List Nat)

structure Ann where
  keeps : Nat → Bool
  muts : Nat → Bool
  ros : Nat → Bool
  loud : Nat → Nat → Bool
  okf : Nat → Bool
  pre : Nat → Nat → List Ghost

structure St where
  tmps : List Dv
  heap : List Ob
  nin : Nat
  deriving Inhabited

/-! ### Pure operations of the model -/
def pureRun (P : Program) {α : Type} : Sem α → Option α
  | .pure a => some a
  | .program k => pureRun P (k P)
  | .mark _ k => pureRun P k
  | _ => none

/-! ### Values -/
def cellOf : Value → Pv
  | .slice none 0 0 => .lst true 0 []
  | x => .v x
def ofVal : Value → Pv
  | .agg cs => if cs.toList.all (·.oneCell') then .agg (cs.toList.map cellOf) else .v (.agg cs)
  | x => cellOf x
def concs : List Pv → Option (List Value)
  | [] => some []
  | .v x :: cs => (concs cs).map (x :: ·)
  | _ :: _ => none
def conc : Pv → Option Value
  | .v x => some x
  | .agg cs => (concs cs).map fun l => .agg l.toArray
  | _ => none
def concD : Dv → Option Value
  | .p x => conc x
  | _ => none
def allP : List Dv → Option (List Pv)
  | [] => some []
  | .p x :: ds => (allP ds).map (x :: ·)
  | _ :: _ => none
def mkAgg (ds : List Dv) : Dv := match allP ds with | some cs => .p (.agg cs) | none => .agg ds
def mkTup (ds : List Dv) : Dv := match allP ds with | some cs => .p (.tup cs) | none => .tup ds
def mkFn (f : Fn) (ds : List Dv) : Dv := match allP ds with | some cs => .p (.fn f cs) | none => .fn f ds
/-- The cells of a value as it lies in memory. -/
def cellsD : Dv → Option (List Dv)
  | .p (.agg cs) => some (cs.map .p)
  | .p (.tup _) => none
  | .p (.v (.agg _)) => none
  | .p (.v (.tuple _)) => none
  | .p x => some [.p x]
  | .agg ds => some ds
  | .tup _ => none
  | .junk => none
  | d => some [d]
def setAt {α : Type} : List α → Nat → List α → List α
  | cs, _, [] => cs
  | cs, off, d :: ds => setAt (cs.set off d) (off + 1) ds

def szOf (P : Program) (t : TypeId) : Option Nat := (P.info? t).map (·.size)
def bytesOf (P : Program) (t : TypeId) : Option Nat := (P.info? t).map (·.bytes)
def aggT (P : Program) (t : TypeId) : Option Bool :=
  match P.underlying t with
  | some (.struct _) => some true
  | some (.array _ _) => some true
  | some _ => some false
  | none => none
def zeroP (P : Program) (t : TypeId) : Option Pv := ((P.info? t).bind (·.zero)).map ofVal
def cellsP : Pv → Option (List Pv)
  | .agg cs => some cs
  | .tup _ => none
  | .v (.agg _) => none
  | .v (.tuple _) => none
  | x => some [x]
def zeroCs (P : Program) (t : TypeId) : Option (List Pv) := (zeroP P t).bind cellsP
def repl {α : Type} : Nat → List α → List α
  | 0, _ => []
  | n + 1, z => z ++ repl n z

/-! ### Capacities are forgotten -/
mutual
def wk : Pv → Pv
  | .v x => .v x
  | .lst _ n cells => .lst false n (wks cells)
  | .agg cs => .agg (wks cs)
  | .tup cs => .tup (wks cs)
  | .iptr cells off => .iptr (wks cells) off
  | .fn f caps => .fn f (wks caps)
def wks : List Pv → List Pv
  | [] => []
  | x :: xs => wk x :: wks xs
end

/-! ### Objects -/
def Ob.cell? : Ob → Nat → Option Dv
  | .var cs, j => cs[j]?
  | .ro cs, j => cs[j]?
  | .arr cs, j => (cs[j]?).map .p
  | .frz cs, j => (cs[j]?).map .p
  | .roa cs, j => (cs[j]?).map .p
  | .dead, _ => none
def Ob.cells? : Ob → Nat → Nat → Option Dv
  | .var cs, off, n => if off + n ≤ cs.length then some (mkAgg ((cs.drop off).take n)) else none
  | .ro cs, off, n => if off + n ≤ cs.length then some (mkAgg ((cs.drop off).take n)) else none
  | .arr cs, off, n => if off + n ≤ cs.length then some (.p (.agg ((cs.drop off).take n))) else none
  | .frz cs, off, n => if off + n ≤ cs.length then some (.p (.agg ((cs.drop off).take n))) else none
  | .roa cs, off, n => if off + n ≤ cs.length then some (.p (.agg ((cs.drop off).take n))) else none
  | .dead, _, _ => none

def Ob.size : Ob → Nat
  | .var cs => cs.length
  | .ro cs => cs.length
  | .arr cs => cs.length
  | .frz cs => cs.length
  | .roa cs => cs.length
  | .dead => 0

/-- The object has so many cells. -/
def fitB (H : List Ob) (id k : Nat) : Bool := match H[id]? with | some o => decide (k ≤ o.size) | none => false

def loadD (P : Program) (H : List Ob) (t : TypeId) (a : Dv) : Option Dv :=
  match aggT P t with
  | none => none
  | some ag =>
    match a with
    | .ptr id off =>
      match H[id]? with
      | none => none
      | some o => if ag then (szOf P t).bind fun n => o.cells? off n else o.cell? off
    | .p (.iptr cells off) =>
      if ag then (szOf P t).bind fun n => if off + n ≤ cells.length then some (.p (.agg ((cells.drop off).take n))) else none
      else (cells[off]?).map .p
    | _ => none

/-- What a slice into an object reads. -/
def rdSlice (H : List Ob) (id off len esz : Nat) : Option (List Pv) :=
  match H[id]? with
  | some (.arr cs) => if off + len * esz ≤ cs.length then some ((cs.drop off).take (len * esz)) else none
  | some (.frz cs) => if off + len * esz ≤ cs.length then some ((cs.drop off).take (len * esz)) else none
  | some (.roa cs) => if off + len * esz ≤ cs.length then some ((cs.drop off).take (len * esz)) else none
  | some (.var cs) => if off + len * esz ≤ cs.length then allP ((cs.drop off).take (len * esz)) else none
  | some (.ro cs) => if off + len * esz ≤ cs.length then allP ((cs.drop off).take (len * esz)) else none
  | _ => none

/-- A value that is given away: what it refers to is frozen. -/
def purify (H : List Ob) : Dv → Option (Pv × List Nat)
  | .p x => some (x, [])
  | .ref id off len esz =>
    match H[id]? with
    | some (.arr cs) => if off + len * esz ≤ cs.length then some (.lst false len ((cs.drop off).take (len * esz)), [id]) else none
    | some (.frz cs) => if off + len * esz ≤ cs.length then some (.lst false len ((cs.drop off).take (len * esz)), []) else none
    | _ => none
  | .ptr id off =>
    match H[id]? with
    | some (.arr cs) => if cs.isEmpty then none else some (.iptr cs off, [id])
    | some (.frz cs) => if cs.isEmpty then none else some (.iptr cs off, [])
    | some (.var ds) => if ds.isEmpty then none else (allP ds).map fun cs => (.iptr cs off, [id])
    | _ => none
  | _ => none
def purifys (H : List Ob) : List Dv → Option (List Pv × List Nat)
  | [] => some ([], [])
  | d :: ds =>
    match purify H d, purifys H ds with
    | some (x, l), some (xs, m) => some (x :: xs, l ++ m)
    | _, _ => none
/-- One level of structure more. -/
def purifyE (H : List Ob) : Dv → Option (Pv × List Nat)
  | .agg es => (purifys H es).map fun (xs, l) => (Pv.agg xs, l)
  | d => purify H d
def purifyT (H : List Ob) : List Dv → Option (List Pv × List Nat)
  | [] => some ([], [])
  | d :: ds =>
    match purifyE H d, purifyT H ds with
    | some (x, l), some (xs, m) => some (x :: xs, l ++ m)
    | _, _ => none
def purifyD (H : List Ob) : Dv → Option (Pv × List Nat)
  | .agg ds => (purifys H ds).map fun (xs, l) => (.agg xs, l)
  | .tup ds => (purifyT H ds).map fun (xs, l) => (.tup xs, l)
  | .fn f ds => (purifys H ds).map fun (xs, l) => (.fn f xs, l)
  | d => purify H d
def frzOb : Ob → Ob
  | .arr cs => .frz cs
  | .var ds => match allP ds with | some cs => .frz cs | none => .dead
  | o => o
def frzAt (H : List Ob) (i : Nat) : List Ob := match H[i]? with | some o => H.set i (frzOb o) | none => H
def freezeAll (H : List Ob) : List Nat → List Ob
  | [] => H
  | i :: l => freezeAll (frzAt H i) l

def storeD (P : Program) (H : List Ob) (t : TypeId) (a d : Dv) : Option (List Ob) :=
  match a, szOf P t with
  | .ptr id off, some n =>
    match H[id]?, cellsD d with
    | some (.var cs), some ds => if ds.length = n ∧ off + n ≤ cs.length then some (H.set id (.var (setAt cs off ds))) else none
    | some (.arr cs), some ds =>
      match purifys H ds with
      | some (xs, l) => if xs.length = n ∧ off + n ≤ cs.length ∧ ¬ id ∈ l then some ((freezeAll H l).set id (.arr (setAt cs off xs))) else none
      | none => none
    | _, _ => none
  | _, _ => none

/-! ### References, renumbering -/
mutual
def refsOf : Dv → List Nat
  | .ref id _ _ _ => [id]
  | .ptr id _ => [id]
  | .agg ds => refsOfs ds
  | .tup ds => refsOfs ds
  | .fn _ ds => refsOfs ds
  | _ => []
def refsOfs : List Dv → List Nat
  | [] => []
  | d :: ds => refsOf d ++ refsOfs ds
end
def obRefs : Ob → List Nat
  | .var ds => refsOfs ds
  | .ro ds => refsOfs ds
  | _ => []
mutual
def mapIds (g : Nat → Nat) : Dv → Dv
  | .ref id off len esz => .ref (g id) off len esz
  | .ptr id off => .ptr (g id) off
  | .agg ds => .agg (mapIdss g ds)
  | .tup ds => .tup (mapIdss g ds)
  | .fn f ds => .fn f (mapIdss g ds)
  | .p x => .p x
  | .junk => .junk
def mapIdss (g : Nat → Nat) : List Dv → List Dv
  | [] => []
  | d :: ds => mapIds g d :: mapIdss g ds
end
def obMap (g : Nat → Nat) : Ob → Ob
  | .var ds => .var (mapIdss g ds)
  | .ro ds => .ro (mapIdss g ds)
  | o => o
def collect (H : List Ob) : Nat → List Nat → List Nat → List Nat
  | 0, _, acc => acc
  | _ + 1, [], acc => acc
  | k + 1, i :: todo, acc =>
    if acc.contains i then collect H k todo acc
    else collect H k (todo ++ (match H[i]? with | some o => obRefs o | none => [])) (acc ++ [i])
def roOf : Ob → Ob
  | .var ds => .ro ds
  | .arr cs => .roa cs
  | o => o

/-! ### One operation -/
def intD : Dv → Option Int
  | .p (.v (.int _ n)) => some n
  | _ => none
def boolD : Dv → Option Bool
  | .p (.v (.bool b)) => some b
  | _ => none
def evalO (s : List Dv) : Operand → Dv
  | .tmp t => s.getD t .junk
  | .const x => .p (ofVal x)
  | .global _ => .junk
  | .func f => .p (.fn (.func f) [])
def fieldOf (P : Program) (t : TypeId) (i : Nat) : Option Field :=
  match P.underlying t with
  | some (.struct fs) => fs[i]?
  | _ => none
def fillD (place : Nat → Option (Nat × Nat)) (cells : List Dv) : List (Nat × Dv) → Option (List Dv)
  | [] => some cells
  | (i, d) :: rest =>
    match place i, cellsD d with
    | some (off, size), some ds => if ds.length = size ∧ off + ds.length ≤ cells.length then fillD place (setAt cells off ds) rest else none
    | _, _ => none
def placesL (P : Program) : List Field → Option (List (Nat × Nat))
  | [] => some []
  | f :: fs => match szOf P f.type, placesL P fs with | some n, some l => some ((f.offset, n) :: l) | _, _ => none
def places (P : Program) (t : TypeId) : Option (Nat → Option (Nat × Nat)) :=
  match P.underlying t with
  | some (.struct fs) => (placesL P fs.toList).map fun l i => l[i]?
  | some (.array _ e) => (szOf P e).map fun n => fun i => some (i * n, n)
  | _ => none
def partD (P : Program) (t : TypeId) (x : Dv) (off : Nat) : Option Dv :=
  match aggT P t, szOf P t, x with
  | some true, some n, .p (.agg cs) => if off + n ≤ cs.length then some (.p (.agg ((cs.drop off).take n))) else none
  | some true, some n, .agg ds => if off + n ≤ ds.length then some (mkAgg ((ds.drop off).take n)) else none
  | some false, _, .p (.agg cs) => (cs[off]?).map .p
  | some false, _, .agg ds => ds[off]?
  | _, _, _ => none
def boundD (x : Option Dv) (dflt lim : Nat) : Option Nat :=
  match x with
  | none => some dflt
  | some d => (intD d).bind fun i => if 0 ≤ i ∧ i ≤ lim then some i.toNat else none
def sliceD (P : Program) (H : List Ob) (t : TypeId) (x : Dv) (lo hi mx : Option Dv) : Option Dv :=
  match P.underlying t with
  | some (.slice e) =>
    (szOf P e).bind fun sz =>
    if sz = 0 then none else
    match x with
    | .p (.lst full n cells) =>
      if cells.length = n * sz then
      (boundD mx n n).bind fun m => (boundD hi n m).bind fun h => (boundD lo 0 h).bind fun l =>
        some (.p (.lst (mx.isSome && decide (h = m) || full && decide (h = n)) (h - l) ((cells.drop (l * sz)).take ((h - l) * sz))))
      else none
    | .ref id off len esz =>
      if mx.isSome || esz ≠ sz then none else
      (boundD hi len len).bind fun h => (boundD lo 0 h).bind fun l => some (.ref id (off + l * sz) (h - l) esz)
    | _ => none
  | some (.array n e) =>
    (szOf P e).bind fun sz =>
    if mx.isSome || sz = 0 then none else
    match x with
    | .ptr id off =>
      if fitB H id (off + n * sz) then
        (boundD hi n n).bind fun h => (boundD lo 0 h).bind fun l => some (.ref id (off + l * sz) (h - l) sz)
      else none
    | .p (.iptr cells off) => (boundD hi n n).bind fun h => (boundD lo 0 h).bind fun l => if off + n * sz ≤ cells.length then some (.p (.lst false (h - l) ((cells.drop (off + l * sz)).take ((h - l) * sz)))) else none
    | _ => none
  | some .string =>
    (concD x).bind fun u =>
    match lo.map concD, hi.map concD, mx with
    | none, none, none => (pureRun P (Instr.sliceAt t u none none none)).map fun r => .p (.v r)
    | some (some a), none, none => (pureRun P (Instr.sliceAt t u (some a) none none)).map fun r => .p (.v r)
    | none, some (some b), none => (pureRun P (Instr.sliceAt t u none (some b) none)).map fun r => .p (.v r)
    | some (some a), some (some b), none => (pureRun P (Instr.sliceAt t u (some a) (some b) none)).map fun r => .p (.v r)
    | _, _, _ => none
  | _ => none
def lenD (P : Program) (t : TypeId) (x : Dv) : Option Dv :=
  match P.underlying t, x with
  | some (.slice _), .p (.lst _ n _) => some (.p (.v (goInt n)))
  | some (.slice _), .ref _ _ n _ => some (.p (.v (goInt n)))
  | some .string, .p (.v (.string s)) => some (.p (.v (goInt s.size)))
  | some (.array n _), _ => some (.p (.v (goInt n)))
  | _, _ => none
def isNilP : Dv → Bool
  | .p (.lst true 0 []) => true
  | _ => false
def lenPos : Dv → Bool
  | .p (.lst _ (_ + 1) _) => true
  | .ref _ _ (_ + 1) _ => true
  | _ => false
def binD (P : Program) (op : BinOp) (t : TypeId) (xo yo : Operand) (x y : Dv) : Option Dv :=
  match concD x, concD y with
  | some a, some b => (pureRun P (do eqGuard op t xo yo a b; binOp op t a b)).map fun r => .p (.v r)
  | _, _ => none
/-- The cells that are appended. -/
def srcCells (P : Program) (H : List Ob) (esz : Nat) : Dv → Option (Nat × List Pv)
  | .p (.lst _ n cells) => if cells.length = n * esz then some (n, cells) else none
  | .ref id off n sz => if sz = esz then (rdSlice H id off n sz).map fun cs => (n, cs) else none
  | .p (.v (.string s)) => if esz = 1 then some (s.size, s.data.toList.map fun b => .v (.int .u8 b.toNat)) else none
  | _ => none
/-- The second argument of append is a slice or a string. -/
def srcT (P : Program) (ts : Array TypeId) : Bool :=
  match ts[1]? with
  | none => true
  | some t => match P.underlying t with | some (.int _) => false | some _ => true | none => false
def appendD (P : Program) (H : List Ob) (ts : Array TypeId) (x y : Dv) : Option (Dv × List Ob) :=
  match ts[0]?.bind P.underlying with
  | some (.slice e) =>
    (szOf P e).bind fun sz => (bytesOf P e).bind fun by_ => (zeroCs P e).bind fun z =>
    if sz = 0 ∨ by_ = 0 ∨ z.length ≠ sz ∨ srcT P ts = false then none else
    (srcCells P H sz y).bind fun (m, new) =>
    match x with
    | .p (.lst true n cells) =>
      if cells.length = n * sz ∧ (n + m) * by_ ≤ 140737488355328 then
        if n = 0 ∨ m ≠ 0 then some (.ref H.length 0 (n + m) sz, H ++ [.arr (cells ++ new)]) else some (.p (.lst true n cells), H)
      else none
    | .ref id off n esz =>
      match H[id]? with
      | some (.arr cs) =>
        if esz = sz ∧ off + n * sz ≤ cs.length ∧ (n + m) * by_ ≤ 140737488355328 then
          some (.ref H.length 0 (n + m) sz, H.set id .dead ++ [.arr ((cs.drop off).take (n * sz) ++ new)])
        else none
      | _ => none
    | _ => none
  | _ => none
def copyD (P : Program) (H : List Ob) (ts : Array TypeId) (x y : Dv) : Option (Dv × List Ob) :=
  match ts[0]?.bind P.underlying with
  | some (.slice e) =>
    (szOf P e).bind fun sz =>
    if sz = 0 then none else
    (srcCells P H sz y).bind fun (m, new) =>
    match x with
    | .ref id off n esz =>
      match H[id]? with
      | some (.arr cs) =>
        if esz = sz ∧ off + n * sz ≤ cs.length then
          some (.p (.v (goInt (Nat.min m n))), H.set id (.arr (setAt cs off (new.take (Nat.min m n * sz)))))
        else none
      | _ => none
    | .p (.lst _ 0 _) => some (.p (.v (goInt 0)), H)
    | _ => none
  | _ => none
def makeD (P : Program) (H : List Ob) (t : TypeId) (l c : Dv) : Option (Dv × List Ob) :=
  match P.underlying t, intD l, intD c with
  | some (.slice e), some n, some k =>
    (szOf P e).bind fun sz => (bytesOf P e).bind fun by_ => (zeroCs P e).bind fun z =>
    if sz = 0 ∨ z.length ≠ sz ∨ by_ = 0 then none else
    if 0 ≤ n ∧ n ≤ k ∧ by_ * k ≤ 281474976710656 then some (.ref H.length 0 n.toNat sz, H ++ [.arr (repl n.toNat z)]) else none
  | _, _, _ => none
def undefD : Dv := .p (.v undef)
def concL : List Dv → Option (List Value)
  | [] => some []
  | d :: ds => match concD d, concL ds with | some x, some xs => some (x :: xs) | _, _ => none

abbrev CallF := FuncId → List Dv → List Ob → Option (Dv × List Ob)

/-- Slices among the arguments are frozen and given as values. -/
def giveD (H : List Ob) : List Dv → List Dv × List Nat
  | [] => ([], [])
  | .ref id off len esz :: ds =>
    match H[id]? with
    | some (.arr cs) => if off + len * esz ≤ cs.length then (.p (.lst false len ((cs.drop off).take (len * esz))) :: (giveD H ds).1, id :: (giveD H ds).2) else (.ref id off len esz :: (giveD H ds).1, (giveD H ds).2)
    | some (.frz cs) => if off + len * esz ≤ cs.length then (.p (.lst false len ((cs.drop off).take (len * esz))) :: (giveD H ds).1, (giveD H ds).2) else (.ref id off len esz :: (giveD H ds).1, (giveD H ds).2)
    | _ => (.ref id off len esz :: (giveD H ds).1, (giveD H ds).2)
  | .p x :: ds => (.p (wk x) :: (giveD H ds).1, (giveD H ds).2)
  | d :: ds => (d :: (giveD H ds).1, (giveD H ds).2)
def someIf (b : Bool) (H : List Ob) : Option (List Ob) := if b then some H else none
/-- Lent objects, and how their numbers go back. -/
def takeAlong (H : List Ob) (acc : List Nat) : List Ob := acc.map fun i => obMap acc.idxOf (H.getD i .dead)
def lentD (A : Ann) (f : FuncId) (H : List Ob) (acc : List Nat) : List Ob :=
  if A.muts f then takeAlong H acc else (takeAlong H acc).map roOf
def backD (n : Nat) (acc : List Nat) (j : Nat) : Nat := if j < acc.length then acc.getD j 0 else n + (j - acc.length)
def putBack (g : Nat → Nat) (H : List Ob) : List Nat → List Ob → List Ob
  | i :: acc, o :: h => putBack g (H.set i (obMap g o)) acc h
  | [], h => H ++ h.map (obMap g)
  | _ :: _, [] => H
/-- The numbers that are taken along: no number twice, and all that they lead to. -/
def accOk (H : List Ob) (acc refs : List Nat) : Bool :=
  decide acc.Nodup && refs.all (fun i => acc.contains i) && acc.all fun i => decide (i < H.length) && (obRefs (H.getD i .dead)).all fun j => acc.contains j
def isRo : Ob → Bool
  | .ro _ => true
  | .roa _ => true
  | _ => false
def noRo (h : List Ob) : Bool := h.all fun o => !isRo o
/-- What comes back read-only was lent so. -/
def roBack : List Ob → List Ob → Bool
  | o :: hin, o' :: h => (!isRo o' || isRo o) && roBack hin h
  | [], h => noRo h
  | _ :: _, [] => true
/-- A call: what the arguments refer to is lent, to be read only or to be written; what comes back takes its place again. -/
def callD (call : CallF) (A : Ann) (H : List Ob) (f : FuncId) (args : List Dv) : Option (Dv × Option (List Ob)) :=
  let gv := if A.muts f || A.ros f then (args, []) else giveD H args
  let H := freezeAll H gv.2
  let args := gv.1
  let acc := collect H 64 (refsOfs args) []
  if accOk H acc (refsOfs args) then
    (call f (mapIdss acc.idxOf args) (lentD A f H acc)).bind fun (r, h) =>
    match A.muts f, acc, h, r with
    | false, _, _, .p x => some (.p x, someIf (!gv.2.isEmpty) H)
    | true, [], [], .p x => some (.p x, someIf (!gv.2.isEmpty) H)
    | m, acc, h, r =>
      if (m || acc.isEmpty) && decide (acc.length ≤ h.length) && roBack (takeAlong H acc) h then
        some (mapIds (backD H.length acc) r, some (putBack (backD H.length acc) H acc h))
      else none
  else none

def builtinP (P : Program) (b : Builtin) (ts : Array TypeId) (type : TypeId) (args : List Dv) : Option Dv :=
  match b with
  | .len => match args with | [x] => if ts.size = 0 then none else lenD P (ts.getD 0 0) x | _ => none
  | .max => (concL args).bind fun vs => (pureRun P (Builtin.max_ ts type vs.toArray)).map fun r => .p (.v r)
  | .min => (concL args).bind fun vs => (pureRun P (Builtin.min_ ts type vs.toArray)).map fun r => .p (.v r)
  | _ => none
def builtinD (P : Program) (H : List Ob) (b : Builtin) (ts : Array TypeId) (type : TypeId) (args : List Dv) : Option (Dv × Option (List Ob)) :=
  match b with
  | .append => match args with | [x, y] => (appendD P H ts x y).map fun (r, h) => (r, some h) | _ => none
  | .copy => match args with | [x, y] => (copyD P H ts x y).map fun (r, h) => (r, some h) | _ => none
  | b => (builtinP P b ts type args).map fun r => (r, none)

/-- One operation: its value, and the heap if it has changed. -/
def opD (P : Program) (A : Ann) (call : CallF) (tm : List Dv) (H : List Ob) (o : Oper) : Option (Dv × Option (List Ob)) :=
  let ρ := evalO tm
  let n1 (r : Option Dv) : Option (Dv × Option (List Ob)) := r.map fun d => (d, none)
  match o.op with
  | .move x => some (ρ x, none)
  | .assign x => some (ρ x, none)
  | .pick c a b => (boolD (ρ c)).map fun t => (if t then ρ a else ρ b, none)
  | .alloc e => (zeroCs P e).map fun cs => (.ptr H.length 0, some (H ++ [.var (cs.map .p)]))
  | .box _ x => (cellsD (ρ x)).map fun ds => (.ptr H.length 0, some (H ++ [.var ds]))
  | .build t parts =>
    n1 ((places P t).bind fun pl => (zeroCs P t).bind fun z =>
      (fillD pl (z.map .p) (parts.toList.map fun (i, x) => (i, ρ x))).map mkAgg)
  | .buildSlice t len parts =>
    match P.underlying t with
    | some (.slice e) =>
      (szOf P e).bind fun sz => (zeroCs P e).bind fun z =>
      if sz = 0 ∨ z.length ≠ sz ∨ len * sz > 2 ^ 24 then none else
      (fillD (fun i => some (i * sz, sz)) ((repl len z).map .p) (parts.toList.map fun (i, x) => (i, ρ x))).bind fun ds =>
      (purifys H ds).map fun (cs, l) => (.p (.lst true len cs), if l.isEmpty then none else some (freezeAll H l))
    | _ => none
  | .load t a => n1 (loadD P H t (ρ a))
  | .store t a x => (storeD P H t (ρ a) (ρ x)).map fun h => (undefD, some h)
  | .nilCheck x =>
    match ρ x with
    | .ptr id off => some (.ptr id off, none)
    | .p (.iptr cs off) => some (.p (.iptr cs off), none)
    | .p (.fn (.func f) cs) => some (.p (.fn (.func f) cs), none)
    | .fn (.func f) cs => some (.fn (.func f) cs, none)
    | _ => none
  | .binOp op t x y _ => n1 (binD P op t x y (ρ x) (ρ y))
  | .unOp op _ x => n1 ((concD (ρ x)).bind fun a => (pureRun P (Op.unary op a)).map fun r => .p (.v r))
  | .convert src dst x => n1 ((concD (ρ x)).bind fun a => (pureRun P (convert src dst a)).map fun r => .p (.v r))
  | .makeFunc fn first caps => if first.size = 0 then n1 (some (mkFn fn (caps.toList.map ρ))) else none
  | .makeSlice t l c => (makeD P H t (ρ l) (ρ c)).map fun (r, h) => (r, some h)
  | .slice t x lo hi mx => if mx.isSome && hi.isNone then none else n1 (sliceD P H t (ρ x) (lo.map ρ) (hi.map ρ) (mx.map ρ))
  | .fieldAddr t x i =>
    n1 ((fieldOf P t i).bind fun f => (szOf P f.type).bind fun n =>
      if n = 0 then none else
      match ρ x with
      | .ptr id off => some (.ptr id (off + f.offset))
      | .p (.iptr cs off) => some (.p (.iptr cs (off + f.offset)))
      | _ => none)
  | .field t x i => n1 ((fieldOf P t i).bind fun f => partD P f.type (ρ x) f.offset)
  | .indexAddr t x ix =>
    n1 ((intD (ρ ix)).bind fun i =>
      match P.underlying t, ρ x with
      | some (.slice e), .p (.lst _ n cells) => (szOf P e).bind fun sz => if 0 ≤ i ∧ i < n ∧ sz ≠ 0 ∧ cells.length = n * sz then some (.p (.iptr cells (i.toNat * sz))) else none
      | some (.slice e), .ref id off n esz => (szOf P e).bind fun sz => if 0 ≤ i ∧ i < n ∧ sz = esz ∧ sz ≠ 0 then some (.ptr id (off + i.toNat * sz)) else none
      | some (.array n e), .ptr id off => (szOf P e).bind fun sz => if 0 ≤ i ∧ i < n ∧ sz ≠ 0 then some (.ptr id (off + i.toNat * sz)) else none
      | some (.array n e), .p (.iptr cells off) => (szOf P e).bind fun sz => if 0 ≤ i ∧ i < n ∧ sz ≠ 0 then some (.p (.iptr cells (off + i.toNat * sz))) else none
      | _, _ => none)
  | .index t x ix =>
    n1 (match P.underlying t with
      | some .string => (concD (ρ x)).bind fun a => (concD (ρ ix)).bind fun b => (pureRun P (Instr.index t a b)).map fun r => .p (.v r)
      | some (.array n e) => (intD (ρ ix)).bind fun i => (szOf P e).bind fun sz => if 0 ≤ i ∧ i < n then partD P e (ρ x) (i.toNat * sz) else none
      | _ => none)
  | .extract x i =>
    n1 (match ρ x with
      | .p (.tup cs) => (cs[i]?).map .p
      | .tup ds => ds[i]?
      | _ => none)
  | .call c =>
    match c.callee with
    | .builtin b => builtinD P H b c.argTypes o.type (c.args.toList.map ρ)
    | .value f =>
      match ρ f with
      | .p (.fn (.func g) cs) => callD call A H g (c.args.toList.map ρ ++ cs.map .p)
      | .fn (.func g) ds => callD call A H g (c.args.toList.map ρ ++ ds)
      | _ => none
    | _ => none
  | _ => none

def putD (tm : List Dv) (dst : Option Tmp) (d : Dv) : List Dv :=
  match dst with
  | some t => tm.set t d
  | none => tm
/-- The truth value that a slot holds, if it is known whether it holds one. -/
def yieldD : Dv → Option (Option Bool)
  | .junk => none
  | .p (.v (.bool b)) => some (some b)
  | _ => some none
/-- Is the operation wanted? -/
def wantD (ops : Array Oper) (tm : List Dv) (o : Oper) : Option Bool :=
  match o.guard with
  | none => some true
  | some (j, want) =>
    match (ops[j]?).bind (·.dst) with
    | none => some false
    | some t => (yieldD (tm.getD t undefD)).map (· == some want)
/-- The operations that may change the heap in a region whose order is drawn. -/
def wrOp : Op → Bool
  | .store .. => true
  | .alloc _ => true
  | .box .. => true
  | .makeSlice .. => true
  | .call { callee := .builtin .append, .. } => true
  | .call { callee := .builtin .copy, .. } => true
  | _ => false
def stepD (P : Program) (A : Ann) (call : CallF) (quiet : Bool) (ops : Array Oper) (o : Oper) (s : St) : Option St :=
  (wantD ops s.tmps o).bind fun w =>
  if w then
    (opD P A call s.tmps s.heap o).bind fun (d, h) =>
    match h with
    | none => some { s with tmps := putD s.tmps o.dst d }
    | some h => if quiet && !wrOp o.op then none else some { s with tmps := putD s.tmps o.dst d, heap := h }
  else some { s with tmps := putD s.tmps o.dst undefD }
def opsD (P : Program) (A : Ann) (call : CallF) (quiet : Bool) (ops : Array Oper) : List Oper → St → Option St
  | [], s => some s
  | o :: rest, s => (stepD P A call quiet ops o s).bind (opsD P A call quiet ops rest)

/-! ### Regions whose order is drawn: what may change places -/
inductive Cls where | n | r | w deriving DecidableEq
def clsOf (quiet : Bool) : Op → Cls
  | .load .. => .r
  | .slice .. => .r
  | .buildSlice .. => if quiet then .r else .w
  | .store .. => .w
  | .alloc _ => .w
  | .box .. => .w
  | .makeSlice .. => .w
  | .call { callee := .builtin .append, .. } => .w
  | .call { callee := .builtin .copy, .. } => .w
  | .call { callee := .builtin _, .. } => .n
  | .call _ => if quiet then .r else .w
  | _ => .n
def compat : Cls → Cls → Bool
  | .n, _ => true
  | _, .n => true
  | .r, .r => true
  | _, _ => false
/-- What an operation waits for, directly or through others. -/
def maskOf (acc : List Nat) (l : List Edge) (s : Nat) : Nat :=
  match l with
  | [] => s
  | e :: l => maskOf acc l (if Region.binds .any e then s ||| 2 ^ e.on ||| acc.getD e.on 0 else s)
def waitsGo : List Oper → List Nat → List Nat
  | [], acc => acc
  | o :: l, acc => waitsGo l (acc ++ [maskOf acc o.after.toList 0])
def waits (ops : List Oper) : List Nat := waitsGo ops []
def edgesOk (ops : List Oper) : Bool := ops.zipIdx.all fun (o, k) => o.after.toList.all fun e => !Region.binds .any e || decide (e.on < k)
def pairsOk (quiet : Bool) (opsA : Array Oper) (ws : List Nat) : List (Oper × Nat) → Bool
  | [] => true
  | (o, i) :: rest => (rest.all fun (o', j) => (ws.getD j 0).testBit i || (o.apart opsA o' && compat (clsOf quiet o.op) (clsOf quiet o'.op))) && pairsOk quiet opsA ws rest
def regB (quiet : Bool) (ops : Array Oper) : Bool := edgesOk ops.toList && pairsOk quiet ops (waits ops.toList) ops.toList.zipIdx
/-- All regions of a body. -/
def codeOk (A : Ann) (f : Nat) : Code → Bool
  | .region id ops draw => !draw || regB (!A.loud f id) ops
  | .seq a b => codeOk A f a && codeOk A f b
  | .cond _ a b => codeOk A f a && codeOk A f b
  | .block _ c => codeOk A f c
  | .loop c => codeOk A f c
  | _ => true

/-! ### Ghosts -/
def keepD (l : List Nat) (s : St) : Option St :=
  let tm := s.tmps.zipIdx.map fun (d, i) => if l.contains i then d else .junk
  let acc := collect s.heap 256 (List.range s.nin ++ refsOfs tm) []
  if accOk s.heap acc (refsOfs tm) && decide (acc.take s.nin = List.range s.nin) then
    some { tmps := mapIdss acc.idxOf tm, heap := acc.map fun i => obMap acc.idxOf (s.heap.getD i .dead), nin := s.nin }
  else none
def killD : List Nat → List Dv → List Dv
  | [], ds => ds
  | i :: l, ds => killD l (ds.set i .junk)
def ghostD : Ghost → St → Option St
  | .keep l, s => keepD l s
  | .own t esz, s => if isNilP (s.tmps.getD t .junk) then some { s with tmps := s.tmps.set t (.ref s.heap.length 0 0 esz), heap := s.heap ++ [.arr []] } else some s
  | .freeze t, s =>
    match purifyD s.heap (s.tmps.getD t .junk) with
    | some (x, l) => some { s with tmps := s.tmps.set t (.p x), heap := freezeAll s.heap l }
    | none => none
  | .kill l, s => some { s with tmps := killD l s.tmps }
def ghostsD : List Ghost → St → Option St
  | [], s => some s
  | g :: l, s => (ghostD g s).bind (ghostsD l)

/-! ### Code -/
inductive Ex where
  | normal
  | exit (id : Nat)
  | ret
def loopD (f : St → Option (Ex × St)) : Nat → St → Option (Ex × St)
  | 0, _ => none
  | k + 1, s =>
    match f s with
    | some (.normal, s') => loopD f k s'
    | r => r
def evC (P : Program) (A : Ann) (call : CallF) (k : Nat) (fid : FuncId) : Code → St → Option (Ex × St)
  | .skip, s => some (.normal, s)
  | .label _, s => some (.normal, s)
  | .region id ops draw, s =>
    (ghostsD (A.pre fid id) s).bind fun s => (opsD P A call (draw && !A.loud fid id) ops ops.toList s).map fun s => (.normal, s)
  | .seq a b, s =>
    match evC P A call k fid a s with
    | some (.normal, s') => evC P A call k fid b s'
    | r => r
  | .cond c t e, s =>
    match boolD (evalO s.tmps c) with
    | some b => if b then evC P A call k fid t s else evC P A call k fid e s
    | none => none
  | .block id body, s =>
    match evC P A call k fid body s with
    | some (.exit id', s') => if id' = id then some (.normal, s') else some (.exit id', s')
    | r => r
  | .loop body, s => loopD (evC P A call k fid body) k s
  | .exit id, s => some (.exit id, s)
  | .ret, s => some (.ret, s)
  | _, _ => none

/-! ### Functions -/
def resD (P : Program) (s : St) : List ResultVar → Option (List Dv)
  | [] => some []
  | .tmp t :: l => (resD P s l).map (s.tmps.getD t .junk :: ·)
  | .cell a t :: l =>
    match loadD P s.heap t (s.tmps.getD a .junk), resD P s l with
    | some d, some ds => some (d :: ds)
    | _, _ => none
def oneD : List Dv → Dv
  | [d] => d
  | ds => mkTup ds
def finishD (P : Program) (A : Ann) (f : FuncId) (fn : Func) (s : St) : Option (Dv × List Ob) :=
  (resD P s fn.results.toList).bind fun ds =>
  (if A.keeps f then some (oneD ds, s.heap) else (purifyD s.heap (oneD ds)).map fun (x, l) => (.p (wk x), freezeAll s.heap l)).bind fun (d, H) =>
  let acc := collect H 256 (List.range s.nin ++ refsOf d) []
  if accOk H acc (refsOf d) && decide (acc.take s.nin = List.range s.nin) then some (mapIds acc.idxOf d, takeAlong H acc) else none
def runD (P : Program) (A : Ann) (call : CallF) (k : Nat) (f : FuncId) (args : List Dv) (H : List Ob) : Option (Dv × List Ob) :=
  if A.okf f then
  match P.funcs[f]? with
  | some fn =>
    match fn.body with
    | some c =>
      match evC P A call k f c { tmps := args ++ List.replicate (fn.ntmps - args.length) undefD, heap := H, nin := H.length } with
      | some (.normal, s) => finishD P A f fn s
      | some (.ret, s) => finishD P A f fn s
      | _ => none
    | none => none
  | none => none
  else none
def callN (P : Program) (A : Ann) : Nat → CallF
  | 0 => fun _ _ _ => none
  | k + 1 => fun f args H => runD P A (callN P A k) k f args H
end Go.Ev
