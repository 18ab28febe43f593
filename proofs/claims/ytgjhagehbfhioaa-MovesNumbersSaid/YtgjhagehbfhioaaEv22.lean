/- More equations: guards, appends, arrays. -/
import Derived.Test.YtgjhagehbfhioaaEv21
set_option linter.unusedVariables false
set_option linter.unusedSimpArgs false
namespace Go.Ev
section
variable {P : Program} {A : Ann} {f : FuncId} {c : CallF} {q : Bool} {ops : Array Oper} {l : List Oper} {tm : List Dv} {H : List Ob} {n t ty : Nat} {pos : String} {af : Array Edge} {dst : Option Tmp} {op : Op}

/-! ### Guards -/
def opsG (P : Program) (A : Ann) (c : CallF) (q : Bool) (ops : Array Oper) (o : Oper) (l : List Oper) (s : St) (x : Option Bool) : Option St :=
  match x with
  | some true => opsD P A c q ops (o :: l) s
  | some false => opsD P A c q ops l { s with tmps := putD s.tmps o.dst undefD }
  | none => none
def wantT (x : Option Tmp) (tm : List Dv) (w : Bool) : Option Bool :=
  match x with
  | none => some false
  | some t => (yieldD (tm.getD t undefD)).map (· == some w)
theorem ops_guard {j : Nat} {w : Bool} : opsD P A c q ops (⟨dst, op, ty, pos, af, some (j, w)⟩ :: l) ⟨tm, H, n⟩ = opsG P A c q ops ⟨dst, op, ty, pos, af, none⟩ l ⟨tm, H, n⟩ (wantT ((ops[j]?).bind (·.dst)) tm w) := by
  simp only [opsD, stepD, wantD, opsG, wantT]
  rw [show opD P A c tm H ⟨dst, op, ty, pos, af, some (j, w)⟩ = opD P A c tm H ⟨dst, op, ty, pos, af, none⟩ from rfl]
  generalize (ops[j]?.bind fun x => x.dst) = x
  cases x with
  | none => rfl
  | some t =>
    simp only []
    cases (yieldD (tm.getD t undefD)).map fun x => x == some w with
    | none => rfl
    | some b => cases b <;> rfl
theorem opsG_true {o : Oper} {s : St} : opsG P A c q ops o l s (some true) = opsD P A c q ops (o :: l) s := rfl
theorem opsG_false {o : Oper} {s : St} : opsG P A c q ops o l s (some false) = opsD P A c q ops l { s with tmps := putD s.tmps o.dst undefD } := rfl
theorem opsG_prop {o : Oper} {s : St} {p : Prop} [Decidable p] : opsG P A c q ops o l s (some (decide p)) = if p then opsD P A c q ops (o :: l) s else opsD P A c q ops l { s with tmps := putD s.tmps o.dst undefD } := by
  by_cases h : p <;> simp [h, opsG]
theorem opsG_not {o : Oper} {s : St} {p : Prop} [Decidable p] : opsG P A c q ops o l s (some (!decide p)) = if p then opsD P A c q ops l { s with tmps := putD s.tmps o.dst undefD } else opsD P A c q ops (o :: l) s := by
  by_cases h : p <;> simp [h, opsG]
theorem wantT_some {t : Nat} {w : Bool} : wantT (some t) tm w = (yieldD (tm.getD t undefD)).map (· == some w) := rfl
theorem yield_bv {b w : Bool} : (yieldD (bv b)).map (· == some w) = some (b == w) := by cases b <;> cases w <;> rfl
theorem yield_undef {w : Bool} : (yieldD undefD).map (· == some w) = some false := by cases w <;> rfl
theorem putD_some {d : Dv} : putD tm (some t) d = tm.set t d := rfl
theorem putD_none {d : Dv} : putD tm none d = tm := rfl
theorem beq_true' {b : Bool} : (b == true) = b := by cases b <;> rfl
theorem beq_false' {b : Bool} : (b == false) = !b := by cases b <;> rfl

/-! ### Scalars -/
def pickD (x : Option Bool) (a b : Dv) : Option Dv := x.map fun t => if t then a else b
theorem ops_pick {x a b : Operand} : opsD P A c q ops (⟨some t, .pick x a b, ty, pos, af, none⟩ :: l) ⟨tm, H, n⟩ =
    opsP P A c q ops l tm H n t (pickD (boolD (evalO tm x)) (evalO tm a) (evalO tm b)) := by
  refine n1_gen ?_
  simp only [opD, pickD]
  cases boolD (evalO tm x) <;> rfl
theorem pickD_true {a b : Dv} : pickD (some true) a b = some a := rfl
theorem pickD_false {a b : Dv} : pickD (some false) a b = some b := rfl
theorem pickD_prop {p : Prop} [Decidable p] {a b : Dv} : pickD (some (decide p)) a b = if p then some a else some b := by
  by_cases h : p <;> simp [pickD, h]
def unD (P : Program) (op : UnOp) (x : Dv) : Option Dv := (concD x).bind fun a => (pureRun P (Op.unary op a)).map fun r => .p (.v r)
theorem ops_un {uo : UnOp} {ut : TypeId} {x : Operand} : opsD P A c q ops (⟨some t, .unOp uo ut x, ty, pos, af, none⟩ :: l) ⟨tm, H, n⟩ =
    opsP P A c q ops l tm H n t (unD P uo (evalO tm x)) := n1_gen rfl
theorem unD_not {b : Bool} : unD P .not (bv b) = some (bv (!b)) := rfl
def maxD (P : Program) (ts : Array TypeId) (ty : TypeId) (xs : List Dv) : Option Dv := builtinP P .max ts ty xs
def minD (P : Program) (ts : Array TypeId) (ty : TypeId) (xs : List Dv) : Option Dv := builtinP P .min ts ty xs
theorem ops_max {as : Array Operand} {ts : Array TypeId} : opsD P A c q ops (⟨some t, .call { callee := .builtin .max, args := as, argTypes := ts }, ty, pos, af, none⟩ :: l) ⟨tm, H, n⟩ =
    opsP P A c q ops l tm H n t (maxD P ts ty (as.toList.map (evalO tm))) := n1_gen rfl
theorem ops_min {as : Array Operand} {ts : Array TypeId} : opsD P A c q ops (⟨some t, .call { callee := .builtin .min, args := as, argTypes := ts }, ty, pos, af, none⟩ :: l) ⟨tm, H, n⟩ =
    opsP P A c q ops l tm H n t (minD P ts ty (as.toList.map (evalO tm))) := n1_gen rfl
theorem maxD_int {ts : Array TypeId} {a b : Int} : maxD P ts ty [iv a, iv b] = some (iv (max a b)) := by
  rw [show maxD P ts ty [iv a, iv b] = some (iv (if b > a then b else a)) from rfl]
  have e : (if b > a then b else a) = max a b := by split <;> omega
  rw [e]
theorem minD_int {ts : Array TypeId} {a b : Int} : minD P ts ty [iv a, iv b] = some (iv (min a b)) := by
  rw [show minD P ts ty [iv a, iv b] = some (iv (if b < a then b else a)) from rfl]
  have e : (if b < a then b else a) = min a b := by split <;> omega
  rw [e]

/-! ### Slices -/
def bsD (P : Program) (H : List Ob) (t : TypeId) (len : Nat) (parts : List (Nat × Dv)) : Option (Dv × Option (List Ob)) :=
    match P.underlying t with
    | some (.slice e) =>
      (szOf P e).bind fun sz => (zeroCs P e).bind fun z =>
      if sz = 0 ∨ z.length ≠ sz ∨ len * sz > 2 ^ 24 then none else
      (fillD (fun i => some (i * sz, sz)) ((repl len z).map .p) parts).bind fun ds =>
      (purifys H ds).map fun (cs, l) => (.p (.lst true len cs), if l.isEmpty then none else some (freezeAll H l))
    | _ => none
theorem ops_bs {st : TypeId} {len : Nat} {parts : Array (Nat × Operand)} : opsD P A c q ops (⟨some t, .buildSlice st len parts, ty, pos, af, none⟩ :: l) ⟨tm, H, n⟩ =
    opsQ P A c q ops l tm H n t false (bsD P H st len (parts.toList.map fun (i, x) => (i, evalO tm x))) := by
  rw [ops_gen]; rfl
theorem bsD_one {st e : TypeId} {x z : Pv} (h : P.underlying st = some (.slice e)) (hs : szOf P e = some 1) (hz : zeroCs P e = some [z]) (hx : cellsD (.p x) = some [.p x]) : bsD P H st 1 [(0, .p x)] = some (.p (.lst true 1 [x]), none) := by
  simp only [bsD, h, hs, hz, Option.bind_some, List.length_cons, List.length_nil]
  rw [if_neg (by decide)]
  simp [fillD, hx, repl, setAt, purifys, purify]
theorem cells_int {k : IntKind} {x : Int} : cellsD (.p (.v (.int k x))) = some [.p (.v (.int k x))] := rfl
theorem ops_append {x y : Operand} {ts : Array TypeId} : opsD P A c q ops (⟨some t, .call { callee := .builtin .append, args := #[x, y], argTypes := ts }, ty, pos, af, none⟩ :: l) ⟨tm, H, n⟩ =
    opsQ P A c q ops l tm H n t true ((appendD P H ts (evalO tm x) (evalO tm y)).map fun (r, h) => (r, some h)) := by
  rw [ops_gen]; rfl
theorem app_ref {e e2 t1 t2 : TypeId} {sz b : Nat} {z : List Pv} {id n m : Nat} {full : Bool} {cs new : List Pv} (h : P.underlying t1 = some (.slice e)) (h2 : P.underlying t2 = some (.slice e2)) (hs : szOf P e = some sz) (hb : bytesOf P e = some b) (hz : zeroCs P e = some z)
    (h3 : sz ≠ 0 ∧ b ≠ 0 ∧ z.length = sz) (hid : H[id]? = some (.arr cs)) (hn : new.length = m * sz) (hc : cs.length = n * sz) (hlen : (n + m) * b ≤ 140737488355328) :
    appendD P H #[t1, t2] (.ref id 0 n sz) (.p (.lst full m new)) = some (.ref H.length 0 (n + m) sz, H.set id .dead ++ [.arr (cs ++ new)]) := by
  have e1 : (#[t1, t2] : Array TypeId)[0]? = some t1 := rfl
  have e3 : srcT P #[t1, t2] = true := by simp [srcT, h2]
  simp only [appendD, e1, Option.bind_some, h, hs, hb, hz, e3]
  rw [if_neg (by simp [h3])]
  simp only [srcCells, if_pos hn, Option.bind_some, hid]
  rw [if_pos ⟨trivial, by omega, hlen⟩]
  simp [← hc]
/-- A slice that fills its object is given away. -/
theorem purify_ref {id n sz : Nat} {cs : List Pv} (hid : H[id]? = some (.arr cs)) (hc : cs.length = n * sz) : purifyD H (oneD [.ref id 0 n sz]) = some (.lst false n cs, [id]) := by
  simp [oneD, purifyD, purify, hid, ← hc]
theorem oneD_one {d : Dv} : oneD [d] = d := rfl

/-! ### Arrays -/
theorem ops_make {st : TypeId} {x y : Operand} : opsD P A c q ops (⟨some t, .makeSlice st x y, ty, pos, af, none⟩ :: l) ⟨tm, H, n⟩ =
    opsQ P A c q ops l tm H n t true ((makeD P H st (evalO tm x) (evalO tm y)).map fun (r, h) => (r, some h)) := by
  rw [ops_gen]; rfl
theorem makeD_ok {st e sz b m : Nat} {z : List Pv} (h : P.underlying st = some (.slice e)) (hs : szOf P e = some sz) (hb : bytesOf P e = some b) (hz : zeroCs P e = some z) (h3 : sz ≠ 0 ∧ b ≠ 0 ∧ z.length = sz) (hm : b * m ≤ 281474976710656) :
    makeD P H st (iv m) (iv m) = some (.ref H.length 0 m sz, H ++ [.arr (repl m z)]) := by
  simp only [makeD, h, intD, hs, hb, hz, Option.bind_some]
  rw [if_neg (by simp [h3]), if_pos ⟨by omega, by omega, by rw [← Int.natCast_mul]; exact Int.ofNat_le.2 hm⟩]
  rfl
theorem loadD_arr {t : TypeId} {id off : Nat} {cs : List Pv} (h : aggT P t = some false) (hid : H[id]? = some (.arr cs)) : loadD P H t (.ptr id off) = (cs[off]?).map .p := by
  simp [loadD, h, hid, Ob.cell?]
theorem storeD_arr {t : TypeId} {id off : Nat} {cs : List Pv} {x : Pv} (hs : szOf P t = some 1) (hid : H[id]? = some (.arr cs)) (hx : cellsD (.p x) = some [.p x]) (ho : off < cs.length) :
    storeD P H t (.ptr id off) (.p x) = some (H.set id (.arr (cs.set off x))) := by
  simp only [storeD, hs, hid, hx, purifys, purify]
  rw [if_pos (by simp; omega)]
  simp [freezeAll, setAt]
/-! ### The same, for rewriting: the object is looked up first -/
def ldOb (x : Option Ob) (off : Nat) : Option Dv := x.bind fun o => o.cell? off
theorem loadD_ptr {t : TypeId} {id off : Nat} (h : aggT P t = some false) : loadD P H t (.ptr id off) = ldOb H[id]? off := by
  simp only [loadD, h, ldOb]
  cases H[id]? <;> rfl
theorem ldOb_arr {cs : List Pv} {off : Nat} : ldOb (some (.arr cs)) off = (cs[off]?).map .p := rfl
theorem ldOb_frz {cs : List Pv} {off : Nat} : ldOb (some (.frz cs)) off = (cs[off]?).map .p := rfl
theorem ldOb_var {cs : List Dv} {off : Nat} : ldOb (some (.var cs)) off = cs[off]? := rfl
def stOb (H : List Ob) (id off : Nat) (x : Pv) (o : Option Ob) : Option (List Ob) :=
  match o with
  | some (.arr cs) => if off < cs.length then some (H.set id (.arr (cs.set off x))) else none
  | some (.var cs) => if off < cs.length then some (H.set id (.var (cs.set off (.p x)))) else none
  | _ => none
theorem storeD_ptr {t : TypeId} {id off : Nat} {x : Pv} (hs : szOf P t = some 1) (hx : cellsD (.p x) = some [.p x]) :
    storeD P H t (.ptr id off) (.p x) = stOb H id off x H[id]? := by
  simp only [storeD, hs, hx]
  cases hid : H[id]? with
  | none => rfl
  | some o =>
    cases o with
    | arr cs =>
      simp only [stOb, purifys, purify]
      by_cases h : off < cs.length
      · rw [if_pos (by simp; omega), if_pos h]; simp [freezeAll, setAt]
      · rw [if_neg (by simp; omega), if_neg h]
    | var cs =>
      simp only [stOb]
      by_cases h : off < cs.length
      · rw [if_pos (by simp; omega), if_pos h]; simp [setAt]
      · rw [if_neg (by simp; omega), if_neg h]
    | _ => rfl
theorem stOb_arr {id off : Nat} {x : Pv} {cs : List Pv} (h : off < cs.length) : stOb H id off x (some (.arr cs)) = some (H.set id (.arr (cs.set off x))) := by simp [stOb, h]
theorem stOb_var {id off : Nat} {x : Pv} {cs : List Dv} (h : off < cs.length) : stOb H id off x (some (.var cs)) = some (H.set id (.var (cs.set off (.p x)))) := by simp [stOb, h]
def appOb (H : List Ob) (id off n m esz sz b : Nat) (new : List Pv) (o : Option Ob) : Option (Dv × List Ob) :=
  match o with
  | some (.arr cs) => if esz = sz ∧ off + n * sz ≤ cs.length ∧ (n + m) * b ≤ 140737488355328 then some (.ref H.length 0 (n + m) sz, H.set id .dead ++ [.arr ((cs.drop off).take (n * sz) ++ new)]) else none
  | _ => none
theorem appendD_ref {e e2 t1 t2 : TypeId} {sz b : Nat} {z : List Pv} {id off esz n m : Nat} {full : Bool} {new : List Pv} (h : P.underlying t1 = some (.slice e)) (h2 : P.underlying t2 = some (.slice e2)) (hs : szOf P e = some sz) (hb : bytesOf P e = some b) (hz : zeroCs P e = some z)
    (h3 : sz ≠ 0 ∧ b ≠ 0 ∧ z.length = sz) (hn : new.length = m * sz) :
    appendD P H #[t1, t2] (.ref id off n esz) (.p (.lst full m new)) = appOb H id off n m esz sz b new H[id]? := by
  have e1 : (#[t1, t2] : Array TypeId)[0]? = some t1 := rfl
  have e3 : srcT P #[t1, t2] = true := by simp [srcT, h2]
  simp only [appendD, e1, Option.bind_some, h, hs, hb, hz, e3]
  rw [if_neg (by simp [h3])]
  simp only [srcCells, if_pos hn, Option.bind_some]
  cases H[id]? with
  | none => rfl
  | some o => cases o <;> rfl
theorem appOb_arr {id n m sz b : Nat} {cs new : List Pv} (hc : cs.length = n * sz) (hlen : (n + m) * b ≤ 140737488355328) : appOb H id 0 n m sz sz b new (some (.arr cs)) = some (.ref H.length 0 (n + m) sz, H.set id .dead ++ [.arr (cs ++ new)]) := by
  rw [appOb, if_pos ⟨rfl, by omega, hlen⟩]
  simp [← hc]
theorem ops_slice {st : TypeId} {x : Operand} {lo hi : Option Operand} : opsD P A c q ops (⟨some t, .slice st x lo hi none, ty, pos, af, none⟩ :: l) ⟨tm, H, n⟩ =
    opsP P A c q ops l tm H n t (sliceD P H st (evalO tm x) (lo.map (evalO tm)) (hi.map (evalO tm)) none) := by
  refine n1_gen ?_
  simp [opD]
/-- The cells of a part of a slice. -/
theorem slice_lo {st e sz m : Nat} {full : Bool} {cells : List Pv} {a : Int} (h : P.underlying st = some (.slice e)) (hs : szOf P e = some sz) (hz : sz ≠ 0) (hc : cells.length = m * sz) (h0 : 0 ≤ a) (h1 : a ≤ m) :
    sliceD P H st (.p (.lst full m cells)) (some (iv a)) none none = some (.p (.lst full (m - a.toNat) ((cells.drop (a.toNat * sz)).take ((m - a.toNat) * sz)))) := by
  simp only [sliceD, h, hs, Option.bind_some]
  rw [if_neg hz, if_pos hc]
  simp [boundD, intD, h0, h1]
theorem slice_lohi {st e sz m : Nat} {full : Bool} {cells : List Pv} {a b : Int} (h : P.underlying st = some (.slice e)) (hs : szOf P e = some sz) (hz : sz ≠ 0) (hc : cells.length = m * sz) (h0 : 0 ≤ a) (h1 : a ≤ b) (h2 : b ≤ m) :
    sliceD P H st (.p (.lst full m cells)) (some (iv a)) (some (iv b)) none = some (.p (.lst (full && decide (b.toNat = m)) (b.toNat - a.toNat) ((cells.drop (a.toNat * sz)).take ((b.toNat - a.toNat) * sz)))) := by
  simp only [sliceD, h, hs, Option.bind_some]
  rw [if_neg hz, if_pos hc]
  have e1 : (0 : Int) ≤ b := by omega
  have e2 : a ≤ max b 0 := by omega
  simp [boundD, intD, h0, h1, h2, e1, e2]
theorem slice_hi {st e sz m : Nat} {full : Bool} {cells : List Pv} {b : Int} (h : P.underlying st = some (.slice e)) (hs : szOf P e = some sz) (hz : sz ≠ 0) (hc : cells.length = m * sz) (h0 : 0 ≤ b) (h2 : b ≤ m) :
    sliceD P H st (.p (.lst full m cells)) none (some (iv b)) none = some (.p (.lst (full && decide (b.toNat = m)) b.toNat (cells.take (b.toNat * sz)))) := by
  simp only [sliceD, h, hs, Option.bind_some]
  rw [if_neg hz, if_pos hc]
  simp [boundD, intD, h0, h2]
theorem set8 {α : Type} {a0 a1 a2 a3 a4 a5 a6 a7 b : α} {as : List α} {k : Nat} : (a0 :: a1 :: a2 :: a3 :: a4 :: a5 :: a6 :: a7 :: as).set (k + 8) b = a0 :: a1 :: a2 :: a3 :: a4 :: a5 :: a6 :: a7 :: as.set k b := rfl
theorem getD8 {α : Type} {a0 a1 a2 a3 a4 a5 a6 a7 b : α} {as : List α} {k : Nat} : (a0 :: a1 :: a2 :: a3 :: a4 :: a5 :: a6 :: a7 :: as).getD (k + 8) b = as.getD k b := rfl
theorem Wp.ctx (C : Option (Ex × St) → Option (Ex × St)) {x : Option (Ex × St)} {Q R : Ex → St → Prop} (h : Wp x Q) (k : ∀ e s, Q e s → Wp (C (some (e, s))) R) : Wp (C x) R :=
  let ⟨e, s, h1, h2⟩ := h; by rw [h1]; exact k e s h2
theorem bind_map_some {α β : Type} {x : α} {g : α → β} : (some x).map g = some (g x) := rfl
end
end Go.Ev
