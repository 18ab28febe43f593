/- Equations of the interpreter without fuel, one for each kind of operation: rewriting with them steps through code whose frames are known. -/
import Derived.Test.YtgjhagehbfhioaaEv19
set_option linter.unusedVariables false
set_option linter.unusedSimpArgs false
namespace Go.Ev

abbrev iv (x : Int) : Dv := .p (.v (.int .i64 x))
abbrev bv (b : Bool) : Dv := .p (.v (.bool b))
abbrev pi_ (x : Int) : Pv := .v (.int .i64 x)
def w64 (x : Int) : Int := IntKind.wrap .i64 x
theorem w64_id {x : Int} (h1 : -9223372036854775808 ≤ x) (h2 : x < 9223372036854775808) : w64 x = x := by
  change (if (true && decide (x % 18446744073709551616 ≥ 9223372036854775808)) = true then x % 18446744073709551616 - 18446744073709551616 else x % 18446744073709551616) = x
  simp only [Bool.true_and, decide_eq_true_eq]
  split <;> omega

section
variable {P : Program} {A : Ann} {f : FuncId} {c : CallF} {q : Bool} {ops : Array Oper} {l : List Oper} {tm : List Dv} {H : List Ob} {n t ty : Nat} {pos : String} {af : Array Edge}

/-- An operation has given its value. -/
def opsP (P : Program) (A : Ann) (c : CallF) (q : Bool) (ops : Array Oper) (l : List Oper) (tm : List Dv) (H : List Ob) (n t : Nat) (x : Option Dv) : Option St :=
  x.bind fun d => opsD P A c q ops l ⟨tm.set t d, H, n⟩
def opsQ (P : Program) (A : Ann) (c : CallF) (q : Bool) (ops : Array Oper) (l : List Oper) (tm : List Dv) (H : List Ob) (n t : Nat) (w : Bool) (x : Option (Dv × Option (List Ob))) : Option St :=
  x.bind fun y => match y with
    | (d, none) => opsD P A c q ops l ⟨tm.set t d, H, n⟩
    | (d, some h) => if q && !w then none else opsD P A c q ops l ⟨tm.set t d, h, n⟩
theorem opsP_some {d : Dv} : opsP P A c q ops l tm H n t (some d) = opsD P A c q ops l ⟨tm.set t d, H, n⟩ := rfl
theorem opsQ_none {d : Dv} {w : Bool} : opsQ P A c q ops l tm H n t w (some (d, none)) = opsD P A c q ops l ⟨tm.set t d, H, n⟩ := rfl
theorem opsQ_some {d : Dv} {h : List Ob} : opsQ P A c q ops l tm H n t true (some (d, some h)) = opsD P A c q ops l ⟨tm.set t d, h, n⟩ := by
  simp [opsQ]
theorem opsQ_loud {d : Dv} {h : List Ob} {w : Bool} : opsQ P A c false ops l tm H n t w (some (d, some h)) = opsD P A c false ops l ⟨tm.set t d, h, n⟩ := by
  simp [opsQ]
theorem ops_nil {s : St} : opsD P A c q ops [] s = some s := rfl
theorem ops_gen {op : Op} : opsD P A c q ops (⟨some t, op, ty, pos, af, none⟩ :: l) ⟨tm, H, n⟩ = opsQ P A c q ops l tm H n t (wrOp op) (opD P A c tm H ⟨some t, op, ty, pos, af, none⟩) := by
  simp only [opsD, stepD, wantD, Option.bind_some, if_true, opsQ]
  cases opD P A c tm H ⟨some t, op, ty, pos, af, none⟩ with
  | none => rfl
  | some y =>
    obtain ⟨d, h⟩ := y
    cases h with
    | none => rfl
    | some h =>
      simp only [Option.bind_some, putD]
      split <;> rfl
theorem n1_gen {op : Op} {x : Option Dv} (h : opD P A c tm H ⟨some t, op, ty, pos, af, none⟩ = x.map fun d => (d, none)) :
    opsD P A c q ops (⟨some t, op, ty, pos, af, none⟩ :: l) ⟨tm, H, n⟩ = opsP P A c q ops l tm H n t x := by
  rw [ops_gen, h]
  cases x <;> rfl
theorem ops_move {x : Operand} : opsD P A c q ops (⟨some t, .move x, ty, pos, af, none⟩ :: l) ⟨tm, H, n⟩ = opsD P A c q ops l ⟨tm.set t (evalO tm x), H, n⟩ := rfl
theorem ops_assign {x : Operand} : opsD P A c q ops (⟨some t, .assign x, ty, pos, af, none⟩ :: l) ⟨tm, H, n⟩ = opsD P A c q ops l ⟨tm.set t (evalO tm x), H, n⟩ := rfl
theorem ops_bin {op : BinOp} {xt : TypeId} {x y : Operand} {yt : TypeId} : opsD P A c q ops (⟨some t, .binOp op xt x y yt, ty, pos, af, none⟩ :: l) ⟨tm, H, n⟩ =
    opsP P A c q ops l tm H n t (binD P op xt x y (evalO tm x) (evalO tm y)) := n1_gen rfl
theorem ops_load {xt : TypeId} {x : Operand} : opsD P A c q ops (⟨some t, .load xt x, ty, pos, af, none⟩ :: l) ⟨tm, H, n⟩ =
    opsP P A c q ops l tm H n t (loadD P H xt (evalO tm x)) := n1_gen rfl
def idxD (P : Program) (t : TypeId) (x ix : Dv) : Option Dv := (intD ix).bind fun i =>
      match P.underlying t, x with
      | some (.slice e), .p (.lst _ n cells) => (szOf P e).bind fun sz => if 0 ≤ i ∧ i < n ∧ sz ≠ 0 ∧ cells.length = n * sz then some (.p (.iptr cells (i.toNat * sz))) else none
      | some (.slice e), .ref id off n esz => (szOf P e).bind fun sz => if 0 ≤ i ∧ i < n ∧ sz = esz ∧ sz ≠ 0 then some (.ptr id (off + i.toNat * sz)) else none
      | some (.array n e), .ptr id off => (szOf P e).bind fun sz => if 0 ≤ i ∧ i < n ∧ sz ≠ 0 then some (.ptr id (off + i.toNat * sz)) else none
      | some (.array n e), .p (.iptr cells off) => (szOf P e).bind fun sz => if 0 ≤ i ∧ i < n ∧ sz ≠ 0 then some (.p (.iptr cells (off + i.toNat * sz))) else none
      | _, _ => none
theorem ops_indexAddr {xt : TypeId} {x y : Operand} : opsD P A c q ops (⟨some t, .indexAddr xt x y, ty, pos, af, none⟩ :: l) ⟨tm, H, n⟩ =
    opsP P A c q ops l tm H n t (idxD P xt (evalO tm x) (evalO tm y)) := n1_gen rfl
theorem ops_store {xt : TypeId} {x y : Operand} : opsD P A c q ops (⟨none, .store xt x y, ty, pos, af, none⟩ :: l) ⟨tm, H, n⟩ =
    (match storeD P H xt (evalO tm x) (evalO tm y) with | some h => opsD P A c q ops l ⟨tm, h, n⟩ | none => none) := by
  simp only [opsD, stepD, wantD, Option.bind_some, if_true, opD]
  cases storeD P H xt (evalO tm x) (evalO tm y) with
  | none => rfl
  | some h => simp [wrOp, putD]
theorem ops_len {x : Operand} {xt : TypeId} : opsD P A c q ops (⟨some t, .call { callee := .builtin .len, args := #[x], argTypes := #[xt] }, ty, pos, af, none⟩ :: l) ⟨tm, H, n⟩ =
    opsP P A c q ops l tm H n t (lenD P xt (evalO tm x)) := by
  refine n1_gen ?_
  simp [opD, builtinD, builtinP]
theorem evalO_tmp {i : Nat} : evalO tm (.tmp i) = tm.getD i .junk := rfl
theorem evalO_const {x : Value} : evalO tm (.const x) = .p (ofVal x) := rfl
theorem ofVal_int {k : IntKind} {x : Int} : ofVal (.int k x) = .v (.int k x) := rfl
theorem ofVal_bool {b : Bool} : ofVal (.bool b) = .v (.bool b) := rfl
theorem ofVal_nil : ofVal (.slice none 0 0) = .lst true 0 [] := rfl

theorem binD_add {xt : TypeId} {x y : Operand} {a b : Int} : binD P .add xt x y (iv a) (iv b) = some (iv (w64 (a + b))) := rfl
theorem binD_sub {xt : TypeId} {x y : Operand} {a b : Int} : binD P .sub xt x y (iv a) (iv b) = some (iv (w64 (a - b))) := rfl
theorem binD_mul {xt : TypeId} {x y : Operand} {a b : Int} : binD P .mul xt x y (iv a) (iv b) = some (iv (w64 (a * b))) := rfl
theorem binD_lss {xt : TypeId} {x y : Operand} {a b : Int} : binD P .lss xt x y (iv a) (iv b) = some (bv (decide (a < b))) := rfl
theorem binD_leq {xt : TypeId} {x y : Operand} {a b : Int} : binD P .leq xt x y (iv a) (iv b) = some (bv (decide (a ≤ b))) := rfl
theorem binD_gtr {xt : TypeId} {x y : Operand} {a b : Int} : binD P .gtr xt x y (iv a) (iv b) = some (bv (decide (b < a))) := rfl
theorem binD_geq {xt : TypeId} {x y : Operand} {a b : Int} : binD P .geq xt x y (iv a) (iv b) = some (bv (decide (b ≤ a))) := rfl
theorem binD_eql {xt : TypeId} {x y : Operand} {a b : Int} : binD P .eql xt x y (iv a) (iv b) = some (bv (decide (a = b))) := rfl
theorem binD_neq {xt : TypeId} {x y : Operand} {a b : Int} : binD P .neq xt x y (iv a) (iv b) = some (bv (!decide (a = b))) := rfl

theorem lenD_lst {t e : TypeId} {full : Bool} {m : Nat} {cells : List Pv} (h : P.underlying t = some (.slice e)) : lenD P t (.p (.lst full m cells)) = some (iv m) := by
  simp only [lenD, h]; rfl
theorem lenD_ref {t e : TypeId} {id off m esz : Nat} (h : P.underlying t = some (.slice e)) : lenD P t (.ref id off m esz) = some (iv m) := by
  simp only [lenD, h]; rfl
theorem idxD_lst {t e sz : Nat} {full : Bool} {m : Nat} {cells : List Pv} {i : Int} (h : P.underlying t = some (.slice e)) (hs : szOf P e = some sz) (hz : sz ≠ 0) (h0 : 0 ≤ i) (h1 : i < m) (hc : cells.length = m * sz) :
    idxD P t (.p (.lst full m cells)) (iv i) = some (.p (.iptr cells (i.toNat * sz))) := by
  simp only [idxD, intD, h, hs, Option.bind_some]
  rw [if_pos ⟨h0, h1, hz, hc⟩]
theorem idxD_ref {t e sz : Nat} {id off m : Nat} {i : Int} (h : P.underlying t = some (.slice e)) (hs : szOf P e = some sz) (hz : sz ≠ 0) (h0 : 0 ≤ i) (h1 : i < m) :
    idxD P t (.ref id off m sz) (iv i) = some (.ptr id (off + i.toNat * sz)) := by
  simp only [idxD, intD, h, hs, Option.bind_some]
  rw [if_pos ⟨h0, h1, trivial, hz⟩]
theorem loadD_iptr {t : TypeId} {cells : List Pv} {off : Nat} (h : aggT P t = some false) : loadD P H t (.p (.iptr cells off)) = (cells[off]?).map .p := by
  simp [loadD, h]

/-! ### Code -/
noncomputable def seqW (P : Program) (A : Ann) (f : FuncId) (b : Code) (x : Option (Ex × St)) : Option (Ex × St) := match x with | some (.normal, s') => evW P A f b s' | r => r
noncomputable def condW (P : Program) (A : Ann) (f : FuncId) (t e : Code) (s : St) (x : Option Bool) : Option (Ex × St) := match x with | some b => if b then evW P A f t s else evW P A f e s | none => none
def blockW (id : Nat) (x : Option (Ex × St)) : Option (Ex × St) := match x with | some (.exit id', s') => if id' = id then some (.normal, s') else some (.exit id', s') | r => r
noncomputable def regW (P : Program) (A : Ann) (q : Bool) (ops : Array Oper) (l : List Oper) (s : Option St) : Option (Ex × St) := s.bind fun s => (opsD P A (callW P A) q ops l s).map fun s => (.normal, s)
def doneW (s : Option St) : Option (Ex × St) := s.map fun s => (.normal, s)
theorem w_region {id : Nat} {draw : Bool} {s : St} : evW P A f (.region id ops draw) s = regW P A (draw && !A.loud f id) ops ops.toList (ghostsD (A.pre f id) s) := evW_region
theorem regW_some {s : St} : regW P A q ops l (some s) = doneW (opsD P A (callW P A) q ops l s) := rfl
theorem doneW_some {s : St} : doneW (some s) = some (.normal, s) := rfl
theorem w_seq {a b : Code} {s : St} : evW P A f (.seq a b) s = seqW P A f b (evW P A f a s) := evW_seq
theorem seqW_normal {b : Code} {s : St} : seqW P A f b (some (.normal, s)) = evW P A f b s := rfl
theorem seqW_ret {b : Code} {s : St} : seqW P A f b (some (.ret, s)) = some (.ret, s) := rfl
theorem seqW_exit {b : Code} {i : Nat} {s : St} : seqW P A f b (some (.exit i, s)) = some (.exit i, s) := rfl
theorem w_cond {x : Operand} {t e : Code} {s : St} : evW P A f (.cond x t e) s = condW P A f t e s (boolD (evalO s.tmps x)) := evW_cond
theorem condW_true {t e : Code} {s : St} : condW P A f t e s (some true) = evW P A f t s := rfl
theorem condW_false {t e : Code} {s : St} : condW P A f t e s (some false) = evW P A f e s := rfl
theorem boolD_bv {b : Bool} : boolD (bv b) = some b := rfl
theorem w_block {id : Nat} {b : Code} {s : St} : evW P A f (.block id b) s = blockW id (evW P A f b s) := evW_block
theorem blockW_normal {id : Nat} {s : St} : blockW id (some (.normal, s)) = some (.normal, s) := rfl
theorem blockW_ret {id : Nat} {s : St} : blockW id (some (.ret, s)) = some (.ret, s) := rfl
theorem blockW_exit {id : Nat} {s : St} : blockW id (some (.exit id, s)) = some (.normal, s) := by simp [blockW]
theorem blockW_other {id i : Nat} {s : St} (h : i ≠ id) : blockW id (some (.exit i, s)) = some (.exit i, s) := by simp [blockW, h]
noncomputable def loopW (P : Program) (A : Ann) (f : FuncId) (b : Code) (x : Option (Ex × St)) : Option (Ex × St) := match x with | some (.normal, s') => evW P A f (.loop b) s' | r => r
theorem w_loop {b : Code} {s : St} : evW P A f (.loop b) s = loopW P A f b (evW P A f b s) := evW_loop
theorem loopW_normal {b : Code} {s : St} : loopW P A f b (some (.normal, s)) = evW P A f (.loop b) s := rfl
theorem loopW_ret {b : Code} {s : St} : loopW P A f b (some (.ret, s)) = some (.ret, s) := rfl
theorem loopW_exit {b : Code} {i : Nat} {s : St} : loopW P A f b (some (.exit i, s)) = some (.exit i, s) := rfl
end
end Go.Ev
