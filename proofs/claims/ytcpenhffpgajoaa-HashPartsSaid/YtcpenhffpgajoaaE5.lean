/- A part of the proof: E5. No conditions of its own. -/
import Derived.Test.YtcpenhffpgajoaaE4
import Derived.Laws.StructEq
import Derived.LaidMore
import Derived.MakeChecks
import Derived.Stop.Joined
set_option linter.unusedVariables false
set_option linter.unusedSimpArgs false
namespace Go.Ev
section
variable {P : Program} {A : Ann} {f : FuncId} {c : CallF} {q : Bool} {ops : Array Oper} {l : List Oper} {tm : List Dv} {H : List Ob} {n t ty : Nat} {pos : String} {af : Array Edge}
theorem ofVal_str {s : ByteArray} : ofVal (.string s) = .v (.string s) := rfl
theorem encL_nil {T : Type} {en : T → List Pv} : encL en ([] : List T) = [] := rfl
theorem boxD_leaf {k : IntKind} {x : Int} : boxD H (.p (.v (.int k x))) = some (.ptr H.length 0, some (H ++ [.var [.p (.v (.int k x))]])) := rfl
theorem boxD_bool {b : Bool} : boxD H (.p (.v (.bool b))) = some (.ptr H.length 0, some (H ++ [.var [.p (.v (.bool b))]])) := rfl
theorem boxD_str {s : ByteArray} : boxD H (.p (.v (.string s))) = some (.ptr H.length 0, some (H ++ [.var [.p (.v (.string s))]])) := rfl
theorem boxD_lst {b : Bool} {m : Nat} {cs : List Pv} : boxD H (.p (.lst b m cs)) = some (.ptr H.length 0, some (H ++ [.var [.p (.lst b m cs)]])) := rfl
theorem boxD_agg {cs : List Pv} : boxD H (.p (.agg cs)) = some (.ptr H.length 0, some (H ++ [.var (cs.map .p)])) := rfl
theorem boxD_ref {id off m sz : Nat} : boxD H (.ref id off m sz) = some (.ptr H.length 0, some (H ++ [.var [.ref id off m sz]])) := rfl
def stdOb (H : List Ob) (id off : Nat) (d : Dv) (o : Option Ob) : Option (List Ob) :=
 match o with
 | some (.var cs) => if off < cs.length then some (H.set id (.var (cs.set off d))) else none
 | some (.arr cs) => match d with
  | .p x => if off < cs.length then some (H.set id (.arr (cs.set off x))) else none
  | _ => none
 | _ => none
theorem storeD_leaf {t : TypeId} {id off : Nat} {x : Pv} (hs : szOf P t = some 1) (hx : cellsD (.p x) = some [.p x]) :
  storeD P H t (.ptr id off) (.p x) = stdOb H id off (.p x) H[id]? := by
 rw [storeD_ptr hs hx]
 cases H[id]? with
 | none => rfl
 | some o => cases o <;> rfl
theorem std_enc {id sz k : Nat} {T : Type} {en : T → List Pv} {x : List T} {i : Int} {v v' : T} {p : Pv} (he : ∀ x, (en x).length = sz) (h : rd x i = some v) (hk : k < sz) (hv : en v' = (en v).set k p) :
  stdOb H id (i.toNat * sz + k) (.p p) (some (.arr (encL en x))) = some (H.set id (.arr (encL en (x.set i.toNat v')))) := by
 have := stf_enc (H := H) (id := id) he h hk hv
 simpa [stOb, stdOb] using this
theorem std_enc0 {id sz : Nat} {T : Type} {en : T → List Pv} {x : List T} {i : Int} {v v' : T} {p : Pv} (he : ∀ x, (en x).length = sz) (h : rd x i = some v) (hk : 0 < sz) (hv : en v' = (en v).set 0 p) :
  stdOb H id (i.toNat * sz) (.p p) (some (.arr (encL en x))) = some (H.set id (.arr (encL en (x.set i.toNat v')))) := std_enc (k := 0) he h hk hv
theorem lenD_str {t : TypeId} {s : ByteArray} (h : P.underlying t = some .string) : lenD P t (.p (.v (.string s))) = some (iv s.size) := by
 simp only [lenD, h]; rfl
theorem appendD_nil {e e2 t1 t2 : TypeId} {sz b : Nat} {z : List Pv} {m : Nat} {full : Bool} {new : List Pv} (h : P.underlying t1 = some (.slice e)) (h2 : P.underlying t2 = some (.slice e2)) (hs : szOf P e = some sz) (hb : bytesOf P e = some b) (hz : zeroCs P e = some z)
  (h3 : sz ≠ 0 ∧ b ≠ 0 ∧ z.length = sz) (hn : new.length = m * sz) (hl : m * b ≤ 140737488355328) :
  appendD P H #[t1, t2] (.p (.lst true 0 [])) (.p (.lst full m new)) = some (.ref H.length 0 m sz, H ++ [.arr new]) := by
 have e1 : (#[t1, t2] : Array TypeId)[0]? = some t1 := rfl
 have e3 : srcT P #[t1, t2] = true := by simp [srcT, h2]
 simp only [appendD, e1, Option.bind_some, h, hs, hb, hz, e3]
 rw [if_neg (by simp [h3])]
 simp only [srcCells, if_pos hn, Option.bind_some]
 rw [if_pos ⟨by simp, by rw [Nat.zero_add]; exact hl⟩, if_pos (.inl trivial)]
 simp
end
end Go.Ev

set_option linter.unusedVariables false
set_option linter.unusedSimpArgs false
namespace Go.Ev
section
variable {P : Program}
theorem pureRun_bind {α β : Type} (x : Sem α) (g : α → Sem β) : pureRun P (x >>= g) = (pureRun P x).bind fun a => pureRun P (g a) := by
 induction x with
 | pure a => rfl
 | program k ih => exact ih P
 | mark _ k ih => exact ih
 | _ => rfl
theorem pureRun_pure {α : Type} (a : α) : pureRun P (pure a : Sem α) = some a := rfl
theorem pr_underlying {t : TypeId} {x : TypeDesc} (h : P.underlying t = some x) : pureRun P (underlying t) = some x := by
 show pureRun P (match P.underlying t with | some d => pure d | none => stuck _) = some x
 rw [h]; rfl
theorem pr_equal_bool {d : Nat} {t : TypeId} {a b : Bool} (h : P.underlying t = some .bool) : pureRun P (Op.equalIn (d + 1) t (.bool a) (.bool b)) = some (decide (a = b)) := by
 simp only [Op.equalIn, pureRun_bind, pr_underlying h, Option.bind_some, pureRun_pure]
 rfl
theorem toList_beq (a b : ByteArray) : (a.toList == b.toList) = decide (a = b) := by
 rw [ByteArray.toList_eq, ByteArray.toList_eq]
 obtain ⟨⟨x⟩⟩ := a
 obtain ⟨⟨y⟩⟩ := b
 by_cases h : x = y
 ·subst h; simp
 ·simp [h]
theorem binD_neq_str {xt : TypeId} {x y : Operand} {a b : ByteArray} : binD P .neq xt x y (.p (.v (.string a))) (.p (.v (.string b))) = some (.p (.v (.bool (!decide (a = b))))) := by
 rw [← toList_beq]; rfl
theorem binD_neq_bool {xt : TypeId} {x y : Operand} {a b : Bool} (h : P.underlying xt = some .bool) : binD P .neq xt x y (.p (.v (.bool a))) (.p (.v (.bool b))) = some (.p (.v (.bool (!decide (a = b))))) := by
 simp only [binD, concD, conc, pureRun_bind]
 rw [show pureRun P (eqGuard .neq xt x y (.bool a) (.bool b)) = some () from rfl]
 simp only [Option.bind_some, binOp, pureRun_bind, Op.equal, Op.maxDepth, pr_equal_bool h, pureRun_pure, Option.map_some]
end
end Go.Ev
namespace Go.Ev
section
variable {P : Program} {H : List Ob}
def apOb (H : List Ob) (id off n m esz sz b : Nat) (new : List Pv) (o : Option Ob) : Option (Dv × List Ob) := if new.length = m * sz then appOb H id off n m esz sz b new o else none
theorem appendD_ap {e e2 t1 t2 : TypeId} {sz b : Nat} {z : List Pv} {id off esz n m : Nat} {full : Bool} {new : List Pv} (h : P.underlying t1 = some (.slice e)) (h2 : P.underlying t2 = some (.slice e2)) (hs : szOf P e = some sz) (hb : bytesOf P e = some b) (hz : zeroCs P e = some z)
  (h3 : sz ≠ 0 ∧ b ≠ 0 ∧ z.length = sz) : appendD P H #[t1, t2] (.ref id off n esz) (.p (.lst full m new)) = apOb H id off n m esz sz b new H[id]? := by
 by_cases hn : new.length = m * sz
 ·rw [appendD_ref h h2 hs hb hz h3 hn, apOb, if_pos hn]
 ·have e1 : (#[t1, t2] : Array TypeId)[0]? = some t1 := rfl
  simp only [appendD, e1, Option.bind_some, h, hs, hb, hz, srcCells, if_neg hn, Option.bind_none, apOb]
  split <;> rfl
theorem ap_enc {id sz b m n : Nat} {T : Type} {en : T → List Pv} {x y : List T} {new : List Pv} (he : ∀ x, (en x).length = sz) (hn : n = x.length) (hm : m = y.length) (hnew : new = encL en y) (hl : (x.length + m) * b ≤ 140737488355328) :
  apOb H id 0 n m sz sz b new (some (.arr (encL en x))) = some (.ref H.length 0 (x ++ y).length sz, H.set id .dead ++ [.arr (encL en (x ++ y))]) := by
 subst hn hm hnew
 rw [apOb, if_pos (encL_len he y), app_enc he hl]
def apN (H : List Ob) (m sz b : Nat) (new : List Pv) : Option (Dv × List Ob) := if new.length = m * sz ∧ m * b ≤ 140737488355328 then some (.ref H.length 0 m sz, H ++ [.arr new]) else none
theorem appendD_apn {e e2 t1 t2 : TypeId} {sz b : Nat} {z : List Pv} {m : Nat} {full : Bool} {new : List Pv} (h : P.underlying t1 = some (.slice e)) (h2 : P.underlying t2 = some (.slice e2)) (hs : szOf P e = some sz) (hb : bytesOf P e = some b) (hz : zeroCs P e = some z)
  (h3 : sz ≠ 0 ∧ b ≠ 0 ∧ z.length = sz) : appendD P H #[t1, t2] (.p (.lst true 0 [])) (.p (.lst full m new)) = apN H m sz b new := by
 by_cases hn : new.length = m * sz
 ·by_cases hl : m * b ≤ 140737488355328
  ·rw [appendD_nil h h2 hs hb hz h3 hn hl, apN, if_pos ⟨hn, hl⟩]
  ·have e1 : (#[t1, t2] : Array TypeId)[0]? = some t1 := rfl
   simp only [appendD, e1, Option.bind_some, h, hs, hb, hz, srcCells, if_pos hn, Option.bind_none, apN]
   rw [if_neg (by omega : ¬ (new.length = m * sz ∧ m * b ≤ 140737488355328))]
   split
   ·rfl
   ·rw [if_neg (by rw [Nat.zero_add]; omega)]
 ·have e1 : (#[t1, t2] : Array TypeId)[0]? = some t1 := rfl
  simp only [appendD, e1, Option.bind_some, h, hs, hb, hz, srcCells, if_neg hn, Option.bind_none, apN]
  rw [if_neg (by omega : ¬ (new.length = m * sz ∧ m * b ≤ 140737488355328))]
  split <;> rfl
end
end Go.Ev
namespace Go.Ev
section
variable {P : Program} {H : List Ob} {t : TypeId} {id off : Nat}
theorem storeD_int {k : IntKind} {x : Int} (hs : szOf P t = some 1) : storeD P H t (.ptr id off) (.p (.v (.int k x))) = stdOb H id off (.p (.v (.int k x))) H[id]? := storeD_leaf hs rfl
end
end Go.Ev
namespace Go.Ev
theorem purify1_enc {H : List Ob} {id sz n : Nat} {T : Type} {en : T → List Pv} {x : List T} (he : ∀ x, (en x).length = sz) (hid : H[id]? = some (.arr (encL en x))) (hn : n = x.length) : purifyD H (oneD [.ref id 0 n sz]) = some (.lst false x.length (encL en x), [id]) := by
 simp only [oneD, purifyD]; exact purify_enc he hid hn
end Go.Ev
namespace Go.Ev
section
variable {P : Program} {A : Ann} {H : List Ob} {c : CallF} {f : FuncId}
theorem collect_one {H : List Ob} {id k : Nat} {o : Ob} (hid : H[id]? = some o) (ho : obRefs o = []) : collect H (k + 2) [id] [] = [id] := by
 simp only [collect, List.contains_nil, Bool.false_eq_true, if_false, List.nil_append, hid, ho]
theorem accOk_one {H : List Ob} {id : Nat} {o : Ob} (hid : H[id]? = some o) (ho : obRefs o = []) : accOk H [id] [id] = true := by
 have hlt : id < H.length := (List.getElem?_eq_some_iff.1 hid).1
 have : H[id] = o := (List.getElem?_eq_some_iff.1 hid).2
 simp [accOk, hlt, this, ho]
theorem take_one {H : List Ob} {id : Nat} {o : Ob} (hid : H[id]? = some o) : takeAlong H [id] = [obMap (fun i => [id].idxOf i) o] := by
 simp [takeAlong, List.getD_eq_getElem?_getD, hid]
theorem refs_cons1 {id n sz : Nat} (args : List Pv) : refsOfs (.ref id 0 n sz :: args.map .p) = [id] := by
 simp [refsOfs, refsOf, refs_pure]
section
variable {id n sz n' sz' : Nat} {cs cs' : List Pv} {args : List Pv} {ds : List Dv}
theorem wkA_no {A : Ann} {f : Nat} (h : A.full f = false) : wkA A f = wkDv := by funext d; unfold wkA; rw [h]; rfl
theorem callD_one {r : Dv × List Ob} (hd : ds.map wkDv = args.map .p) (hm : A.muts f = true) (hid : H[id]? = some (.arr cs)) (h : c f (.ref 0 0 n sz :: args.map .p) [.arr cs] = some r) (o : Ob) (h' : List Ob) (hr : r.2 = o :: h') (hb : roBack [.arr cs] r.2 = true) (hfl : A.full f = false := by rfl) :
  callD c A H f (.ref id 0 n sz :: ds) = some (mapIds (backD H.length [id]) r.1, some (putBack (backD H.length [id]) H [id] r.2)) := by
 have e0 : (Dv.ref id 0 n sz :: ds).map wkDv = .ref id 0 n sz :: args.map .p := by
  rw [List.map_cons, hd]; rfl
 have e1 : collect H 64 [id] [] = [id] := collect_one (k := 62) hid rfl
 have e2 := accOk_one hid (show obRefs (.arr cs) = [] from rfl)
 simp only [callD, hm, wkA_no hfl, Bool.true_or, if_true, freezeAll, e0, refs_cons1, e1, e2]
 have e3 : mapIdss (List.idxOf · [id]) (.ref id 0 n sz :: args.map .p) = .ref 0 0 n sz :: args.map .p := by
  simp only [mapIdss, mapIds, mapIds_pure, List.idxOf_cons_self]
 have e4 : lentD A f H [id] = [.arr cs] := by simp only [lentD, hm, if_true, take_one hid, obMap]
 change (c f (mapIdss (List.idxOf · [id]) (.ref id 0 n sz :: args.map .p)) (lentD A f H [id])).bind _ = _
 rw [e3, e4, h]
 obtain ⟨r1, r2⟩ := r
 simp only at hr hb
 subst hr
 simp only [Option.bind_some]
 have e5 : roBack (takeAlong H [id]) (o :: h') = true := by rw [take_one hid]; exact hb
 have e6 : (true && decide ([id].length ≤ (o :: h').length) && roBack (takeAlong H [id]) (o :: h')) = true := by rw [e5]; simp
 rw [if_pos e6]
theorem callD_mut1 (hd : ds.map wkDv = args.map .p) (hm : A.muts f = true) (hid : H[id]? = some (.arr cs)) (h : c f (.ref 0 0 n sz :: args.map .p) [.arr cs] = some (.ref 1 0 n' sz', [.dead, .arr cs'])) (hfl : A.full f = false := by rfl) :
  callD c A H f (.ref id 0 n sz :: ds) = some (.ref H.length 0 n' sz', some (H.set id .dead ++ [.arr cs'])) := by
 rw [callD_one hd hm hid h _ _ rfl rfl hfl]
 simp [mapIds, backD, putBack, obMap]
theorem callD_mut0 (hd : ds.map wkDv = args.map .p) (hm : A.muts f = true) (h : c f (args.map .p) [] = some (.ref 0 0 n' sz', [.arr cs'])) (hfl : A.full f = false := by rfl) :
  callD c A H f ds = some (.ref H.length 0 n' sz', some (H ++ [.arr cs'])) := by
 have e2 : ∀ H', collect H' 64 [] [] = [] := fun _ => rfl
 simp only [callD, hm, wkA_no hfl, Bool.true_or, if_true, freezeAll, hd, refs_pure, e2]
 rw [if_pos (show accOk H [] [] = true from rfl), mapIds_pure]
 have e3 : lentD A f H [] = [] := by simp only [lentD, hm]; rfl
 rw [e3, h]
 simp only [Option.bind_some]
 have e6 : ((true || ([] : List Nat).isEmpty) && decide (([] : List Nat).length ≤ [Ob.arr cs'].length) && roBack (takeAlong H []) [.arr cs']) = true := rfl
 rw [if_pos e6]
 simp [mapIds, backD, putBack, obMap]
end
def cpL {T : Type} (x y : List T) : List T := y.take x.length ++ x.drop y.length
theorem cpL_len {T : Type} (x y : List T) : (cpL x y).length = x.length := by simp [cpL]; omega
theorem callV_fn {g : FuncId} {args ds : List Dv} : callV c A H (.fn (.func g) ds) args = callD c A H g (args ++ ds) := by simp [callV]
end
theorem own_ref {e a b c' d n : Nat} {tm : List Dv} {H : List Ob} : ghostsD [.own 0 e] ⟨.ref a b c' d :: tm, H, n⟩ = some ⟨.ref a b c' d :: tm, H, n⟩ := rfl
end Go.Ev
namespace Go.Ev
theorem call_ofH [Gl] {P : Program} {A : Ann} {f : FuncId} {args : List Dv} {H : List Ob} {fn : Func} {c : Code} {r : Dv × List Ob} (hcl : ((A.outer f).isSome || (A.clone f).isSome && emptyArg args H) = false) (ho : A.okf f = true) (hf : P.funcs[f]? = some fn) (hb : fn.body = some c)
  (h : Wp (evW P A f c (initS fn args H)) fun e s => (e = .normal ∨ e = .ret) ∧ finishD P A f fn s = some r) : callW P A f args H = some r := by
 obtain ⟨e, s, h1, he, h2⟩ := h
 rw [callW_eq hcl ho hf hb, h1]
 rcases he with rfl | rfl <;> exact h2
end Go.Ev
namespace Go.Ev
theorem wks_nil_ : wks [] = [] := by simp [wks]
end Go.Ev
namespace Go.Ev
theorem own_nil' {T : Type} {en : T → List Pv} {x : List T} (hx : x = []) (e : Nat) : ∀ (tm : List Dv) (H : List Ob) (n : Nat), ghostsD [.own 0 e] ⟨.p (.lst true 0 []) :: tm, H, n⟩ = some ⟨.ref H.length 0 x.length e :: tm, H ++ [.arr (encL en x)], n⟩ := by
 subst hx; intros; rfl
end Go.Ev

set_option linter.unusedVariables false
set_option linter.unusedSimpArgs false
namespace Go.Ev
section
variable {P : Program} {A : Ann} {H : List Ob} {c : CallF} {f : FuncId} {xt : TypeId} {x y : Operand} {k : IntKind} {a b : Int}
abbrev kv (k : IntKind) (x : Int) : Dv := .p (.v (.int k x))
theorem binD_mul_k : binD P .mul xt x y (kv k a) (kv k b) = some (kv k (k.wrap (a * b))) := by cases k <;> rfl
def xorK (k : IntKind) (a b : Int) : Int := k.wrap (BitVec.ofInt k.bits a ^^^ BitVec.ofInt k.bits b).toNat
def shrK (k : IntKind) (a b : Int) : Option Int := if b < 0 then none else some (a.fdiv (2 ^ (min b.toNat k.bits)))
theorem binD_xor_k : binD P .xor xt x y (kv k a) (kv k b) = some (kv k (xorK k a b)) := by cases k <;> rfl
theorem binD_shr_k {k' : IntKind} {r : Int} (h : shrK k a b = some r) : binD P .shr xt x y (kv k a) (kv k' b) = some (kv k r) := by
 unfold shrK at h
 split at h
 ·cases h
 ·rename_i h0
  obtain rfl := Option.some.inj h
  simp only [binD, concD, conc, pureRun_bind]
  rw [show pureRun P (eqGuard .shr xt x y (.int k a) (.int k' b)) = some () from rfl]
  simp only [Option.bind_some, binOp, Op.shift, if_neg h0, pureRun_pure, Option.map_some]
def bt (s : ByteArray) (i : Int) : Option Int := (if 0 ≤ i then s[i.toNat]? else none).map fun b => (b.toNat : Int)
theorem indexD_str {t : TypeId} {s : ByteArray} {k : IntKind} {i v : Int} (hu : P.underlying t = some .string) (h : bt s i = some v) : indexD P t (.p (.v (.string s))) (kv k i) = some (kv .u8 v) := by
 unfold bt at h
 simp only [Option.map_eq_some_iff] at h
 obtain ⟨b, h1, rfl⟩ := h
 simp only [indexD, hu, concD, conc, Option.bind_some, Instr.index, pureRun_bind, pr_underlying hu, asIntOf, pureRun_pure, h1, Option.map_some]
end
end Go.Ev

namespace Go.Ev
section
variable {σ ρ : Type} {step : σ → Option (Out σ ρ)}
theorem iter_next {s s' : σ} (h : step s = some (.next s')) : iter step s = iter step s' := by
 apply opt_ext
 intro r
 rw [iter_some, iter_some]
 constructor
 ·intro ⟨k, hk⟩
  cases k with
  | zero => simp [iterN] at hk
  | succ k => simp only [iterN, h] at hk; exact ⟨k, hk⟩
 ·intro ⟨k, hk⟩
  exact ⟨k + 1, by simp only [iterN, h]; exact hk⟩
theorem iter_jmp {s s' : σ} {n : Nat} (h : step s = some (.jmp n s')) : iter step s = some (.jmp n s') := iter_some.2 ⟨1, by simp only [iterN, h]⟩
theorem iter_ret {s : σ} {r : ρ} (h : step s = some (.ret r)) : iter step s = some (.ret r) := iter_some.2 ⟨1, by simp only [iterN, h]⟩
theorem iter_to (st : Nat → σ) : ∀ (m : Nat), (∀ i, i < m → step (st i) = some (.next (st (i + 1)))) → iter step (st 0) = iter step (st m)
 | 0, _ => rfl
 | m + 1, h => by rw [iter_to st m fun i hi => h i (by omega), iter_next (h m (by omega))]
end
theorem w64_succ {n : Nat} (h : n < 2 ^ 62) : w64 ((n : Int) + 1) = ((n + 1 : Nat) : Int) := by
 rw [w64_id (by omega) (by omega)]; omega
end Go.Ev

set_option linter.unusedVariables false
namespace Go.Ev
section
variable {T σ ρ : Type}
variable {step : σ → Option (Out σ ρ)}
open Classical in
theorem iter_all (g : Nat → σ) (good : Nat → Prop) (r : ρ) (k : Nat) (e : σ) (n : Nat) (hs : ∀ i, i < n → (∀ j, j < i → good j) → step (g i) = if good i then some (.next (g (i + 1))) else some (.ret r))
  (he : (∀ j, j < n → good j) → step (g n) = some (.jmp k e)) : iter step (g 0) = if (∀ i, i < n → good i) then some (.jmp k e) else some (.ret r) := by
 have key : ∀ d i, i + d = n → (∀ j, j < i → good j) → iter step (g i) = if (∀ i, i < n → good i) then some (.jmp k e) else some (.ret r) := by
  intro d
  induction d with
  | zero =>
   intro i hi hg
   obtain rfl : i = n := by omega
   rw [if_pos hg]; exact iter_jmp (he hg)
  | succ d ih =>
   intro i hi hg
   have h1 := hs i (by omega) hg
   by_cases hgi : good i
   ·rw [if_pos hgi] at h1
    rw [iter_next h1]
    exact ih (i + 1) (by omega) (fun j hj => by
     by_cases hji : j = i
     ·subst hji; exact hgi
     ·exact hg j (by omega))
   ·rw [if_neg hgi] at h1
    rw [iter_ret h1, if_neg (fun h => hgi (h i (by omega)))]
 exact key n 0 (by omega) (fun j hj => by omega)
end
end Go.Ev

set_option linter.unusedVariables false
namespace Go.Ev
section
variable {P : Program} {A : Ann} {H : List Ob} {c : CallF} {f : FuncId}
def stgOb (H : List Ob) (id off n : Nat) (ds : List Dv) (o : Option Ob) : Option (List Ob) :=
 match o with
 | some (.var cs) => if ds.length = n ∧ off + n ≤ cs.length then some (H.set id (.var (setAt cs off ds))) else none
 | some (.arr cs) =>
  match purifys H ds with
  | some (xs, l) => if xs.length = n ∧ off + n ≤ cs.length ∧ ¬ id ∈ l then some ((freezeAll H l).set id (.arr (setAt cs off xs))) else none
  | none => none
 | _ => none
theorem storeD_gref {t : TypeId} {id off j o m e : Nat} (hs : szOf P t = some 1) : storeD P H t (.ptr id off) (.ref j o m e) = stgOb H id off 1 [.ref j o m e] H[id]? := by
 simp only [storeD, hs, cellsD]
 cases H[id]? with
 | none => rfl
 | some o => cases o <;> rfl
end
end Go.Ev

set_option linter.unusedVariables false
set_option linter.unusedSimpArgs false

set_option linter.unusedVariables false
set_option linter.unusedSimpArgs false

namespace Go.Ev
open Go
theorem fin_sc {P : Program} {A : Ann} {f : FuncId} {fn : Func} {s : St} {x : Pv} (hk : A.keeps f = false) (hn : s.nin = 0) (h1 : resD P s fn.results.toList = some [.p x]) (hw : wk x = x) : finishD P A f fn s = some (.p x, []) :=
 finish_is (ds := [.p x]) (x := x) (y := x) (l := []) hk hn h1 rfl hw
end Go.Ev

set_option linter.unusedVariables false
namespace Go.Ev
open Go
def ato (i : Int) (sz : Nat) : Nat := i.toNat * sz
structure Kn (b c : Bool) : Prop where
 h : b = c
section
variable {P : Program} {A : Ann} {f : FuncId} {c : CallF} {q : Bool} {ops : Array Oper} {l : List Oper} {o : Oper} {s : St} {t e : Code} {b d : Bool}
theorem condW_t [Gl] (h : Kn b true) : condW P A f t e s (some b) = evW P A f t s := by rw [h.h]; rfl
theorem condW_f [Gl] (h : Kn b false) : condW P A f t e s (some b) = evW P A f e s := by rw [h.h]; rfl
theorem condW_nt [Gl] (h : Kn b true) : condW P A f t e s (some (!b)) = evW P A f e s := by rw [h.h]; rfl
theorem condW_nf [Gl] (h : Kn b false) : condW P A f t e s (some (!b)) = evW P A f t s := by rw [h.h]; rfl
theorem opsG_t [Gl] (h : Kn b true) : opsG P A c q ops o l s (some b) = opsD P A c q ops (o :: l) s := by rw [h.h]; rfl
theorem opsG_f [Gl] (h : Kn b false) : opsG P A c q ops o l s (some b) = opsD P A c q ops l { s with tmps := putD s.tmps o.dst undefD } := by rw [h.h]; rfl
theorem opsG_nt [Gl] (h : Kn b true) : opsG P A c q ops o l s (some (!b)) = opsD P A c q ops l { s with tmps := putD s.tmps o.dst undefD } := by rw [h.h]; rfl
theorem opsG_nf [Gl] (h : Kn b false) : opsG P A c q ops o l s (some (!b)) = opsD P A c q ops (o :: l) s := by rw [h.h]; rfl
theorem pickD_t {x y : Dv} (h : Kn b true) : pickD (some b) x y = some x := by rw [h.h]; rfl
theorem pickD_f {x y : Dv} (h : Kn b false) : pickD (some b) x y = some y := by rw [h.h]; rfl
theorem pickD_nt {x y : Dv} (h : Kn b true) : pickD (some (!b)) x y = some y := by rw [h.h]; rfl
theorem pickD_nf {x y : Dv} (h : Kn b false) : pickD (some (!b)) x y = some x := by rw [h.h]; rfl
theorem call_ofI [Gl] {args : List Dv} {H : List Ob} {fn : Func} {c : Code} {r : Dv × List Ob} (k : Nat) (hcl : ((A.outer f).isSome || (A.clone f).isSome && emptyArg args H) = false) (ho : A.okf f = true) (hf : P.funcs[f]? = some fn) (hb : fn.body = some c) (hk : (fn.ntmps - args.length == k) = true)
  (h : Wp (evW P A f c ⟨args ++ List.replicate k undefD, H, H.length⟩) fun e s => (e = .normal ∨ e = .ret) ∧ finishD P A f fn s = some r) : callW P A f args H = some r := by
 refine call_ofH hcl ho hf hb ?_
 rw [initS, beq_iff_eq.1 hk]; exact h
end
theorem callV_pfn {c : CallF} {A : Ann} {H : List Ob} {g : FuncId} {x : Pv} {cs : List Pv} {args : List Dv} : callV c A H (.p (.fn (.func g) (x :: cs))) args = callD c A H g (args ++ .p x :: cs.map .p) := rfl
section
variable {A : Ann} {H : List Ob} {c : CallF} {f : FuncId} {id n sz n' sz' : Nat} {args ps : List Pv} {ds : List Dv} {cs cs' : List Pv}
theorem callD_mutT1 (hd : ds.map wkDv = args.map .p) (hm : A.muts f = true) (hid : H[id]? = some (.arr cs)) (h : c f (.ref 0 0 n sz :: args.map .p) [.arr cs] = some (.tup (.ref 1 0 n' sz' :: ps.map .p), [.dead, .arr cs'])) (hfl : A.full f = false := by rfl) :
  callD c A H f (.ref id 0 n sz :: ds) = some (.tup (.ref H.length 0 n' sz' :: ps.map .p), some (H.set id .dead ++ [.arr cs'])) := by
 rw [callD_one hd hm hid h _ _ rfl rfl hfl]
 simp [mapIds, mapIdss, mapIds_pure, backD, putBack, obMap]
theorem callD_mutT0 (hd : ds.map wkDv = args.map .p) (hm : A.muts f = true) (h : c f (args.map .p) [] = some (.tup (.ref 0 0 n' sz' :: ps.map .p), [.arr cs'])) (hfl : A.full f = false := by rfl) :
  callD c A H f ds = some (.tup (.ref H.length 0 n' sz' :: ps.map .p), some (H ++ [.arr cs'])) := by
 have e2 : ∀ H', collect H' 64 [] [] = [] := fun _ => rfl
 simp only [callD, hm, wkA_no hfl, Bool.true_or, if_true, freezeAll, hd, refs_pure, e2]
 rw [if_pos (show accOk H [] [] = true from rfl), mapIds_pure]
 have e3 : lentD A f H [] = [] := by simp only [lentD, hm]; rfl
 rw [e3, h]
 simp only [Option.bind_some]
 have e6 : ((true || ([] : List Nat).isEmpty) && decide (([] : List Nat).length ≤ [Ob.arr cs'].length) && roBack (takeAlong H []) [.arr cs']) = true := rfl
 rw [if_pos e6]
 simp [mapIds, mapIdss, mapIds_pure, backD, putBack, obMap]
end
theorem rd_lo {T : Type} {l : List T} {i : Int} {v : T} (h : rd l i = some v) : 0 ≤ i ∧ i < (l.length : Int) := ⟨(rd_some h).1, (rd_some h).2.1⟩
section
variable {α β : Type} {r : β} {G : Prop}
theorem gB {x : Option α} {f : α → Option β} (h : ∀ a, x = some a → f a = some r → G) : x.bind f = some r → G := fun e => by
 obtain ⟨a, h1, h2⟩ := Option.bind_eq_some_iff.1 e
 exact h a h1 h2
theorem gR {T : Type} {l : List T} {i : Int} {f : T → Option β} (h : ∀ a, rd l i = some a → 0 ≤ i → i < (l.length : Int) → f a = some r → G) : (rd l i).bind f = some r → G := gB fun a h1 => h a h1 (rd_lo h1).1 (rd_lo h1).2
theorem gW {p : Prop} [Decidable p] {a : Option β} (h : p → a = some r → G) : (if p then a else none) = some r → G := fun e => by
 by_cases hp : p
 ·rw [if_pos hp] at e; exact h hp e
 ·rw [if_neg hp] at e; cases e
theorem gT {p : Bool} {a b : Option β} (h1 : p = true → Kn p true → a = some r → G) (h2 : p = false → Kn p false → b = some r → G) : (if p = true then a else b) = some r → G := by
 cases p
 ·exact h2 rfl ⟨rfl⟩
 ·exact h1 rfl ⟨rfl⟩
theorem gI {p : Prop} [Decidable p] {a b : Option β} (h1 : p → Kn (decide p) true → a = some r → G) (h2 : ¬ p → Kn (decide p) false → b = some r → G) : (if p then a else b) = some r → G := fun e => by
 by_cases hp : p
 ·rw [if_pos hp] at e; exact h1 hp ⟨decide_eq_true hp⟩ e
 ·rw [if_neg hp] at e; exact h2 hp ⟨decide_eq_false hp⟩ e
end
end Go.Ev

set_option linter.unusedVariables false

set_option linter.unusedVariables false
namespace Go.Ev
open Go
inductive Tr where
 | leaf (d : Dv)
 | node (a b : Tr)
namespace Tr
def get : Tr → Nat → Dv
 | .leaf d, _ => d
 | .node a b, k => match k % 2 with | 0 => a.get (k / 2) | _ => b.get (k / 2)
def put : Tr → Nat → Dv → Tr
 | .leaf _, _, d => .leaf d
 | .node a b, k, d => match k % 2 with | 0 => .node (a.put (k / 2) d) b | _ => .node a (b.put (k / 2) d)
def full : Nat → Tr → Prop
 | 0, .leaf _ => True
 | D + 1, .node a b => full D a ∧ full D b
 | _, _ => False
def evs : List Dv → List Dv
 | [] => []
 | [a] => [a]
 | a :: _ :: l => a :: evs l
def ods : List Dv → List Dv
 | [] => []
 | [_] => []
 | _ :: b :: l => b :: ods l
def ofL : Nat → List Dv → Tr
 | 0, l => .leaf (l.headD .junk)
 | D + 1, l => .node (ofL D (evs l)) (ofL D (ods l))
def toL (n : Nat) (t : Tr) : List Dv := (List.range n).map t.get
theorem full_put : ∀ (D : Nat) (t : Tr), t.full D → ∀ k d, (t.put k d).full D
 | 0, .leaf _, _, _, _ => trivial
 | 0, .node _ _, h, _, _ => by cases h
 | D + 1, .leaf _, h, _, _ => by cases h
 | D + 1, .node a b, h, k, d => by
  unfold put
  split
  ·exact ⟨full_put D a h.1 _ _, h.2⟩
  ·exact ⟨h.1, full_put D b h.2 _ _⟩
theorem get_put : ∀ (D : Nat) (t : Tr), t.full D → ∀ j k d, j < 2 ^ D → k < 2 ^ D → (t.put k d).get j = if j = k then d else t.get j
 | 0, .leaf _, _, j, k, d, hj, hk => by
  have : j = k := by simp at hj hk; omega
  rw [if_pos this]; rfl
 | 0, .node _ _, h, _, _, _, _, _ => by cases h
 | D + 1, .leaf _, h, _, _, _, _, _ => by cases h
 | D + 1, .node a b, h, j, k, d, hj, hk => by
  have hj2 : j / 2 < 2 ^ D := by rw [Nat.pow_succ] at hj; omega
  have hk2 : k / 2 < 2 ^ D := by rw [Nat.pow_succ] at hk; omega
  have ea := get_put D a h.1 (j / 2) (k / 2) d hj2 hk2
  have eb := get_put D b h.2 (j / 2) (k / 2) d hj2 hk2
  rcases Nat.mod_two_eq_zero_or_one k with hk0 | hk0 <;> rcases Nat.mod_two_eq_zero_or_one j with hj0 | hj0
  ·simp only [put, hk0, get, hj0, ea]
   by_cases e : j = k
   ·subst e; simp
   ·rw [if_neg e, if_neg (by omega)]
  ·simp only [put, hk0, get, hj0]
   rw [if_neg (by intro e; subst e; omega)]
  ·simp only [put, hk0, get, hj0]
   rw [if_neg (by intro e; subst e; omega)]
  ·simp only [put, hk0, get, hj0, eb]
   by_cases e : j = k
   ·subst e; simp
   ·rw [if_neg e, if_neg (by omega)]
theorem evs_get : ∀ (l : List Dv) (i : Nat), (evs l).getD i .junk = l.getD (2 * i) .junk
 | [], i => by simp [evs]
 | [a], i => by
  cases i with
  | zero => rfl
  | succ i => simp [evs, show 2 * (i + 1) = 2 * i + 1 + 1 from by omega]
 | a :: b :: l, i => by
  cases i with
  | zero => rfl
  | succ i =>
   simp only [evs, show 2 * (i + 1) = 2 * i + 1 + 1 from by omega, List.getD_cons_succ]
   exact evs_get l i
theorem ods_get : ∀ (l : List Dv) (i : Nat), (ods l).getD i .junk = l.getD (2 * i + 1) .junk
 | [], i => by simp [ods]
 | [a], i => by simp [ods]
 | a :: b :: l, i => by
  cases i with
  | zero => rfl
  | succ i =>
   simp only [ods, show 2 * (i + 1) + 1 = (2 * i + 1) + 1 + 1 from by omega, List.getD_cons_succ]
   exact ods_get l i
theorem full_ofL : ∀ (D : Nat) (l : List Dv), (ofL D l).full D
 | 0, _ => trivial
 | D + 1, l => ⟨full_ofL D _, full_ofL D _⟩
theorem get_ofL : ∀ (D : Nat) (l : List Dv) (k : Nat), k < 2 ^ D → (ofL D l).get k = l.getD k .junk
 | 0, l, k, h => by
  obtain rfl : k = 0 := by simpa using h
  cases l <;> rfl
 | D + 1, l, k, h => by
  have h2 : k / 2 < 2 ^ D := by rw [Nat.pow_succ] at h; omega
  rcases Nat.mod_two_eq_zero_or_one k with hk | hk
  ·simp only [ofL, get, hk]
   rw [get_ofL D _ _ h2, evs_get, show 2 * (k / 2) = k from by omega]
  ·simp only [ofL, get, hk]
   rw [get_ofL D _ _ h2, ods_get, show 2 * (k / 2) + 1 = k from by omega]
theorem toL_len (n : Nat) (t : Tr) : (toL n t).length = n := by simp [toL]
theorem toL_get {n : Nat} {t : Tr} {k : Nat} {x : Dv} : (toL n t).getD k x = if k < n then t.get k else x := by
 unfold toL
 rw [List.getD_eq_getElem?_getD]
 split
 ·rename_i h; simp [h]
 ·rename_i h; simp [h]
theorem toL_put {n D : Nat} {t : Tr} (h : t.full D) (hn : n ≤ 2 ^ D) {k : Nat} (hk : k < n) (d : Dv) : toL n (t.put k d) = (toL n t).set k d := by
 apply List.ext_getElem
 ·simp [toL]
 ·intro i h1 h2
  have hi : i < n := by simpa [toL] using h1
  simp only [toL, List.getElem_map, List.getElem_range, List.getElem_set]
  rw [get_put D t h i k d (by omega) (by omega)]
  by_cases e : i = k
  ·subst e; simp
  ·rw [if_neg e, if_neg (fun e' => e e'.symm)]
theorem toL_ofL {n D : Nat} (hn : n ≤ 2 ^ D) {l : List Dv} (hl : l.length = n) : toL n (ofL D l) = l := by
 apply List.ext_getElem
 ·simp [toL, hl]
 ·intro i h1 h2
  simp only [toL, List.getElem_map, List.getElem_range]
  rw [get_ofL D l i (by omega), List.getD_eq_getElem?_getD, List.getElem?_eq_getElem h2]
  rfl
end Tr
theorem blt_t {k n : Nat} (h : k < n) : Nat.blt k n = true := Nat.ble_eq_true_of_le h
theorem blt_f {k n : Nat} (h : ¬ k < n) : Nat.blt k n = false := by
 cases e : Nat.blt k n with
 | false => rfl
 | true => exact absurd (Nat.le_of_ble_eq_true e) h
structure FS where
 tr : Tr
 heap : List Ob
 nin : Nat
def FS.st (n : Nat) (s : FS) : St := ⟨s.tr.toL n, s.heap, s.nin⟩
def evalT [Gl] (n : Nat) (t : Tr) : Operand → Dv
 | .tmp k => bif Nat.blt k n then t.get k else .junk
 | .const x => .p (ofVal x)
 | .global g => match Gl.glob g with | some cells => .p (.iptr cells 0) | none => .junk
 | .func f => .p (.fn (.func f) [])
theorem evalT_eq [Gl] {n : Nat} {t : Tr} (x : Operand) : evalT n t x = evalO (t.toL n) x := by
 cases x with
 | tmp k =>
  show (bif Nat.blt k n then t.get k else .junk) = (t.toL n).getD k .junk
  rw [Tr.toL_get]
  by_cases h : k < n
  ·rw [if_pos h, blt_t h]; rfl
  ·rw [if_neg h, blt_f h]; rfl
 | _ => rfl
abbrev Rv := Option (Dv × Option (List Ob))
def rN1 (r : Option Dv) : Rv := r.map fun d => (d, none)
def rPick (c a b : Dv) : Rv := (boolD c).map fun t => (if t then a else b, none)
def rBox (x : Dv) (H : List Ob) : Rv := (cellsD x).map fun ds => (.ptr H.length 0, some (H ++ [.var ds]))
def rBuild (P : Program) (t : TypeId) (parts : List (Nat × Dv)) : Rv := rN1 ((places P t).bind fun pl => (zeroCs P t).bind fun z => (fillD pl (z.map .p) parts).map mkAgg)
def rBS (P : Program) (H : List Ob) (t : TypeId) (len : Nat) (parts : List (Nat × Dv)) : Rv :=
 match P.underlying t with
 | some (.slice e) =>
  (szOf P e).bind fun sz => (zeroCs P e).bind fun z =>
  if sz = 0 ∨ z.length ≠ sz ∨ len * sz > 2 ^ 24 then none else
  (fillD (fun i => some (i * sz, sz)) ((repl len z).map .p) parts).bind fun ds =>
  (purifys H ds).map fun (cs, l) => (.p (.lst true len (wkE P e cs)), if l.isEmpty then none else some (freezeAll H l))
 | _ => none
def rStore (P : Program) (H : List Ob) (t : TypeId) (a x : Dv) : Rv := (storeD P H t a x).map fun h => (undefD, some h)
def rNil (x : Dv) : Rv :=
 match x with
 | .ptr id off => some (.ptr id off, none)
 | .p (.iptr cs off) => some (.p (.iptr cs off), none)
 | .p (.fn (.func f) cs) => some (.p (.fn (.func f) cs), none)
 | .fn (.func f) cs => some (.fn (.func f) cs, none)
 | _ => none
def rUn (P : Program) (op : UnOp) (x : Dv) : Rv := rN1 ((concD x).bind fun a => (pureRun P (Op.unary op a)).map fun r => .p (.v r))
def rConv (P : Program) (src dst : TypeId) (x : Dv) : Rv := rN1 ((concD x).bind fun a => (pureRun P (convert src dst a)).map fun r => .p (.v r))
def rFieldAddr (P : Program) (t : TypeId) (x : Dv) (i : Nat) : Rv :=
 rN1 ((fieldOf P t i).bind fun f => (szOf P f.type).bind fun n =>
  if n = 0 then none else
  match x with
  | .ptr id off => some (.ptr id (off + f.offset))
  | .p (.iptr cs off) => some (.p (.iptr cs (off + f.offset)))
  | _ => none)
def rField (P : Program) (t : TypeId) (x : Dv) (i : Nat) : Rv := rN1 ((fieldOf P t i).bind fun f => partD P f.type x f.offset)
def rIdxAddr (P : Program) (t : TypeId) (x ix : Dv) : Rv :=
 rN1 ((intD ix).bind fun i =>
  match P.underlying t, x with
  | some (.slice e), .p (.lst _ n cells) => (szOf P e).bind fun sz => if 0 ≤ i ∧ i < n ∧ sz ≠ 0 ∧ cells.length = n * sz then some (.p (.iptr cells (i.toNat * sz))) else none
  | some (.slice e), .ref id off n esz => (szOf P e).bind fun sz => if 0 ≤ i ∧ i < n ∧ sz = esz ∧ sz ≠ 0 then some (.ptr id (off + i.toNat * sz)) else none
  | some (.array n e), .ptr id off => (szOf P e).bind fun sz => if 0 ≤ i ∧ i < n ∧ sz ≠ 0 then some (.ptr id (off + i.toNat * sz)) else none
  | some (.array n e), .p (.iptr cells off) => (szOf P e).bind fun sz => if 0 ≤ i ∧ i < n ∧ sz ≠ 0 then some (.p (.iptr cells (off + i.toNat * sz))) else none
  | _, _ => none)
def rIndex (P : Program) (t : TypeId) (x ix : Dv) : Rv :=
 rN1 (match P.underlying t with
  | some .string => (concD x).bind fun a => (concD ix).bind fun b => (pureRun P (Instr.index t a b)).map fun r => .p (.v r)
  | some (.array n e) => (intD ix).bind fun i => (szOf P e).bind fun sz => if 0 ≤ i ∧ i < n then partD P e x (i.toNat * sz) else none
  | _ => none)
def rExtract (x : Dv) (i : Nat) : Rv :=
 rN1 (match x with
  | .p (.tup cs) => (cs[i]?).map .p
  | .tup ds => ds[i]?
  | _ => none)
def rIface (P : Program) (t : TypeId) (x : Dv) : Rv :=
 match P.underlying t with
 | some (.slice _) => some (.ifc t x, none)
 | _ => none
def rCall (call : CallF) (A : Ann) (H : List Ob) (f : Dv) (args : List Dv) : Rv :=
 match f with
 | .p (.fn (.func g) cs) => callD call A H g (args ++ cs.map .p)
 | .fn (.func g) ds => callD call A H g (args ++ ds)
 | _ => none
def rCallee [Gl] (P : Program) (A : Ann) (call : CallF) (ρ : Operand → Dv) (H : List Ob) (ty : TypeId) (c : Call) : Rv :=
 match c.callee with
 | .builtin b => builtinD P H b c.argTypes ty (c.args.toList.map ρ)
 | .value f => rCall call A H (ρ f) (c.args.toList.map ρ)
 | _ => none
def opR [Gl] (P : Program) (A : Ann) (call : CallF) (ρ : Operand → Dv) (H : List Ob) (ty : TypeId) (op : Op) : Rv :=
 match op with
 | .move x => some (ρ x, none)
 | .assign x => some (ρ x, none)
 | .pick c a b => rPick (ρ c) (ρ a) (ρ b)
 | .alloc e => (zeroCs P e).map fun cs => (.ptr H.length 0, some (H ++ [.var (cs.map .p)]))
 | .box _ x => rBox (ρ x) H
 | .build t parts => rBuild P t (parts.toList.map fun (i, x) => (i, ρ x))
 | .buildSlice t len parts => rBS P H t len (parts.toList.map fun (i, x) => (i, ρ x))
 | .load t a => rN1 (loadD P H t (ρ a))
 | .store t a x => rStore P H t (ρ a) (ρ x)
 | .nilCheck x => rNil (ρ x)
 | .binOp op t x y _ => rN1 (binN P op t x y (ρ x) (ρ y))
 | .unOp op _ x => rUn P op (ρ x)
 | .convert src dst x => rConv P src dst (ρ x)
 | .makeFunc fn first caps => if first.size = 0 then rN1 (some (mkFn fn (caps.toList.map ρ))) else none
 | .makeSlice t l c => (makeD P H t (ρ l) (ρ c)).map fun (r, h) => (r, some h)
 | .slice t x lo hi mx => if mx.isSome && hi.isNone then none else rN1 (sliceD P H t (ρ x) (lo.map ρ) (hi.map ρ) (mx.map ρ))
 | .fieldAddr t x i => rFieldAddr P t (ρ x) i
 | .field t x i => rField P t (ρ x) i
 | .indexAddr t x ix => rIdxAddr P t (ρ x) (ρ ix)
 | .index t x ix => rIndex P t (ρ x) (ρ ix)
 | .extract x i => rExtract (ρ x) i
 | .makeMap _ none => some (.mp H.length, some (H ++ [.mp []]))
 | .lookup t x ix ok => rN1 (lookupD P H t (ρ x) (ρ ix) ok)
 | .mapUpdate t m k x => (mapUpdateD P H t (ρ m) (ρ k) (ρ x)).map fun h => (undefD, some h)
 | .makeInterface t x => rIface P t (ρ x)
 | .call c => rCallee P A call ρ H ty c
 | _ => none
theorem opR_eq [Gl] {P : Program} {A : Ann} {call : CallF} {tm : List Dv} {H : List Ob} {o : Oper} : opR P A call (evalO tm) H o.type o.op = opD P A call tm H o := by
 obtain ⟨dst, op, type, pos, after, guard⟩ := o
 cases op with
 | call c =>
  obtain ⟨callee, args, ts⟩ := c
  cases callee <;> rfl
 | makeMap t r => cases r <;> rfl
 | _ => rfl
def putF (n : Nat) (t : Tr) (dst : Option Tmp) (d : Dv) : Tr :=
 match dst with
 | some k => bif Nat.blt k n then t.put k d else t
 | none => t
def wantF (ops : Array Oper) (n : Nat) (t : Tr) (o : Oper) : Option Bool :=
 match o.guard with
 | none => some true
 | some (j, want) =>
  match (ops[j]?).bind (·.dst) with
  | none => some false
  | some k => (yieldD (bif Nat.blt k n then t.get k else undefD)).map (· == some want)
def doneF (quiet : Bool) (n : Nat) (o : Oper) (s : FS) (d : Dv) (h : Option (List Ob)) : Option FS :=
 match h with
 | none => some ⟨putF n s.tr o.dst d, s.heap, s.nin⟩
 | some h => if quiet && !wrOp o.op then none else some ⟨putF n s.tr o.dst d, h, s.nin⟩
def stepF [Gl] (P : Program) (A : Ann) (call : CallF) (quiet : Bool) (ops : Array Oper) (n : Nat) (o : Oper) (s : FS) : Option FS :=
 match wantF ops n s.tr o with
 | some true => match opR P A call (evalT n s.tr) s.heap o.type o.op with | some (d, h) => doneF quiet n o s d h | none => none
 | some false => some ⟨putF n s.tr o.dst undefD, s.heap, s.nin⟩
 | none => none
def opsF [Gl] (P : Program) (A : Ann) (call : CallF) (quiet : Bool) (ops : Array Oper) (n : Nat) : List Oper → FS → Option FS
 | [], s => some s
 | o :: rest, s => match stepF P A call quiet ops n o s with | some s => opsF P A call quiet ops n rest s | none => none
section
variable {P : Program} {A : Ann} {call : CallF} {quiet : Bool} {ops : Array Oper} {n D : Nat}
theorem putF_eq {t : Tr} (h : t.full D) (hn : n ≤ 2 ^ D) (dst : Option Tmp) (d : Dv) : (putF n t dst d).toL n = putD (t.toL n) dst d ∧ (putF n t dst d).full D := by
 cases dst with
 | none => exact ⟨rfl, h⟩
 | some k =>
  show (bif Nat.blt k n then t.put k d else t).toL n = (t.toL n).set k d ∧ (bif Nat.blt k n then t.put k d else t).full D
  by_cases hk : k < n
  ·rw [blt_t hk]
   exact ⟨Tr.toL_put h hn hk d, Tr.full_put D t h k d⟩
  ·rw [blt_f hk]
   exact ⟨(List.set_eq_of_length_le (by rw [Tr.toL_len]; exact Nat.le_of_not_lt hk)).symm, h⟩
theorem wantF_eq {t : Tr} {o : Oper} : wantF ops n t o = wantD ops (t.toL n) o := by
 unfold wantF wantD
 cases o.guard with
 | none => rfl
 | some g =>
  obtain ⟨j, w⟩ := g
  simp only []
  cases (ops[j]?).bind (·.dst) with
  | none => rfl
  | some k =>
   simp only []
   rw [Tr.toL_get]
   by_cases hk : k < n
   ·rw [if_pos hk, blt_t hk]; rfl
   ·rw [if_neg hk, blt_f hk]; rfl
theorem stepF_ok [Gl] {o : Oper} {s s' : FS} (hf : s.tr.full D) (hn : n ≤ 2 ^ D) (h : stepF P A call quiet ops n o s = some s') : stepD P A call quiet ops o (s.st n) = some (s'.st n) ∧ s'.tr.full D := by
 have ev : evalT n s.tr = evalO (s.tr.toL n) := funext fun x => evalT_eq x
 unfold stepF at h
 rw [wantF_eq, ev, opR_eq] at h
 unfold stepD
 show ((wantD ops (s.tr.toL n) o).bind fun w => _) = _ ∧ _
 split at h
 ·rename_i hw
  rw [hw]
  simp only [Option.bind_some, if_true]
  show ((opD P A call (s.tr.toL n) s.heap o).bind fun x => _) = _ ∧ _
  split at h
  ·rename_i d hh ho
   rw [ho]
   simp only [Option.bind_some]
   obtain ⟨e1, e2⟩ := putF_eq hf hn o.dst d
   unfold doneF at h
   cases hh with
   | none =>
    simp only [Option.some.injEq] at h
    subst h
    exact ⟨congrArg some (by unfold FS.st; rw [← e1]), e2⟩
   | some H' =>
    simp only [] at h ⊢
    split at h
    ·cases h
    ·rename_i hq
     simp only [Option.some.injEq] at h
     subst h
     rw [if_neg hq]
     exact ⟨congrArg some (by unfold FS.st; rw [← e1]), e2⟩
  ·cases h
 ·rename_i hw
  rw [hw]
  simp only [Option.bind_some, Bool.false_eq_true, if_false]
  simp only [Option.some.injEq] at h
  subst h
  obtain ⟨e1, e2⟩ := putF_eq hf hn o.dst undefD
  exact ⟨congrArg some (by unfold FS.st; rw [← e1]), e2⟩
 ·cases h
theorem opsF_ok [Gl] (hn : n ≤ 2 ^ D) : ∀ (l : List Oper) {s s' : FS}, s.tr.full D → opsF P A call quiet ops n l s = some s' → opsD P A call quiet ops l (s.st n) = some (s'.st n) ∧ s'.tr.full D
 | [], s, s', hf, h => by
  simp only [opsF, Option.some.injEq] at h
  subst h; exact ⟨rfl, hf⟩
 | o :: l, s, s', hf, h => by
  simp only [opsF] at h
  split at h
  ·rename_i s1 h1
   obtain ⟨e1, f1⟩ := stepF_ok hf hn h1
   obtain ⟨e2, f2⟩ := opsF_ok hn l f1 h
   simp only [opsD, e1, Option.bind_some]
   exact ⟨e2, f2⟩
  ·cases h
end
def preF (A : Ann) (fid id n D : Nat) (s : FS) : Option FS :=
 match A.pre fid id with
 | [] => some s
 | g :: l => match ghostsD (g :: l) (s.st n) with | some s' => if s'.tmps.length = n then some ⟨Tr.ofL D s'.tmps, s'.heap, s'.nin⟩ else none | none => none
def endF [Gl] (A : Ann) (fid id : Nat) (ops : Array Oper) (draw : Bool) (n : Nat) (H0 : List Ob) (s : FS) : Bool :=
 match A.lp fid id with
 | some pairs => !draw || clearL A ops pairs H0 (s.tr.toL n)
 | none =>
 match A.dyn fid id with
 | none => true
 | some pairs => !draw || dynB ops H0.length pairs (s.st n)
def regF [Gl] (P : Program) (A : Ann) (call : CallF) (fid n D id : Nat) (ops : Array Oper) (draw : Bool) (s : FS) : Option (Ex × FS) :=
 match preF A fid id n D s with
 | some s1 => match opsF P A call (draw && !A.loud fid id) ops n ops.toList s1 with | some s2 => if endF A fid id ops draw n s1.heap s2 then some (.normal, s2) else none | none => none
 | none => none
def loopG (f : FS → Option (Ex × FS)) : Nat → FS → Option (Ex × FS)
 | 0, _ => none
 | k + 1, s =>
  match f s with
  | some (.normal, s') => loopG f k s'
  | r => r
def evF [Gl] (P : Program) (A : Ann) (call : CallF) (k : Nat) (fid n D : Nat) : Code → FS → Option (Ex × FS)
 | .skip, s => some (.normal, s)
 | .label _, s => some (.normal, s)
 | .region id ops draw, s => regF P A call fid n D id ops draw s
 | .seq a b, s =>
  match evF P A call k fid n D a s with
  | some (.normal, s') => evF P A call k fid n D b s'
  | r => r
 | .cond c t e, s =>
  match boolD (evalT n s.tr c) with
  | some true => evF P A call k fid n D t s
  | some false => evF P A call k fid n D e s
  | none => none
 | .block id body, s =>
  match evF P A call k fid n D body s with
  | some (.exit id', s') => if id' = id then some (.normal, s') else some (.exit id', s')
  | r => r
 | .loop body, s => loopG (evF P A call k fid n D body) k s
 | .exit id, s => some (.exit id, s)
 | .ret, s => some (.ret, s)
 | _, _ => none
section
variable {P : Program} {A : Ann} {call : CallF} {k fid n D : Nat}
theorem preF_ok (hn : n ≤ 2 ^ D) {id : Nat} {s s' : FS} (hf : s.tr.full D) (h : preF A fid id n D s = some s') : ghostsD (A.pre fid id) (s.st n) = some (s'.st n) ∧ s'.tr.full D := by
 unfold preF at h
 split at h
 ·rename_i e
  simp only [Option.some.injEq] at h
  subst h; rw [e]; exact ⟨rfl, hf⟩
 ·rename_i g l e
  rw [e]
  split at h
  ·rename_i s1 h1
   split at h
   ·rename_i hl
    simp only [Option.some.injEq] at h
    subst h
    rw [h1]
    refine ⟨congrArg some ?_, Tr.full_ofL D _⟩
    unfold FS.st
    rw [Tr.toL_ofL hn hl]
   ·cases h
  ·cases h
theorem endF_ok [Gl] {id : Nat} {ops : Array Oper} {draw : Bool} {s0 : FS} {s : FS} (h : endF A fid id ops draw n s0.heap s = true) : endR A fid id ops draw (s0.st n) (s.st n) = some (.normal, s.st n) := by
 unfold endF at h
 unfold endR
 cases hx : A.lp fid id with
 | some pairs => rw [hx] at h; simp only [] at h ⊢; exact if_pos h
 | none =>
  rw [hx] at h; simp only [] at h ⊢
  cases hy : A.dyn fid id with
  | none => rfl
  | some pairs => rw [hy] at h; simp only [] at h ⊢; exact if_pos h
theorem evF_ok [Gl] (hn : n ≤ 2 ^ D) : ∀ (c : Code) {s s' : FS} {ex : Ex}, s.tr.full D → evF P A call k fid n D c s = some (ex, s') → evC P A call k fid c (s.st n) = some (ex, s'.st n) ∧ s'.tr.full D
 | .skip, s, s', ex, hf, h => by
  simp only [evF, Option.some.injEq, Prod.mk.injEq] at h
  obtain ⟨rfl, rfl⟩ := h; exact ⟨rfl, hf⟩
 | .label _, s, s', ex, hf, h => by
  simp only [evF, Option.some.injEq, Prod.mk.injEq] at h
  obtain ⟨rfl, rfl⟩ := h; exact ⟨rfl, hf⟩
 | .exit _, s, s', ex, hf, h => by
  simp only [evF, Option.some.injEq, Prod.mk.injEq] at h
  obtain ⟨rfl, rfl⟩ := h; exact ⟨rfl, hf⟩
 | .ret, s, s', ex, hf, h => by
  simp only [evF, Option.some.injEq, Prod.mk.injEq] at h
  obtain ⟨rfl, rfl⟩ := h; exact ⟨rfl, hf⟩
 | .region id ops draw, s, s', ex, hf, h => by
  simp only [evF, regF] at h
  split at h
  ·rename_i s1 h1
   obtain ⟨e1, f1⟩ := preF_ok hn hf h1
   split at h
   ·rename_i s2 h2
    obtain ⟨e2, f2⟩ := opsF_ok hn _ f1 h2
    split at h
    ·rename_i he
     simp only [Option.some.injEq, Prod.mk.injEq] at h
     obtain ⟨rfl, rfl⟩ := h
     simp only [evC, e1, Option.bind_some, e2]
     exact ⟨endF_ok he, f2⟩
    ·cases h
   ·cases h
  ·cases h
 | .seq a b, s, s', ex, hf, h => by
  simp only [evF] at h
  split at h
  ·rename_i s1 h1
   obtain ⟨e1, f1⟩ := evF_ok hn a hf h1
   obtain ⟨e2, f2⟩ := evF_ok hn b f1 h
   simp only [evC, e1]
   exact ⟨e2, f2⟩
  ·rename_i hne
   obtain ⟨e1, f1⟩ := evF_ok hn a hf h
   simp only [evC, e1]
   refine ⟨?_, f1⟩
   cases ex with
   | normal => exact absurd h (hne s')
   | exit i => rfl
   | ret => rfl
 | .cond c t e, s, s', ex, hf, h => by
  simp only [evF, evalT_eq] at h
  simp only [evC]
  show (match boolD (evalO (s.tr.toL n) c) with | some b => _ | none => _) = _ ∧ _
  split at h
  ·rename_i hb
   rw [hb]
   exact evF_ok hn t hf h
  ·rename_i hb
   rw [hb]
   exact evF_ok hn e hf h
  ·cases h
 | .block id b, s, s', ex, hf, h => by
  simp only [evF] at h
  split at h
  ·rename_i i s1 h1
   obtain ⟨e1, f1⟩ := evF_ok hn b hf h1
   simp only [evC, e1]
   split at h
   ·rename_i hi
    simp only [Option.some.injEq, Prod.mk.injEq] at h
    obtain ⟨rfl, rfl⟩ := h
    exact ⟨if_pos hi, f1⟩
   ·rename_i hi
    simp only [Option.some.injEq, Prod.mk.injEq] at h
    obtain ⟨rfl, rfl⟩ := h
    exact ⟨if_neg hi, f1⟩
  ·rename_i hne
   obtain ⟨e1, f1⟩ := evF_ok hn b hf h
   simp only [evC, e1]
   refine ⟨?_, f1⟩
   cases ex with
   | exit i => exact absurd h (hne i s')
   | normal => rfl
   | ret => rfl
 | .loop b, s, s', ex, hf, h => by
  simp only [evF] at h
  simp only [evC]
  have key : ∀ (j : Nat) (s : FS), s.tr.full D → loopG (evF P A call k fid n D b) j s = some (ex, s') → loopD (evC P A call k fid b) j (s.st n) = some (ex, s'.st n) ∧ s'.tr.full D := by
   intro j
   induction j with
   | zero => intro s _ h; simp [loopG] at h
   | succ j ih =>
    intro s hf h
    simp only [loopG] at h
    simp only [loopD]
    split at h
    ·rename_i s1 h1
     obtain ⟨e1, f1⟩ := evF_ok hn b hf h1
     rw [e1]
     exact ih s1 f1 h
    ·rename_i hne
     obtain ⟨e1, f1⟩ := evF_ok hn b hf h
     rw [e1]
     refine ⟨?_, f1⟩
     cases ex with
     | normal => exact absurd h (hne s')
     | exit i => rfl
     | ret => rfl
  exact key k s hf h
 | .goto _, s, s', ex, hf, h => by simp only [evF] at h; cases h
 | .rangeFunc .., s, s', ex, hf, h => by simp only [evF] at h; cases h
 | .scope _, s, s', ex, hf, h => by simp only [evF] at h; cases h
 | .refuse _, s, s', ex, hf, h => by simp only [evF] at h; cases h
end
def outF (P : Program) (A : Ann) (f : FuncId) (fn : Func) (n : Nat) (r : Option (Ex × FS)) : Option (Dv × List Ob) :=
 match r with
 | some (.normal, s) => finishD P A f fn (s.st n)
 | some (.ret, s) => finishD P A f fn (s.st n)
 | _ => none
def bodyF [Gl] (P : Program) (A : Ann) (call : CallF) (k : Nat) (f : FuncId) (fn : Func) (c : Code) (n D : Nat) (l : List Dv) (H : List Ob) : Option (Dv × List Ob) :=
 if l.length = n ∧ n < 2 ^ D then outF P A f fn n (evF P A call k f n D c ⟨Tr.ofL D l, H, H.length⟩) else none
def runF [Gl] (P : Program) (A : Ann) (call : CallF) (k : Nat) (f : FuncId) (args : List Dv) (H : List Ob) : Option (Dv × List Ob) :=
 if A.okf f then
 match P.funcs[f]? with
 | some fn =>
  match fn.body with
  | some c => bodyF P A call k f fn c fn.ntmps (Nat.log2 fn.ntmps + 1) (args ++ List.replicate (fn.ntmps - args.length) undefD) H
  | none => none
 | none => none
 else none
theorem runF_ok [Gl] {P : Program} {A : Ann} {call : CallF} {k : Nat} {f : FuncId} {args : List Dv} {H : List Ob} {r : Dv × List Ob} (h : runF P A call k f args H = some r) : runD P A call k f args H = some r := by
 unfold runF at h
 unfold runD
 split at h
 ·rename_i ho
  rw [if_pos ho]
  split at h
  ·rename_i fn hfn
   simp only [hfn]
   split at h
   ·rename_i c hc
    simp only [hc]
    unfold bodyF at h
    split at h
    ·rename_i hl
     obtain ⟨hl, hn⟩ := hl
     unfold outF at h
     generalize hl0 : args ++ List.replicate (fn.ntmps - args.length) undefD = l at *
     have e0 : (⟨l, H, H.length⟩ : St) = FS.st fn.ntmps ⟨Tr.ofL (Nat.log2 fn.ntmps + 1) l, H, H.length⟩ := by
      unfold FS.st; rw [Tr.toL_ofL (Nat.le_of_lt hn) hl]
     rw [e0]
     split at h
     ·rename_i s hs
      obtain ⟨e1, _⟩ := evF_ok (Nat.le_of_lt hn) c (Tr.full_ofL _ _) hs
      rw [e1]; exact h
     ·rename_i s hs
      obtain ⟨e1, _⟩ := evF_ok (Nat.le_of_lt hn) c (Tr.full_ofL _ _) hs
      rw [e1]; exact h
     ·cases h
    ·cases h
   ·cases h
  ·cases h
 ·cases h
end Go.Ev

set_option linter.unusedVariables false
namespace Go.Ev
open Go
section
variable {P : Program} {A : Ann} {c : CallF} {q : Bool} {ops : Array Oper} {l : List Oper} {tm : List Dv} {H : List Ob} {n t ty : Nat} {pos : String} {af : Array Edge}
theorem ops_lookup [Gl] {xt : TypeId} {x y : Operand} {ok : Bool} : opsD P A c q ops (⟨some t, .lookup xt x y ok, ty, pos, af, none⟩ :: l) ⟨tm, H, n⟩ =
  opsP P A c q ops l tm H n t (lookupD P H xt (evalO tm x) (evalO tm y) ok) := n1_gen rfl
theorem ops_makeMap [Gl] {mt : TypeId} : opsD P A c q ops (⟨some t, .makeMap mt none, ty, pos, af, none⟩ :: l) ⟨tm, H, n⟩ = opsD P A c q ops l ⟨tm.set t (.mp H.length), H ++ [.mp []], n⟩ := by
 rw [ops_gen]
 show opsQ P A c q ops l tm H n t true (some (.mp H.length, some (H ++ [.mp []]))) = _
 rw [opsQ_some]
theorem ops_mapUpdate [Gl] {xt : TypeId} {m k x : Operand} : opsD P A c q ops (⟨none, .mapUpdate xt m k x, ty, pos, af, none⟩ :: l) ⟨tm, H, n⟩ =
  (match mapUpdateD P H xt (evalO tm m) (evalO tm k) (evalO tm x) with | some h => opsD P A c q ops l ⟨tm, h, n⟩ | none => none) := by
 simp only [opsD, stepD, wantD, Option.bind_some, if_true, opD]
 cases mapUpdateD P H xt (evalO tm m) (evalO tm k) (evalO tm x) with
 | none => rfl
 | some h => simp [wrOp, putD]
end
theorem getC {H : List Ob} {x : Ob} : (H ++ [x])[H.length]? = some x := by simp
end Go.Ev

set_option linter.unusedVariables false
namespace Go.Ev
open Go
section
variable {P : Program} {A : Ann} {f : FuncId} {k : Nat}
theorem evC_W [Gl] : ∀ (c : Code) {s : St} {r : Ex × St}, evC P A (callW P A) k f c s = some r → evW P A f c s = some r
 | .region id ops draw, s, r, h => by
  rw [evW_region]
  simpa only [evC] using h
 | .seq a b, s, r, h => by
  rw [evW_seq]
  simp only [evC] at h
  split at h
  ·rename_i s1 h1
   rw [evC_W a h1]
   exact evC_W b h
  ·rename_i hne
   rw [evC_W a h]
   obtain ⟨e, s1⟩ := r
   cases e with
   | normal => exact absurd h (hne s1)
   | exit i => rfl
   | ret => rfl
 | .cond x t e, s, r, h => by
  rw [evW_cond]
  simp only [evC] at h
  split at h
  ·rename_i b hb
   rw [hb]
   simp only []
   split at h
   ·rename_i hb; rw [if_pos hb]; exact evC_W t h
   ·rename_i hb; rw [if_neg hb]; exact evC_W e h
  ·cases h
 | .block id b, s, r, h => by
  rw [evW_block]
  simp only [evC] at h
  split at h
  ·rename_i i s1 h1
   rw [evC_W b h1]
   exact h
  ·rename_i hne
   rw [evC_W b h]
   obtain ⟨e, s1⟩ := r
   cases e with
   | exit i => exact absurd h (hne i s1)
   | normal => rfl
   | ret => rfl
 | .loop b, s, r, h => by
  simp only [evC] at h
  have key : ∀ (j : Nat) (s : St), loopD (evC P A (callW P A) k f b) j s = some r → evW P A f (.loop b) s = some r := by
   intro j
   induction j with
   | zero => intro s h; simp [loopD] at h
   | succ j ih =>
    intro s h
    rw [evW_loop]
    simp only [loopD] at h
    split at h
    ·rename_i s1 h1
     rw [evC_W b h1]
     exact ih s1 h
    ·rename_i hne
     rw [evC_W b h]
     obtain ⟨e, s1⟩ := r
     cases e with
     | normal => exact absurd h (hne s1)
     | exit i => rfl
     | ret => rfl
  exact key k s h
 | .skip, s, r, h => by rw [evW_skip]; simpa only [evC] using h
 | .label _, s, r, h => by rw [evW_label]; simpa only [evC] using h
 | .exit _, s, r, h => by rw [evW_exit]; simpa only [evC] using h
 | .ret, s, r, h => by rw [evW_ret]; simpa only [evC] using h
 | .goto _, s, r, h => by simp only [evC] at h; cases h
 | .rangeFunc .., s, r, h => by simp only [evC] at h; cases h
 | .scope _, s, r, h => by simp only [evC] at h; cases h
 | .refuse _, s, r, h => by simp only [evC] at h; cases h
theorem runD_W [Gl] {args : List Dv} {H : List Ob} {r : Dv × List Ob} (hcl : ((A.outer f).isSome || (A.clone f).isSome && emptyArg args H) = false) (h : runD P A (callW P A) k f args H = some r) : callW P A f args H = some r := by
 unfold runD at h
 split at h
 ·rename_i ho
  split at h
  ·rename_i fn hf
   split at h
   ·rename_i c hb
    rw [callW_eq hcl ho hf hb]
    split at h
    ·rename_i s h1
     have h1 : evC P A (callW P A) k f c (initS fn args H) = some (.normal, s) := h1
     rw [evC_W c h1]; exact h
    ·rename_i s h1
     have h1 : evC P A (callW P A) k f c (initS fn args H) = some (.ret, s) := h1
     rw [evC_W c h1]; exact h
    ·cases h
   ·cases h
  ·cases h
 ·cases h
end
def callS [Gl] (P : Program) (A : Ann) (S : CallF) : Nat → CallF
 | 0 => fun _ _ _ => none
 | k + 1 => fun f args H =>
  match S f args H with
  | some r => some r
  | none =>
  match A.outer f with
  | some e => extD P e args H
  | none =>
  match A.clone f with
  | none => runF P A (callS P A S k) k f args H
  | some sz => if emptyArg args H then some (if sz = 0 then (.p (.lst false 0 []), []) else (.ref 0 0 0 sz, [.arr []])) else runF P A (callS P A S k) k f args H
theorem callS_le [Gl] {P : Program} {A : Ann} {S : CallF} (hS : CallLe S (callW P A)) : ∀ k, CallLe (callS P A S k) (callW P A)
 | 0 => fun _ _ _ _ h => by simp [callS] at h
 | k + 1 => by
  intro f args H r h
  simp only [callS] at h
  split at h
  ·rename_i r' hr
   cases h
   exact hS _ _ _ _ hr
  ·cases hx : A.outer f with
   | some e =>
    simp only [hx] at h
    exact callW_some.2 ⟨1, by simp only [callN, hx]; exact h⟩
   | none =>
    simp only [hx] at h
    split at h
    ·rename_i hc
     exact runD_W (by simp [hx, hc]) (runD_mono (callS_le hS k) (Nat.le_refl k) (runF_ok h))
    ·rename_i sz hc
     split at h
     ·rename_i he
      exact callW_some.2 ⟨1, by simp only [callN, hx, hc, if_pos he]; exact h⟩
     ·rename_i he
      exact runD_W (by simp [hx, hc, he]) (runD_mono (callS_le hS k) (Nat.le_refl k) (runF_ok h))
end Go.Ev

set_option linter.unusedVariables false
namespace Go.Ev
open Go
theorem indexD_arr {P : Program} {t e n : TypeId} {k : IntKind} {l : List Int} {i v : Int} (hu : P.underlying t = some (.array n e)) (ha : aggT P e = some false) (hz : szOf P e = some 1) (hn : n = l.length) (h : rd l i = some v) : indexD P t (.p (.agg (l.map fun x => .v (.int k x)))) (.p (.v (.int .i64 i))) = some (.p (.v (.int k v))) := by
 obtain ⟨h0, h1, h2⟩ := rd_some h
 subst hn
 simp only [indexD, hu, intD, Option.bind_some, hz, if_pos (And.intro h0 h1), partD, ha, Nat.mul_one, List.getElem?_map, h2, Option.map_some]
theorem bsD_row {P : Program} {t e e2 : TypeId} {H : List Ob} {id n sz : Nat} {T : Type} {en : T → List Pv} {x : List T} (hu : P.underlying t = some (.slice e)) (hu2 : P.underlying e = some (.slice e2)) (hz : szOf P e = some 1) (hzc : zeroCs P e = some [.lst true 0 []])
  (he : ∀ x, (en x).length = sz) (hw : ∀ x, wks (en x) = en x) (hid : H[id]? = some (.arr (encL en x))) (hn : n = x.length) : bsD P H t 1 [(0, .ref id 0 n sz)] = some (.p (.lst true 1 [.lst false x.length (encL en x)]), some (H.set id (.frz (encL en x)))) := by
 have e0 : purify H (.ref id 0 n sz) = some (.lst false x.length (encL en x), [id]) := purify_enc he hid hn
 have e1 : fillD (fun i => some (i * 1, 1)) ((repl 1 [Pv.lst true 0 []]).map .p) [(0, .ref id 0 n sz)] = some [.ref id 0 n sz] := rfl
 have e2 : purifys H [.ref id 0 n sz] = some ([.lst false x.length (encL en x)], [id]) := by simp only [purifys, e0, List.append_nil]
 have e3 : freezeAll H [id] = H.set id (.frz (encL en x)) := by simp only [freezeAll, frzAt, hid, frzOb]
 have e4 : wkN (.lst false x.length (encL en x)) = .lst false x.length (encL en x) := by
  show wk (.lst false x.length (encL en x)) = _
  rw [wk, wks_encL hw]
 simp only [bsD, hu, hz, hzc, Option.bind_some, List.length_singleton]
 rw [if_neg (by decide), e1]
 simp only [Option.bind_some, e2, Option.map_some, wkE, hu2, List.map_cons, List.map_nil, e4, e3]
 rfl
end Go.Ev

set_option linter.unusedVariables false
set_option linter.unusedSimpArgs false
namespace Go.Ev
open Go
theorem sameNow_k (kk : IntKind) (k x : Int) : Instr.sameNow (.int kk) (.int kk k) (.int kk x) = some (decide (k = x)) := by
 simp only [Instr.sameNow, if_true]
 congr 1
theorem findNowI_k (kk : IntKind) (k : Int) : ∀ (l : List Int) (i : Nat), findNowI (.int kk) (.int kk k) (l.map fun x => .int kk x) i = some ((l.findIdx? fun x => decide (k = x)).map (· + i))
 | [], i => rfl
 | x :: l, i => by
  simp only [List.map_cons, findNowI, sameNow_k, List.findIdx?_cons]
  by_cases h : k = x
  ·simp [h]
  ·simp only [h, decide_false, Bool.false_eq_true, if_false]
   rw [findNowI_k kk k l (i + 1)]
   cases l.findIdx? fun x => decide (k = x) with
   | none => rfl
   | some j => simp only [Option.map_some]; congr 2; omega
theorem findD_k {P : Program} {kt : TypeId} {kk : IntKind} (h : P.underlying kt = some (.int kk)) (k : Int) (l : List Int) : findD P kt (.int kk k) (l.map fun x => .int kk x) = some (l.findIdx? fun x => decide (k = x)) := by
 simp only [findD, h, Option.bind_some, findNowI_k]
 cases l.findIdx? fun x => decide (k = x) <;> rfl
structure MapTy (P : Program) (t ke ve : TypeId) (kk : IntKind) : Prop where
 map : P.underlying t = some (.map ke ve)
 key : P.underlying ke = some (.int kk)
 chk : ∀ (k : Int) b, keyD P b ke (.int kk k) = some ()
 zero : zeroP P ve = some (.lst true 0 [])
 val : P.underlying ve = some (.slice 3)
 sz : szOf P 3 = some 1
 by_ : bytesOf P 3 = some 8
 zc : zeroCs P 3 = some [.v (.int .i64 (0 : Int))]
def en1 (x : Int) : List Pv := [.v (.int .i64 x)]
theorem en1_len (x : Int) : (en1 x).length = 1 := rfl
abbrev Fam := List (Int × Nat × List Int)
def mpOf (kk : IntKind) (T : Fam) : List (Value × Dv) := T.map fun e => (.int kk e.1, .ref e.2.1 0 e.2.2.length 1)
structure FamI (kk : IntKind) (z : Nat) (T : Fam) (H : List Ob) : Prop where
 mp : H[z]? = some (.mp (mpOf kk T))
 row : ∀ e ∈ T, H[e.2.1]? = some (.arr (encL en1 e.2.2))
 nd : (T.map (·.2.1)).Nodup
def atK (T : Fam) (k : Int) : Option Nat := (T.map (·.1)).findIdx? fun x => decide (k = x)
def lookR (T : Fam) (k : Int) : List Int := match atK T k with | some i => ((T[i]?).map (·.2.2)).getD [] | none => []
theorem mpOf_keys (kk : IntKind) (T : Fam) : (mpOf kk T).map (·.1) = (T.map (·.1)).map fun x => Value.int kk x := by simp [mpOf]
theorem atK_some {T : Fam} {k : Int} {i : Nat} (h : atK T k = some i) : ∃ e, T[i]? = some e ∧ e.1 = k := by
 unfold atK at h
 rw [List.findIdx?_eq_some_iff_getElem] at h
 obtain ⟨h1, h2, _⟩ := h
 have hi : i < T.length := by simpa using h1
 refine ⟨T[i], List.getElem?_eq_getElem hi, ?_⟩
 have : k = T[i].1 := by simpa using h2
 exact this.symm
section
variable {P : Program} {t ke ve : TypeId} {kk : IntKind} {z : Nat}
theorem FamI.ents {T : Fam} {H : List Ob} (h : FamI kk z T H) : entsD H (.mp z) = some (mpOf kk T) := by simp [entsD, h.mp]
theorem FamI.lookup_some (M : MapTy P t ke ve kk) {T : Fam} {H : List Ob} (h : FamI kk z T H) {k : Int} {i : Nat} {e : Int × Nat × List Int} (ha : atK T k = some i) (he : T[i]? = some e) : lookupD P H t (.mp z) (.p (.v (.int kk k))) false = some (.ref e.2.1 0 e.2.2.length 1) := by
 have e2 : (mpOf kk T)[i]? = some (.int kk e.1, .ref e.2.1 0 e.2.2.length 1) := by simp [mpOf, he]
 unfold atK at ha
 simp only [lookupD, M.map, h.ents, concD, conc, Option.bind_some, M.chk, mpOf_keys, findD_k M.key, ha, e2, Option.map_some, Bool.false_eq_true, if_false]
theorem FamI.lookup_none (M : MapTy P t ke ve kk) {T : Fam} {H : List Ob} (h : FamI kk z T H) {k : Int} (ha : atK T k = none) : lookupD P H t (.mp z) (.p (.v (.int kk k))) false = some (.p (.lst true 0 [])) := by
 unfold atK at ha
 simp only [lookupD, M.map, h.ents, concD, conc, Option.bind_some, M.chk, mpOf_keys, findD_k M.key, ha, M.zero, Option.map_some, Bool.false_eq_true, if_false]
theorem update_some (M : MapTy P t ke ve kk) {T : Fam} {H : List Ob} (h : H[z]? = some (.mp (mpOf kk T))) {k : Int} {i : Nat} (ha : atK T k = some i) (x : Dv) : mapUpdateD P H t (.mp z) (.p (.v (.int kk k))) x = some (H.set z (.mp ((mpOf kk T).set i (.int kk k, x)))) := by
 obtain ⟨e, he, hk⟩ := atK_some ha
 have e2 : (mpOf kk T)[i]? = some (.int kk e.1, .ref e.2.1 0 e.2.2.length 1) := by simp [mpOf, he]
 have e3 : Instr.sameBits 10000 (.int kk e.1) (.int kk k) = true := by rw [hk]; simp [Instr.sameBits]
 unfold atK at ha
 simp only [mapUpdateD, M.map, h, concD, conc, Option.bind_some, M.chk, mpOf_keys, findD_k M.key, ha, e2, e3, if_true]
theorem update_none (M : MapTy P t ke ve kk) {T : Fam} {H : List Ob} (h : H[z]? = some (.mp (mpOf kk T))) {k : Int} (ha : atK T k = none) (x : Dv) : mapUpdateD P H t (.mp z) (.p (.v (.int kk k))) x = some (H.set z (.mp (mpOf kk T ++ [(.int kk k, x)]))) := by
 unfold atK at ha
 simp only [mapUpdateD, M.map, h, concD, conc, Option.bind_some, M.chk, mpOf_keys, findD_k M.key, ha]
theorem get_snoc {H : List Ob} {i : Nat} {o x : Ob} (h : H[i]? = some o) : (H ++ [x])[i]? = some o := by
 have := (List.getElem?_eq_some_iff.1 h).1
 rw [List.getElem?_append_left this]; exact h
theorem FamI.lt {T : Fam} {H : List Ob} (h : FamI kk z T H) {e : Int × Nat × List Int} (he : e ∈ T) : e.2.1 < H.length := (List.getElem?_eq_some_iff.1 (h.row e he)).1
theorem FamI.zlt {T : Fam} {H : List Ob} (h : FamI kk z T H) : z < H.length := (List.getElem?_eq_some_iff.1 h.mp).1
theorem FamI.ne0 {T : Fam} {H : List Ob} (h : FamI kk z T H) {e : Int × Nat × List Int} (he : e ∈ T) : e.2.1 ≠ z := by
 intro e0
 have := h.row e he
 rw [e0, h.mp] at this; cases this
theorem FamI.of {T : Fam} {H H' : List Ob} (h : FamI kk z T H) (hz : H'[z]? = H[z]?) (hr : ∀ e ∈ T, H'[e.2.1]? = H[e.2.1]?) : FamI kk z T H' :=
 ⟨hz.trans h.mp, fun e he => (hr e he).trans (h.row e he), h.nd⟩
theorem set_map_same {T : Fam} {i : Nat} {e x : Int × Nat × List Int} (he : T[i]? = some e) (hx : x.1 = e.1) : (T.set i x).map (·.1) = T.map (·.1) := by
 rw [List.map_set, hx]
 apply List.ext_getElem?
 intro j
 by_cases hj : i = j
 ·subst hj
  have hi := (List.getElem?_eq_some_iff.1 he).1
  rw [List.getElem?_set_self (by simpa using hi)]
  simp [he]
 ·rw [List.getElem?_set_ne hj]
theorem row_app {H : List Ob} {id n : Nat} {x : Int} {row : List Int} {s : TypeId} (hs : P.underlying s = some (.slice 3)) (hz : szOf P 3 = some 1) (hb3 : bytesOf P 3 = some 8) (hzc : zeroCs P 3 = some [.v (.int .i64 (0 : Int))]) (hid : H[id]? = some (.arr (encL en1 row))) (hn : n = row.length) (hb : row.length ≤ 2 ^ 30) :
  appendD P H #[s, s] (.ref id 0 n 1) (.p (.lst true 1 [.v (.int .i64 x)])) = some (.ref H.length 0 (row ++ [x]).length 1, H.set id .dead ++ [.arr (encL en1 (row ++ [x]))]) := by
 rw [appendD_ap hs hs hz hb3 hzc ⟨by decide, by decide, rfl⟩, hid]
 exact ap_enc (y := [x]) en1_len hn rfl rfl (by omega)
theorem nil_app {H : List Ob} {x : Int} {s : TypeId} (hs : P.underlying s = some (.slice 3)) (hz : szOf P 3 = some 1) (hb3 : bytesOf P 3 = some 8) (hzc : zeroCs P 3 = some [.v (.int .i64 (0 : Int))]) : appendD P H #[s, s] (.p (.lst true 0 [])) (.p (.lst true 1 [.v (.int .i64 x)])) = some (.ref H.length 0 1 1, H ++ [.arr (encL en1 [x])]) := by
 rw [appendD_apn hs hs hz hb3 hzc ⟨by decide, by decide, rfl⟩]
 rfl
theorem fam_add (M : MapTy P t ke ve kk) {T : Fam} {H1 : List Ob} (h1 : FamI kk z T H1) (k0 x0 : Int) (hb : ∀ k, (lookR T k).length ≤ 2 ^ 30) : ∃ d e H2 H3 T', lookupD P H1 t (.mp z) (.p (.v (.int kk k0))) false = some d ∧
  appendD P H1 #[ve, ve] d (.p (.lst true 1 [.v (.int .i64 x0)])) = some (e, H2) ∧ mapUpdateD P H2 t (.mp z) (.p (.v (.int kk k0))) e = some H3 ∧
  FamI kk z T' H3 ∧ (∀ k, lookR T' k = lookR T k ++ if k0 = k then [x0] else []) ∧ (∀ y o, H1[y]? = some o → y ≠ z → (∀ e ∈ T, e.2.1 ≠ y) → H3[y]? = some o) ∧ (∀ e ∈ T', (∃ e' ∈ T, e'.2.1 = e.2.1) ∨ e.2.1 = H1.length) ∧ H3.length = H1.length + 1 := by
 have hzl := h1.zlt
 cases ha : atK T k0 with
 | some i =>
  obtain ⟨e, he, hk⟩ := atK_some ha
  have hm : e ∈ T := List.mem_of_getElem? he
  have hlt := h1.lt hm
  have hi := (List.getElem?_eq_some_iff.1 he).1
  have hrow : lookR T k0 = e.2.2 := by simp [lookR, ha, he]
  have hne0 := h1.ne0 hm
  have h2mp : (H1.set e.2.1 .dead ++ [.arr (encL en1 (e.2.2 ++ [x0]))])[z]? = some (.mp (mpOf kk T)) := get_snoc (by rw [List.getElem?_set_ne hne0]; exact h1.mp)
  refine ⟨_, _, _, _, T.set i (k0, H1.length, e.2.2 ++ [x0]), h1.lookup_some M ha he, row_app M.val M.sz M.by_ M.zc (h1.row e hm) rfl (by rw [← hrow]; exact hb _), update_some M h2mp ha _, ⟨?_, ?_, ?_⟩, ?_, ?_, ?_, by simp⟩
  ·rw [List.getElem?_set_self (by simp; omega)]
   simp [mpOf]
  ·intro x hx
   obtain ⟨j, hj⟩ := List.mem_iff_getElem?.1 hx
   by_cases hij : i = j
   ·subst hij
    rw [List.getElem?_set_self hi] at hj
    obtain rfl := Option.some.inj hj
    show (List.set _ z _)[H1.length]? = _
    rw [List.getElem?_set_ne (by omega)]
    simp
   ·rw [List.getElem?_set_ne hij] at hj
    have hxT : x ∈ T := List.mem_of_getElem? hj
    have hne : e.2.1 ≠ x.2.1 := by
     intro e'
     have hil : i < (T.map (·.2.1)).length := by simpa using hi
     exact hij ((List.getElem?_inj (i := i) (j := j) (l := T.map (·.2.1)) hil h1.nd).1 (by simp [he, hj, e']))
    have hx0 := h1.ne0 hxT
    rw [List.getElem?_set_ne (fun e' => hx0 e'.symm)]
    exact get_snoc (by rw [List.getElem?_set_ne hne]; exact h1.row x hxT)
  ·rw [List.map_set]
   have nd := List.pairwise_iff_getElem.1 h1.nd
   have hltT : ∀ c (hc : c < (T.map (·.2.1)).length), (T.map (·.2.1))[c] < H1.length := by
    intro c hc
    have hm' := List.getElem_mem hc
    obtain ⟨z, hz, e'⟩ := List.mem_map.1 hm'
    have := h1.lt hz
    rw [← e']; omega
   refine List.pairwise_iff_getElem.2 (fun a b ha' hb' hab => ?_)
   have ha2 : a < (T.map (·.2.1)).length := by simpa using ha'
   have hb2 : b < (T.map (·.2.1)).length := by simpa using hb'
   rw [List.getElem_set, List.getElem_set]
   by_cases hia : i = a
   ·rw [if_pos hia, if_neg (by omega)]
    have := hltT b hb2
    show H1.length ≠ _
    omega
   ·rw [if_neg hia]
    by_cases hib : i = b
    ·rw [if_pos hib]
     have := hltT a ha2
     show _ ≠ H1.length
     omega
    ·rw [if_neg hib]
     exact nd a b ha2 hb2 hab
  ·intro k
   have hat : atK (T.set i (k0, H1.length, e.2.2 ++ [x0])) k = atK T k := by unfold atK; rw [set_map_same he (by simpa using hk.symm)]
   unfold lookR
   rw [hat]
   by_cases hkk : k0 = k
   ·subst hkk
    rw [ha, if_pos rfl]
    have hTi : T[i] = e := Option.some.inj ((List.getElem?_eq_getElem hi).symm.trans he)
    simp [hi, hTi]
   ·rw [if_neg hkk, List.append_nil]
    cases hb' : atK T k with
    | none => rfl
    | some j =>
     obtain ⟨e', he', hk'⟩ := atK_some hb'
     have hij : i ≠ j := by
      intro e0; subst e0
      rw [he] at he'
      obtain rfl := Option.some.inj he'
      exact hkk (hk.symm.trans hk')
     simp only [List.getElem?_set_ne hij]
  ·intro y o hy hyz hyT
   rw [List.getElem?_set_ne (Ne.symm hyz)]
   exact get_snoc (by rw [List.getElem?_set_ne (hyT e hm)]; exact hy)
  ·intro x hx
   obtain ⟨j, hj⟩ := List.mem_iff_getElem?.1 hx
   by_cases hij : i = j
   ·subst hij
    rw [List.getElem?_set_self hi] at hj
    obtain rfl := Option.some.inj hj
    exact Or.inr rfl
   ·rw [List.getElem?_set_ne hij] at hj
    exact Or.inl ⟨x, List.mem_of_getElem? hj, rfl⟩
 | none =>
  have hrow : lookR T k0 = [] := by simp [lookR, ha]
  have h2mp : (H1 ++ [.arr (encL en1 [x0])])[z]? = some (.mp (mpOf kk T)) := get_snoc h1.mp
  refine ⟨_, _, _, _, T ++ [(k0, H1.length, [x0])], h1.lookup_none M ha, nil_app M.val M.sz M.by_ M.zc, update_none M h2mp ha _, ⟨?_, ?_, ?_⟩, ?_, ?_, ?_, by simp⟩
  ·rw [List.getElem?_set_self (by simp; omega)]
   simp [mpOf]
  ·intro x hx
   rcases List.mem_append.1 hx with hx | hx
   ·have hx0 := h1.ne0 hx
    rw [List.getElem?_set_ne (fun e' => hx0 e'.symm)]
    exact get_snoc (h1.row x hx)
   ·obtain rfl : x = (k0, H1.length, [x0]) := by simpa using hx
    show (List.set _ z _)[H1.length]? = _
    rw [List.getElem?_set_ne (by omega)]
    simp
  ·rw [List.map_append, List.nodup_append]
   refine ⟨h1.nd, by simp, fun a hA b hB => ?_⟩
   obtain ⟨x, hx, rfl⟩ := List.mem_map.1 hA
   obtain rfl : b = H1.length := by simpa using hB
   have := h1.lt hx
   omega
  ·intro k
   unfold lookR atK at *
   rw [List.map_append, List.findIdx?_append]
   by_cases hkk : k0 = k
   ·subst hkk
    rw [ha, if_pos rfl]
    simp [List.findIdx?_cons]
   ·rw [if_neg hkk, List.append_nil]
    cases hb' : (T.map (·.1)).findIdx? (fun x => decide (k = x)) with
    | none => simp [List.findIdx?_cons, Ne.symm hkk]
    | some j =>
     have : j < T.length := by
      rw [List.findIdx?_eq_some_iff_getElem] at hb'
      simpa using hb'.1
     simp [List.getElem?_append_left this]
  ·intro y o hy hyz hyT
   rw [List.getElem?_set_ne (Ne.symm hyz)]
   exact get_snoc hy
  ·intro x hx
   rcases List.mem_append.1 hx with hx | hx
   ·exact Or.inl ⟨x, hx, rfl⟩
   ·obtain rfl : x = (k0, H1.length, [x0]) := by simpa using hx
    exact Or.inr rfl
end
end Go.Ev

