/- A part of the proof: E5. No conditions of its own. -/
import Derived.Test.YtdknlgpdjmjlnaaGreatDoorE4
import Derived.Laws.StructEq
import Derived.LaidMore
import Derived.MakeChecks
import Derived.Stop.Joined
set_option linter.unusedVariables false
set_option linter.unusedSimpArgs false
namespace Go.Ev
section
variable {P : Program} {A : Ann} {f : FuncId} {c : CallF} {q : Bool} {ops : Array Oper} {l : List Oper} {tm : List Dv} {H : List Ob} {n t ty : Nat} {pos : String} {af : Array Edge}
theorem ofVal_str {s : ByteArray} : ofVal (.string s) = .v (.string s) := rfl
theorem encL_nil {T : Type} {en : T → List Pv} : encL en ([] : List T) = [] := rfl
theorem boxD_leaf {k : IntKind} {x : Int} : boxD H (.p (.v (.int k x))) = some (.ptr H.length 0, some (H ++ [.var [.p (.v (.int k x))]])) := rfl
theorem boxD_bool {b : Bool} : boxD H (.p (.v (.bool b))) = some (.ptr H.length 0, some (H ++ [.var [.p (.v (.bool b))]])) := rfl
theorem boxD_str {s : ByteArray} : boxD H (.p (.v (.string s))) = some (.ptr H.length 0, some (H ++ [.var [.p (.v (.string s))]])) := rfl
theorem boxD_lst {b : Bool} {m : Nat} {cs : List Pv} : boxD H (.p (.lst b m cs)) = some (.ptr H.length 0, some (H ++ [.var [.p (.lst b m cs)]])) := rfl
theorem boxD_agg {cs : List Pv} : boxD H (.p (.agg cs)) = some (.ptr H.length 0, some (H ++ [.var (cs.map .p)])) := rfl
theorem boxD_ref {id off m sz : Nat} : boxD H (.ref id off m sz) = some (.ptr H.length 0, some (H ++ [.var [.ref id off m sz]])) := rfl
def stdOb (H : List Ob) (id off : Nat) (d : Dv) (o : Option Ob) : Option (List Ob) :=
 match o with
 | some (.var cs) => if off < cs.length then some (H.set id (.var (cs.set off d))) else none
 | some (.arr cs) => match d with
  | .p x => if off < cs.length then some (H.set id (.arr (cs.set off x))) else none
  | _ => none
 | _ => none
theorem storeD_leaf {t : TypeId} {id off : Nat} {x : Pv} (hs : szOf P t = some 1) (hx : cellsD (.p x) = some [.p x]) :
  storeD P H t (.ptr id off) (.p x) = stdOb H id off (.p x) H[id]? := by
 rw [storeD_ptr hs hx]
 cases H[id]? with
 | none => rfl
 | some o => cases o <;> rfl
theorem std_enc {id sz k : Nat} {T : Type} {en : T → List Pv} {x : List T} {i : Int} {v v' : T} {p : Pv} (he : ∀ x, (en x).length = sz) (h : rd x i = some v) (hk : k < sz) (hv : en v' = (en v).set k p) :
  stdOb H id (i.toNat * sz + k) (.p p) (some (.arr (encL en x))) = some (H.set id (.arr (encL en (x.set i.toNat v')))) := by
 have := stf_enc (H := H) (id := id) he h hk hv
 simpa [stOb, stdOb] using this
theorem std_enc0 {id sz : Nat} {T : Type} {en : T → List Pv} {x : List T} {i : Int} {v v' : T} {p : Pv} (he : ∀ x, (en x).length = sz) (h : rd x i = some v) (hk : 0 < sz) (hv : en v' = (en v).set 0 p) :
  stdOb H id (i.toNat * sz) (.p p) (some (.arr (encL en x))) = some (H.set id (.arr (encL en (x.set i.toNat v')))) := std_enc (k := 0) he h hk hv
theorem shi_enc {st e sz : Nat} {full : Bool} {T : Type} {en : T → List Pv} {l : List T} {a : Int} (h : P.underlying st = some (.slice e)) (hs : szOf P e = some sz) (hz : sz ≠ 0) (he : ∀ x, (en x).length = sz) (h0 : 0 ≤ a) (h1 : a ≤ (l.length : Int)) :
  sliceD P H st (.p (.lst full l.length (encL en l))) none (some (iv a)) none = some (.p (.lst (full && decide (a.toNat = l.length)) (l.take a.toNat).length (encL en (l.take a.toNat)))) := by
 rw [slice_hi h hs hz (encL_len he l) h0 h1, encL_take he, List.length_take, Nat.min_eq_left (by omega)]
theorem lenD_str {t : TypeId} {s : ByteArray} (h : P.underlying t = some .string) : lenD P t (.p (.v (.string s))) = some (iv s.size) := by
 simp only [lenD, h]; rfl
theorem appendD_nil {e e2 t1 t2 : TypeId} {sz b : Nat} {z : List Pv} {m : Nat} {full : Bool} {new : List Pv} (h : P.underlying t1 = some (.slice e)) (h2 : P.underlying t2 = some (.slice e2)) (hs : szOf P e = some sz) (hb : bytesOf P e = some b) (hz : zeroCs P e = some z)
  (h3 : sz ≠ 0 ∧ b ≠ 0 ∧ z.length = sz) (hn : new.length = m * sz) (hl : m * b ≤ 140737488355328) :
  appendD P H #[t1, t2] (.p (.lst true 0 [])) (.p (.lst full m new)) = some (.ref H.length 0 m sz, H ++ [.arr new]) := by
 have e1 : (#[t1, t2] : Array TypeId)[0]? = some t1 := rfl
 have e3 : srcT P #[t1, t2] = true := by simp [srcT, h2]
 simp only [appendD, e1, Option.bind_some, h, hs, hb, hz, e3]
 rw [if_neg (by simp [h3])]
 simp only [srcCells, if_pos hn, Option.bind_some]
 rw [if_pos ⟨by simp, by rw [Nat.zero_add]; exact hl⟩, if_pos (.inl trivial)]
 simp
end
end Go.Ev

set_option linter.unusedVariables false
set_option linter.unusedSimpArgs false
namespace Go.Ev
section
variable {P : Program}
theorem pureRun_bind {α β : Type} (x : Sem α) (g : α → Sem β) : pureRun P (x >>= g) = (pureRun P x).bind fun a => pureRun P (g a) := by
 induction x with
 | pure a => rfl
 | program k ih => exact ih P
 | mark _ k ih => exact ih
 | _ => rfl
theorem pureRun_ite {α : Type} {p : Prop} [Decidable p] (x y : Sem α) : pureRun P (if p then x else y) = if p then pureRun P x else pureRun P y := by
 split <;> rfl
theorem pureRun_pure {α : Type} (a : α) : pureRun P (pure a : Sem α) = some a := rfl
theorem pr_program : pureRun P (program : Sem Program) = some P := rfl
theorem pr_underlying {t : TypeId} {x : TypeDesc} (h : P.underlying t = some x) : pureRun P (underlying t) = some x := by
 show pureRun P (match P.underlying t with | some d => pure d | none => stuck _) = some x
 rw [h]; rfl
theorem pr_equal_struct {d : Nat} {t : TypeId} {xs ys : Array Value} {fs : Array Field} (ht : P.underlying t = some (.struct fs)) (hp : P.stoodInHeld t = false) :
  pureRun P (Op.equalIn (d + 1) t (.agg xs) (.agg ys)) = pureRun P (Op.eqFields d xs ys fs.toList) := by
 simp only [Op.equalIn, pureRun_bind, pr_underlying ht, Option.bind_some, pr_program, hp, Bool.false_eq_true, if_false]
 rw [← Array.forIn_toList]
 generalize fs.toList = l
 clear ht
 induction l with
 | nil => rfl
 | cons f l ih =>
  simp only [List.forIn_cons, Op.eqFields, pureRun_bind, pureRun_ite]
  split
  ·cases pureRun P (part f.type xs f.offset) with
   | none => rfl
   | some a =>
    simp only [Option.bind_some]
    cases pureRun P (part f.type ys f.offset) with
    | none => rfl
    | some b =>
     simp only [Option.bind_some]
     cases pureRun P (Op.equalIn d f.type a b) with
     | none => rfl
     | some r =>
      cases r
      ·rfl
      ·simp only [Option.bind_some, Bool.not_true, Bool.false_eq_true, if_false, pureRun_pure]
       exact ih
  ·simp only [pureRun_pure, Option.bind_some]
   exact ih
theorem pr_nil {d : Nat} {xs ys : Array Value} : pureRun P (Op.eqFields d xs ys []) = some true := rfl
theorem pr_cons {d : Nat} {xs ys : Array Value} {f : Field} {fs : List Field} {a b : Value} {r s : Bool} (hn : (f.name == "_") = false) (ha : pureRun P (part f.type xs f.offset) = some a) (hb : pureRun P (part f.type ys f.offset) = some b)
  (he : pureRun P (Op.equalIn d f.type a b) = some r) (hs : pureRun P (Op.eqFields d xs ys fs) = some s) : pureRun P (Op.eqFields d xs ys (f :: fs)) = some (r && s) := by
 have hn' : f.name ≠ "_" := by simpa using hn
 rw [Op.eqFields]
 simp only [if_pos hn', pureRun_bind, ha, hb, he, Option.bind_some]
 cases r
 ·rfl
 ·simpa using hs
theorem pr_equal_int {d : Nat} {t : TypeId} {k k' : IntKind} {a b : Int} (h : P.underlying t = some (.int k')) : pureRun P (Op.equalIn (d + 1) t (.int k a) (.int k b)) = some (decide (a = b)) := by
 simp only [Op.equalIn, pureRun_bind, pr_underlying h, Option.bind_some, if_true, pureRun_pure]
 rfl
theorem pr_equal_bool {d : Nat} {t : TypeId} {a b : Bool} (h : P.underlying t = some .bool) : pureRun P (Op.equalIn (d + 1) t (.bool a) (.bool b)) = some (decide (a = b)) := by
 simp only [Op.equalIn, pureRun_bind, pr_underlying h, Option.bind_some, pureRun_pure]
 rfl
theorem toList_beq (a b : ByteArray) : (a.toList == b.toList) = decide (a = b) := by
 rw [ByteArray.toList_eq, ByteArray.toList_eq]
 obtain ⟨⟨x⟩⟩ := a
 obtain ⟨⟨y⟩⟩ := b
 by_cases h : x = y
 ·subst h; simp
 ·simp [h]
theorem binD_neq_agg {t : TypeId} {xo yo : Operand} {A B : List Pv} {va vb : List Value} {r : Bool} (ha : concs A = some va) (hb : concs B = some vb) (hg : P.eqGuardType P.depth t = false) (he : pureRun P (Op.equalIn 10000 t (.agg va.toArray) (.agg vb.toArray)) = some r) :
  binD P .neq t xo yo (.p (.agg A)) (.p (.agg B)) = some (.p (.v (.bool (!r)))) := by
 simp only [binD, concD, conc, ha, hb, Option.map_some, pureRun_bind]
 have h1 : pureRun P (eqGuard .neq t xo yo (.agg va.toArray) (.agg vb.toArray)) = some () := by
  unfold eqGuard
  simp only [pureRun_bind, pr_program, Option.bind_some, hg, Bool.not_false, if_true, pureRun_pure, pureRun_ite]
  rfl
 rw [h1]
 simp only [Option.bind_some, binOp, pureRun_bind, Op.equal, Op.maxDepth, he, pureRun_pure, Option.map_some]
theorem binD_eql_str {xt : TypeId} {x y : Operand} {a b : ByteArray} : binD P .eql xt x y (.p (.v (.string a))) (.p (.v (.string b))) = some (.p (.v (.bool (decide (a = b))))) := by
 rw [← toList_beq]; rfl
theorem binD_neq_str {xt : TypeId} {x y : Operand} {a b : ByteArray} : binD P .neq xt x y (.p (.v (.string a))) (.p (.v (.string b))) = some (.p (.v (.bool (!decide (a = b))))) := by
 rw [← toList_beq]; rfl
theorem binD_neq_bool {xt : TypeId} {x y : Operand} {a b : Bool} (h : P.underlying xt = some .bool) : binD P .neq xt x y (.p (.v (.bool a))) (.p (.v (.bool b))) = some (.p (.v (.bool (!decide (a = b))))) := by
 simp only [binD, concD, conc, pureRun_bind]
 rw [show pureRun P (eqGuard .neq xt x y (.bool a) (.bool b)) = some () from rfl]
 simp only [Option.bind_some, binOp, pureRun_bind, Op.equal, Op.maxDepth, pr_equal_bool h, pureRun_pure, Option.map_some]
end
end Go.Ev
namespace Go.Ev
section
variable {P : Program} {H : List Ob}
def apOb (H : List Ob) (id off n m esz sz b : Nat) (new : List Pv) (o : Option Ob) : Option (Dv × List Ob) := if new.length = m * sz then appOb H id off n m esz sz b new o else none
theorem appendD_ap {e e2 t1 t2 : TypeId} {sz b : Nat} {z : List Pv} {id off esz n m : Nat} {full : Bool} {new : List Pv} (h : P.underlying t1 = some (.slice e)) (h2 : P.underlying t2 = some (.slice e2)) (hs : szOf P e = some sz) (hb : bytesOf P e = some b) (hz : zeroCs P e = some z)
  (h3 : sz ≠ 0 ∧ b ≠ 0 ∧ z.length = sz) : appendD P H #[t1, t2] (.ref id off n esz) (.p (.lst full m new)) = apOb H id off n m esz sz b new H[id]? := by
 by_cases hn : new.length = m * sz
 ·rw [appendD_ref h h2 hs hb hz h3 hn, apOb, if_pos hn]
 ·have e1 : (#[t1, t2] : Array TypeId)[0]? = some t1 := rfl
  simp only [appendD, e1, Option.bind_some, h, hs, hb, hz, srcCells, if_neg hn, Option.bind_none, apOb]
  split <;> rfl
theorem ap_enc {id sz b m n : Nat} {T : Type} {en : T → List Pv} {x y : List T} {new : List Pv} (he : ∀ x, (en x).length = sz) (hn : n = x.length) (hm : m = y.length) (hnew : new = encL en y) (hl : (x.length + m) * b ≤ 140737488355328) :
  apOb H id 0 n m sz sz b new (some (.arr (encL en x))) = some (.ref H.length 0 (x ++ y).length sz, H.set id .dead ++ [.arr (encL en (x ++ y))]) := by
 subst hn hm hnew
 rw [apOb, if_pos (encL_len he y), app_enc he hl]
def apN (H : List Ob) (m sz b : Nat) (new : List Pv) : Option (Dv × List Ob) := if new.length = m * sz ∧ m * b ≤ 140737488355328 then some (.ref H.length 0 m sz, H ++ [.arr new]) else none
theorem appendD_apn {e e2 t1 t2 : TypeId} {sz b : Nat} {z : List Pv} {m : Nat} {full : Bool} {new : List Pv} (h : P.underlying t1 = some (.slice e)) (h2 : P.underlying t2 = some (.slice e2)) (hs : szOf P e = some sz) (hb : bytesOf P e = some b) (hz : zeroCs P e = some z)
  (h3 : sz ≠ 0 ∧ b ≠ 0 ∧ z.length = sz) : appendD P H #[t1, t2] (.p (.lst true 0 [])) (.p (.lst full m new)) = apN H m sz b new := by
 by_cases hn : new.length = m * sz
 ·by_cases hl : m * b ≤ 140737488355328
  ·rw [appendD_nil h h2 hs hb hz h3 hn hl, apN, if_pos ⟨hn, hl⟩]
  ·have e1 : (#[t1, t2] : Array TypeId)[0]? = some t1 := rfl
   simp only [appendD, e1, Option.bind_some, h, hs, hb, hz, srcCells, if_pos hn, Option.bind_none, apN]
   rw [if_neg (by omega : ¬ (new.length = m * sz ∧ m * b ≤ 140737488355328))]
   split
   ·rfl
   ·rw [if_neg (by rw [Nat.zero_add]; omega)]
 ·have e1 : (#[t1, t2] : Array TypeId)[0]? = some t1 := rfl
  simp only [appendD, e1, Option.bind_some, h, hs, hb, hz, srcCells, if_neg hn, Option.bind_none, apN]
  rw [if_neg (by omega : ¬ (new.length = m * sz ∧ m * b ≤ 140737488355328))]
  split <;> rfl
theorem apn_enc {sz b m : Nat} {T : Type} {en : T → List Pv} {y : List T} {new : List Pv} (he : ∀ x, (en x).length = sz) (hm : m = y.length) (hnew : new = encL en y) (hl : m * b ≤ 140737488355328) :
  apN H m sz b new = some (.ref H.length 0 y.length sz, H ++ [.arr (encL en y)]) := by
 subst hm hnew
 rw [apN, if_pos ⟨encL_len he y, hl⟩]
end
end Go.Ev
namespace Go.Ev
section
variable {P : Program} {H : List Ob} {t : TypeId} {id off : Nat}
theorem storeD_int {k : IntKind} {x : Int} (hs : szOf P t = some 1) : storeD P H t (.ptr id off) (.p (.v (.int k x))) = stdOb H id off (.p (.v (.int k x))) H[id]? := storeD_leaf hs rfl
theorem storeD_bool {x : Bool} (hs : szOf P t = some 1) : storeD P H t (.ptr id off) (.p (.v (.bool x))) = stdOb H id off (.p (.v (.bool x))) H[id]? := storeD_leaf hs rfl
theorem storeD_lst {b : Bool} {n : Nat} {c : List Pv} (hs : szOf P t = some 1) : storeD P H t (.ptr id off) (.p (.lst b n c)) = stdOb H id off (.p (.lst b n c)) H[id]? := storeD_leaf hs rfl
end
end Go.Ev
namespace Go.Ev
theorem purify1_enc {H : List Ob} {id sz n : Nat} {T : Type} {en : T → List Pv} {x : List T} (he : ∀ x, (en x).length = sz) (hid : H[id]? = some (.arr (encL en x))) (hn : n = x.length) : purifyD H (oneD [.ref id 0 n sz]) = some (.lst false x.length (encL en x), [id]) := by
 simp only [oneD, purifyD]; exact purify_enc he hid hn
end Go.Ev
namespace Go.Ev
section
variable {P : Program} {A : Ann} {H : List Ob} {c : CallF} {f : FuncId}
theorem collect_one {H : List Ob} {id k : Nat} {o : Ob} (hid : H[id]? = some o) (ho : obRefs o = []) : collect H (k + 2) [id] [] = [id] := by
 simp only [collect, List.contains_nil, Bool.false_eq_true, if_false, List.nil_append, hid, ho]
theorem accOk_one {H : List Ob} {id : Nat} {o : Ob} (hid : H[id]? = some o) (ho : obRefs o = []) : accOk H [id] [id] = true := by
 have hlt : id < H.length := (List.getElem?_eq_some_iff.1 hid).1
 have : H[id] = o := (List.getElem?_eq_some_iff.1 hid).2
 simp [accOk, hlt, this, ho]
theorem take_one {H : List Ob} {id : Nat} {o : Ob} (hid : H[id]? = some o) : takeAlong H [id] = [obMap (fun i => [id].idxOf i) o] := by
 simp [takeAlong, List.getD_eq_getElem?_getD, hid]
theorem refs_cons1 {id n sz : Nat} (args : List Pv) : refsOfs (.ref id 0 n sz :: args.map .p) = [id] := by
 simp [refsOfs, refsOf, refs_pure]
section
variable {id n sz n' sz' : Nat} {cs cs' : List Pv} {args : List Pv} {ds : List Dv}
theorem callD_one {r : Dv × List Ob} (hd : ds.map wkDv = args.map .p) (hm : A.muts f = true) (hid : H[id]? = some (.arr cs)) (h : c f (.ref 0 0 n sz :: args.map .p) [.arr cs] = some r) (o : Ob) (h' : List Ob) (hr : r.2 = o :: h') (hb : roBack [.arr cs] r.2 = true) :
  callD c A H f (.ref id 0 n sz :: ds) = some (mapIds (backD H.length [id]) r.1, some (putBack (backD H.length [id]) H [id] r.2)) := by
 have e0 : (Dv.ref id 0 n sz :: ds).map wkDv = .ref id 0 n sz :: args.map .p := by
  rw [List.map_cons, hd]; rfl
 have e1 : collect H 64 [id] [] = [id] := collect_one (k := 62) hid rfl
 have e2 := accOk_one hid (show obRefs (.arr cs) = [] from rfl)
 simp only [callD, hm, Bool.true_or, if_true, freezeAll, e0, refs_cons1, e1, e2]
 have e3 : mapIdss (List.idxOf · [id]) (.ref id 0 n sz :: args.map .p) = .ref 0 0 n sz :: args.map .p := by
  simp only [mapIdss, mapIds, mapIds_pure, List.idxOf_cons_self]
 have e4 : lentD A f H [id] = [.arr cs] := by simp only [lentD, hm, if_true, take_one hid, obMap]
 change (c f (mapIdss (List.idxOf · [id]) (.ref id 0 n sz :: args.map .p)) (lentD A f H [id])).bind _ = _
 rw [e3, e4, h]
 obtain ⟨r1, r2⟩ := r
 simp only at hr hb
 subst hr
 simp only [Option.bind_some]
 have e5 : roBack (takeAlong H [id]) (o :: h') = true := by rw [take_one hid]; exact hb
 have e6 : (true && decide ([id].length ≤ (o :: h').length) && roBack (takeAlong H [id]) (o :: h')) = true := by rw [e5]; simp
 rw [if_pos e6]
theorem callD_mut1 (hd : ds.map wkDv = args.map .p) (hm : A.muts f = true) (hid : H[id]? = some (.arr cs)) (h : c f (.ref 0 0 n sz :: args.map .p) [.arr cs] = some (.ref 1 0 n' sz', [.dead, .arr cs'])) :
  callD c A H f (.ref id 0 n sz :: ds) = some (.ref H.length 0 n' sz', some (H.set id .dead ++ [.arr cs'])) := by
 rw [callD_one hd hm hid h _ _ rfl rfl]
 simp [mapIds, backD, putBack, obMap]
theorem callD_mut0 (hd : ds.map wkDv = args.map .p) (hm : A.muts f = true) (h : c f (args.map .p) [] = some (.ref 0 0 n' sz', [.arr cs'])) :
  callD c A H f ds = some (.ref H.length 0 n' sz', some (H ++ [.arr cs'])) := by
 have e2 : ∀ H', collect H' 64 [] [] = [] := fun _ => rfl
 simp only [callD, hm, Bool.true_or, if_true, freezeAll, hd, refs_pure, e2]
 rw [if_pos (show accOk H [] [] = true from rfl), mapIds_pure]
 have e3 : lentD A f H [] = [] := by simp only [lentD, hm]; rfl
 rw [e3, h]
 simp only [Option.bind_some]
 have e6 : ((true || ([] : List Nat).isEmpty) && decide (([] : List Nat).length ≤ [Ob.arr cs'].length) && roBack (takeAlong H []) [.arr cs']) = true := rfl
 rw [if_pos e6]
 simp [mapIds, backD, putBack, obMap]
end
def cpL {T : Type} (x y : List T) : List T := y.take x.length ++ x.drop y.length
theorem cpL_len {T : Type} (x y : List T) : (cpL x y).length = x.length := by simp [cpL]; omega
theorem copy_enc {t1 t2 e id sz n : Nat} {T : Type} {en : T → List Pv} {x y : List T} {full : Bool} (h : P.underlying t1 = some (.slice e)) (hs : szOf P e = some sz) (hz : sz ≠ 0) (he : ∀ x, (en x).length = sz) (hid : H[id]? = some (.arr (encL en x))) (hn : n = x.length) :
  copyD P H #[t1, t2] (.ref id 0 n sz) (.p (.lst full y.length (encL en y))) = some (.p (.v (.int .i64 ((Nat.min y.length x.length : Nat) : Int))), H.set id (.arr (encL en (cpL x y)))) := by
 subst hn
 have e1 : (#[t1, t2] : Array TypeId)[0]? = some t1 := rfl
 have hx := encL_len he x
 have hy := encL_len he y
 simp only [copyD, e1, Option.bind_some, h, hs, if_neg hz, srcCells, if_pos hy, hid]
 rw [if_pos ⟨trivial, by omega⟩]
 have e3 : (encL en y).take (Nat.min y.length x.length * sz) = encL en (y.take x.length) := by
  rw [encL_take he]
  congr 1
  rw [show Nat.min y.length x.length = min y.length x.length from rfl]
  rcases Nat.le_total y.length x.length with hle | hle
  ·rw [Nat.min_eq_left hle, List.take_of_length_le (Nat.le_refl _), List.take_of_length_le hle]
  ·rw [Nat.min_eq_right hle]
 have e4 : setAt (encL en x) 0 (encL en (y.take x.length)) = encL en (cpL x y) := by
  have hsplit : encL en x = encL en (x.take (y.take x.length).length) ++ encL en (x.drop (y.take x.length).length) := by
   rw [← encL_app, List.take_append_drop]
  rw [hsplit, setAt_zero _ _ _ (by rw [encL_len he, encL_len he, List.length_take, List.length_take]; congr 1; omega), ← encL_app, cpL]
  congr 2
  rw [List.length_take]
  rcases Nat.le_total y.length x.length with hle | hle
  ·rw [Nat.min_eq_right hle]
  ·rw [Nat.min_eq_left hle, List.drop_of_length_le (Nat.le_refl _), List.drop_of_length_le hle]
 rw [e3, e4]
 rfl
theorem callV_fn {g : FuncId} {args ds : List Dv} : callV c A H (.fn (.func g) ds) args = callD c A H g (args ++ ds) := by simp [callV]
end
theorem own_ref {e a b c' d n : Nat} {tm : List Dv} {H : List Ob} : ghostsD [.own 0 e] ⟨.ref a b c' d :: tm, H, n⟩ = some ⟨.ref a b c' d :: tm, H, n⟩ := rfl
end Go.Ev
namespace Go.Ev
theorem ops_makeFunc_ [Gl] {P : Program} {A : Ann} {c : CallF} {q : Bool} {ops : Array Oper} {l : List Oper} {tm : List Dv} {H : List Ob} {n t ty : Nat} {pos : String} {af : Array Edge} {fn : Fn} {caps : Array Operand} :
  opsD P A c q ops (⟨some t, .makeFunc fn #[] caps, ty, pos, af, none⟩ :: l) ⟨tm, H, n⟩ = opsD P A c q ops l ⟨tm.set t (mkFn fn (caps.toList.map (evalO tm))), H, n⟩ := ops_makeFunc rfl
end Go.Ev
namespace Go.Ev
theorem call_ofH [Gl] {P : Program} {A : Ann} {f : FuncId} {args : List Dv} {H : List Ob} {fn : Func} {c : Code} {r : Dv × List Ob} (hcl : ((A.outer f).isSome || (A.clone f).isSome && emptyArg args H) = false) (ho : A.okf f = true) (hf : P.funcs[f]? = some fn) (hb : fn.body = some c)
  (h : Wp (evW P A f c (initS fn args H)) fun e s => (e = .normal ∨ e = .ret) ∧ finishD P A f fn s = some r) : callW P A f args H = some r := by
 obtain ⟨e, s, h1, he, h2⟩ := h
 rw [callW_eq hcl ho hf hb, h1]
 rcases he with rfl | rfl <;> exact h2
end Go.Ev
namespace Go.Ev
theorem storeD_row {P : Program} {H : List Ob} {t : TypeId} {id j m sz sz' k : Nat} {T T' : Type} {en : T → List Pv} {en' : T' → List Pv} {x : List T} {y : List T'} {i : Int} {v v' : T}
  (hs : szOf P t = some 1) (he : ∀ x, (en x).length = sz) (he' : ∀ x, (en' x).length = sz') (hid : H[id]? = some (.arr (encL en x))) (hj : H[j]? = some (.arr (encL en' y))) (hne : (id == j) = false) (hm : m = y.length)
  (h : rd x i = some v) (hk : k < sz) (hv : en v' = (en v).set k (.lst false y.length (encL en' y))) :
  storeD P H t (.ptr id (i.toNat * sz + k)) (.ref j 0 m sz') = some ((H.set j (.frz (encL en' y))).set id (.arr (encL en (x.set i.toNat v')))) := by
 have hp := purify_enc (H := H) he' hj hm
 obtain ⟨h0, h1, h2⟩ := rd_some h
 have hl := (encL_seg he x i.toNat v h2).2
 have hne' : ¬ id = j := by simpa using hne
 have hf : freezeAll H [j] = H.set j (.frz (encL en' y)) := by simp only [freezeAll, frzAt, hj, frzOb]
 have hps : purifys H [.ref j 0 m sz'] = some ([.lst false y.length (encL en' y)], [j]) := by
  simp only [purifys, hp, List.append_nil]
 simp only [storeD, hs, hid, cellsD, hps]
 rw [if_pos ⟨rfl, by omega, by simpa using hne'⟩, hf]
 simp only [setAt]
 rw [encL_set he x i.toNat v h2 hk hv]
end Go.Ev
namespace Go.Ev
theorem wks_nil_ : wks [] = [] := by simp [wks]
end Go.Ev
namespace Go.Ev
theorem own_nil' {T : Type} {en : T → List Pv} {x : List T} (hx : x = []) (e : Nat) : ∀ (tm : List Dv) (H : List Ob) (n : Nat), ghostsD [.own 0 e] ⟨.p (.lst true 0 []) :: tm, H, n⟩ = some ⟨.ref H.length 0 x.length e :: tm, H ++ [.arr (encL en x)], n⟩ := by
 subst hx; intros; rfl
end Go.Ev

set_option linter.unusedVariables false
set_option linter.unusedSimpArgs false
namespace Go.Ev
section
variable {P : Program} {A : Ann} {H : List Ob} {c : CallF} {f : FuncId} {xt : TypeId} {x y : Operand} {k : IntKind} {a b : Int}
abbrev kv (k : IntKind) (x : Int) : Dv := .p (.v (.int k x))
theorem binD_lss_k : binD P .lss xt x y (kv k a) (kv k b) = some (bv (decide (a < b))) := by cases k <;> rfl
theorem binD_leq_k : binD P .leq xt x y (kv k a) (kv k b) = some (bv (decide (a ≤ b))) := by cases k <;> rfl
theorem binD_gtr_k : binD P .gtr xt x y (kv k a) (kv k b) = some (bv (decide (b < a))) := by cases k <;> rfl
theorem binD_geq_k : binD P .geq xt x y (kv k a) (kv k b) = some (bv (decide (b ≤ a))) := by cases k <;> rfl
theorem binD_eql_k : binD P .eql xt x y (kv k a) (kv k b) = some (bv (decide (a = b))) := by cases k <;> rfl
theorem binD_neq_k : binD P .neq xt x y (kv k a) (kv k b) = some (bv (!decide (a = b))) := by cases k <;> rfl
theorem binD_sub_k : binD P .sub xt x y (kv k a) (kv k b) = some (kv k (k.wrap (a - b))) := by cases k <;> rfl
def andK (k : IntKind) (a b : Int) : Int := k.wrap (BitVec.ofInt k.bits a &&& BitVec.ofInt k.bits b).toNat
def xorK (k : IntKind) (a b : Int) : Int := k.wrap (BitVec.ofInt k.bits a ^^^ BitVec.ofInt k.bits b).toNat
def quoK (k : IntKind) (a b : Int) : Option Int := if b = 0 then none else some (k.wrap (a.tdiv b))
def shlK (k : IntKind) (a b : Int) : Option Int := if b < 0 then none else some (k.wrap (a * 2 ^ (min b.toNat k.bits)))
def shrK (k : IntKind) (a b : Int) : Option Int := if b < 0 then none else some (a.fdiv (2 ^ (min b.toNat k.bits)))
theorem binD_and_k : binD P .and xt x y (kv k a) (kv k b) = some (kv k (andK k a b)) := by cases k <;> rfl
theorem binD_xor_k : binD P .xor xt x y (kv k a) (kv k b) = some (kv k (xorK k a b)) := by cases k <;> rfl
theorem int_sem {op : BinOp} {r : Int} (hop : op ≠ .eql ∧ op ≠ .neq) (h : pureRun P (binOp op xt (.int k a) (.int k b)) = some (.int k r)) : binD P op xt x y (kv k a) (kv k b) = some (kv k r) := by
 simp only [binD, concD, conc, pureRun_bind]
 have : pureRun P (eqGuard op xt x y (.int k a) (.int k b)) = some () := by
  cases op <;> first | rfl | simp at hop
 rw [this, Option.bind_some, h]; rfl
theorem binD_quo_k {r : Int} (h : quoK k a b = some r) : binD P .quo xt x y (kv k a) (kv k b) = some (kv k r) := by
 unfold quoK at h
 split at h
 ·cases h
 ·rename_i h0
  obtain rfl := Option.some.inj h
  refine int_sem (by simp) ?_
  simp only [binOp, ne_eq, not_true_eq_false, if_false, Op.intDiv, if_neg h0, pureRun_pure]
theorem binD_shl_k {k' : IntKind} {r : Int} (h : shlK k a b = some r) : binD P .shl xt x y (kv k a) (kv k' b) = some (kv k r) := by
 unfold shlK at h
 split at h
 ·cases h
 ·rename_i h0
  obtain rfl := Option.some.inj h
  simp only [binD, concD, conc, pureRun_bind]
  rw [show pureRun P (eqGuard .shl xt x y (.int k a) (.int k' b)) = some () from rfl]
  simp only [Option.bind_some, binOp, Op.shift, if_neg h0, pureRun_pure, Option.map_some]
theorem binD_shr_k {k' : IntKind} {r : Int} (h : shrK k a b = some r) : binD P .shr xt x y (kv k a) (kv k' b) = some (kv k r) := by
 unfold shrK at h
 split at h
 ·cases h
 ·rename_i h0
  obtain rfl := Option.some.inj h
  simp only [binD, concD, conc, pureRun_bind]
  rw [show pureRun P (eqGuard .shr xt x y (.int k a) (.int k' b)) = some () from rfl]
  simp only [Option.bind_some, binOp, Op.shift, if_neg h0, pureRun_pure, Option.map_some]
theorem nilCheckD_ptr {id off : Nat} : nilCheckD (.ptr id off) = some (.ptr id off) := rfl
def bt (s : ByteArray) (i : Int) : Option Int := (if 0 ≤ i then s[i.toNat]? else none).map fun b => (b.toNat : Int)
theorem indexD_str {t : TypeId} {s : ByteArray} {k : IntKind} {i v : Int} (hu : P.underlying t = some .string) (h : bt s i = some v) : indexD P t (.p (.v (.string s))) (kv k i) = some (kv .u8 v) := by
 unfold bt at h
 simp only [Option.map_eq_some_iff] at h
 obtain ⟨b, h1, rfl⟩ := h
 simp only [indexD, hu, concD, conc, Option.bind_some, Instr.index, pureRun_bind, pr_underlying hu, asIntOf, pureRun_pure, h1, Option.map_some]
theorem callD_put {ds dsw ds' : List Dv} {i : Nat} {ids : List Nat} {o o' : Ob} {os os' : List Ob} {x : Pv} (hm : A.muts f = true) (hw : ds.map wkDv = dsw) (hacc : collect H 64 (refsOfs dsw) [] = i :: ids) (hok : accOk H (i :: ids) (refsOfs dsw) = true)
  (hds : mapIdss (List.idxOf · (i :: ids)) dsw = ds') (hos : takeAlong H (i :: ids) = o :: os) (h : c f ds' (o :: os) = some (.p x, o' :: os')) (hl : decide ((i :: ids).length ≤ (o' :: os').length) = true) (hb : roBack (o :: os) (o' :: os') = true) :
  callD c A H f ds = some (.p x, some (putBack (backD H.length (i :: ids)) H (i :: ids) (o' :: os'))) := by
 simp only [callD, hm, Bool.true_or, if_true, freezeAll, hw, hacc, hok]
 have e4 : lentD A f H (i :: ids) = o :: os := by simp only [lentD, hm, if_true, hos]
 change (c f (mapIdss (List.idxOf · (i :: ids)) dsw) (lentD A f H (i :: ids))).bind _ = _
 rw [hds, e4, h]
 simp only [Option.bind_some]
 have e6 : (true && decide ((i :: ids).length ≤ (o' :: os').length) && roBack (takeAlong H (i :: ids)) (o' :: os')) = true := by rw [hos, hb, hl]; rfl
 rw [if_pos e6]
 rfl
end
end Go.Ev
namespace Go.Ev
theorem Wp.gh (C : Option St → Option (Ex × St)) {G : List Ghost} {s : St} (S : St) {Q : Ex → St → Prop} (h : ghostsD G s = some S) (k : Wp (C (some S)) Q) : Wp (C (ghostsD G s)) Q := by rw [h]; exact k
end Go.Ev
namespace Go.Ev
theorem ghosts_app : ∀ {a b : List Ghost} {s s1 s2 : St}, ghostsD a s = some s1 → ghostsD b s1 = some s2 → ghostsD (a ++ b) s = some s2
 | [], b, s, s1, s2, h1, h2 => by
  simp only [ghostsD, Option.some.injEq] at h1
  subst h1; exact h2
 | g :: a, b, s, s1, s2, h1, h2 => by
  simp only [ghostsD, List.cons_append, Option.bind_eq_some_iff] at h1 ⊢
  obtain ⟨t, h3, h4⟩ := h1
  exact ⟨t, h3, ghosts_app h4 h2⟩
end Go.Ev

namespace Go.Ev
section
variable {σ ρ : Type} {step : σ → Option (Out σ ρ)}
theorem iter_next {s s' : σ} (h : step s = some (.next s')) : iter step s = iter step s' := by
 apply opt_ext
 intro r
 rw [iter_some, iter_some]
 constructor
 ·intro ⟨k, hk⟩
  cases k with
  | zero => simp [iterN] at hk
  | succ k => simp only [iterN, h] at hk; exact ⟨k, hk⟩
 ·intro ⟨k, hk⟩
  exact ⟨k + 1, by simp only [iterN, h]; exact hk⟩
theorem iter_jmp {s s' : σ} {n : Nat} (h : step s = some (.jmp n s')) : iter step s = some (.jmp n s') := iter_some.2 ⟨1, by simp only [iterN, h]⟩
theorem iter_ret {s : σ} {r : ρ} (h : step s = some (.ret r)) : iter step s = some (.ret r) := iter_some.2 ⟨1, by simp only [iterN, h]⟩
theorem iter_to (st : Nat → σ) : ∀ (m : Nat), (∀ i, i < m → step (st i) = some (.next (st (i + 1)))) → iter step (st 0) = iter step (st m)
 | 0, _ => rfl
 | m + 1, h => by rw [iter_to st m fun i hi => h i (by omega), iter_next (h m (by omega))]
end
theorem w64_nat {n : Nat} (h : n < 2 ^ 62) : w64 (n : Int) = n := w64_id (by omega) (by omega)
theorem w64_succ {n : Nat} (h : n < 2 ^ 62) : w64 ((n : Int) + 1) = ((n + 1 : Nat) : Int) := by
 rw [w64_id (by omega) (by omega)]; omega
end Go.Ev

set_option linter.unusedVariables false
namespace Go.Ev
section
variable {T σ ρ : Type}
def firstI (f : Nat → T → Option ρ) : List T → Nat → Option ρ
 | [], _ => none
 | v :: l, i => match f i v with | some r => some r | none => firstI f l (i + 1)
theorem firstI_find (f : T → Option ρ) : ∀ (l : List T) (i : Nat), firstI (fun _ v => f v) l i = l.findSome? f
 | [], i => rfl
 | v :: l, i => by
  simp only [firstI, List.findSome?_cons]
  cases f v with
  | some r => rfl
  | none => exact firstI_find f l (i + 1)
variable {step : σ → Option (Out σ ρ)}
theorem iter_first (g : Nat → σ) (f : Nat → T → Option ρ) (n : Nat) (e : σ) : ∀ (l : List T) (i : Nat),
  (∀ j v, l[j]? = some v → step (g (i + j)) = some (match f (i + j) v with | some r => .ret r | none => .next (g (i + j + 1)))) → step (g (i + l.length)) = some (.jmp n e) →
  iter step (g i) = some (match firstI f l i with | some r => .ret r | none => .jmp n e)
 | [], i, _, he => by
  simp only [firstI]
  exact iter_jmp (by simpa using he)
 | v :: l, i, hs, he => by
  have h0 := hs 0 v (by simp)
  rw [Nat.add_zero] at h0
  simp only [firstI]
  cases hf : f i v with
  | some r => rw [hf] at h0; exact iter_ret h0
  | none =>
   rw [hf] at h0
   rw [iter_next h0]
   exact iter_first g f n e l (i + 1) (fun j w hj => by
    rw [show i + 1 + j = i + (j + 1) by omega]; exact hs (j + 1) w (by simpa using hj)) (by rw [show i + 1 + l.length = i + (v :: l).length by simp only [List.length_cons]; omega]; exact he)
open Classical in
theorem iter_all (g : Nat → σ) (good : Nat → Prop) (r : ρ) (k : Nat) (e : σ) (n : Nat) (hs : ∀ i, i < n → (∀ j, j < i → good j) → step (g i) = if good i then some (.next (g (i + 1))) else some (.ret r))
  (he : (∀ j, j < n → good j) → step (g n) = some (.jmp k e)) : iter step (g 0) = if (∀ i, i < n → good i) then some (.jmp k e) else some (.ret r) := by
 have key : ∀ d i, i + d = n → (∀ j, j < i → good j) → iter step (g i) = if (∀ i, i < n → good i) then some (.jmp k e) else some (.ret r) := by
  intro d
  induction d with
  | zero =>
   intro i hi hg
   obtain rfl : i = n := by omega
   rw [if_pos hg]; exact iter_jmp (he hg)
  | succ d ih =>
   intro i hi hg
   have h1 := hs i (by omega) hg
   by_cases hgi : good i
   ·rw [if_pos hgi] at h1
    rw [iter_next h1]
    exact ih (i + 1) (by omega) (fun j hj => by
     by_cases hji : j = i
     ·subst hji; exact hgi
     ·exact hg j (by omega))
   ·rw [if_neg hgi] at h1
    rw [iter_ret h1, if_neg (fun h => hgi (h i (by omega)))]
 exact key n 0 (by omega) (fun j hj => by omega)
end
end Go.Ev

set_option linter.unusedVariables false
namespace Go.Ev
section
variable {P : Program} {A : Ann} {H : List Ob} {c : CallF} {f : FuncId}
theorem nilD_ne {t e n : Nat} {b : Bool} {cells : List Pv} (hu : P.underlying t = some (.slice e)) (h : cells ≠ []) : nilD P .eql t (.p (.lst b n cells)) = some (bv false) := by
 cases cells with
 | nil => exact absurd rfl h
 | cons x l => simp only [nilD, hu]
theorem encL_ne {T : Type} {en : T → List Pv} {sz : Nat} (he : ∀ x, (en x).length = sz) (hz : sz ≠ 0) {l : List T} (h : l ≠ []) : encL en l ≠ [] := by
 cases l with
 | nil => exact absurd rfl h
 | cons x l =>
  intro e
  have := congrArg List.length e
  rw [encL_cons, List.length_append, he] at this
  simp only [List.length_nil] at this
  omega
theorem clone_nil0 [Gl] {args : List Dv} (hx : A.outer f = none) (hc : A.clone f = some 0) (he : emptyArg args H = true) : callW P A f args H = some (.p (.lst false 0 []), []) := by
 refine callW_some.2 ⟨1, ?_⟩
 simp only [callN, hx, hc, he, if_true]
end
end Go.Ev
namespace Go.Ev
section
variable {P : Program} {A : Ann} {H : List Ob} {c : CallF} {f : FuncId}
def stgOb (H : List Ob) (id off n : Nat) (ds : List Dv) (o : Option Ob) : Option (List Ob) :=
 match o with
 | some (.var cs) => if ds.length = n ∧ off + n ≤ cs.length then some (H.set id (.var (setAt cs off ds))) else none
 | some (.arr cs) =>
  match purifys H ds with
  | some (xs, l) => if xs.length = n ∧ off + n ≤ cs.length ∧ ¬ id ∈ l then some ((freezeAll H l).set id (.arr (setAt cs off xs))) else none
  | none => none
 | _ => none
theorem storeD_gagg {t : TypeId} {id off n : Nat} {ds : List Dv} (hs : szOf P t = some n) : storeD P H t (.ptr id off) (.agg ds) = stgOb H id off n ds H[id]? := by
 simp only [storeD, hs, cellsD]
 cases H[id]? with
 | none => rfl
 | some o => cases o <;> rfl
theorem storeD_gref {t : TypeId} {id off j o m e : Nat} (hs : szOf P t = some 1) : storeD P H t (.ptr id off) (.ref j o m e) = stgOb H id off 1 [.ref j o m e] H[id]? := by
 simp only [storeD, hs, cellsD]
 cases H[id]? with
 | none => rfl
 | some o => cases o <;> rfl
theorem purifys_nil : purifys H [] = some ([], []) := rfl
theorem purifys_pc {x : Pv} {ds : List Dv} {xs : List Pv} {l : List Nat} (h : purifys H ds = some (xs, l)) : purifys H (.p x :: ds) = some (x :: xs, l) := by
 simp only [purifys, purify, h, List.nil_append]
theorem purifys_rc {id sz n : Nat} {T : Type} {en : T → List Pv} {x : List T} {ds : List Dv} {xs : List Pv} {l : List Nat} (he : ∀ x, (en x).length = sz) (hid : H[id]? = some (.arr (encL en x))) (hn : n = x.length) (h : purifys H ds = some (xs, l)) :
  purifys H (.ref id 0 n sz :: ds) = some (.lst false x.length (encL en x) :: xs, id :: l) := by
 simp only [purifys, purify_enc he hid hn, h, List.cons_append, List.nil_append]
theorem purify1_agg {ds : List Dv} {xs : List Pv} {l : List Nat} (h : purifys H ds = some (xs, l)) : purifyD H (oneD [.agg ds]) = some (.agg xs, l) := by
 simp only [oneD, purifyD, h, Option.map_some]
end
end Go.Ev
namespace Go.Ev
theorem finish_isH {P : Program} {A : Ann} {f : FuncId} {fn : Func} {s : St} {ds : List Dv} {x y : Pv} {l : List Nat} {H' : List Ob} (hk : A.keeps f = false) (h1 : resD P s fn.results.toList = some ds) (h2 : purifyD s.heap (oneD ds) = some (x, l)) (hy : wk x = y)
  (h3 : (if (accOk (freezeAll s.heap l) (collect (freezeAll s.heap l) 256 (List.range s.nin) []) [] && decide ((collect (freezeAll s.heap l) 256 (List.range s.nin) []).take s.nin = List.range s.nin)) = true then some (takeAlong (freezeAll s.heap l) (collect (freezeAll s.heap l) 256 (List.range s.nin) [])) else none) = some H') :
  finishD P A f fn s = some (.p y, H') := by
 subst hy
 unfold finishD
 rw [h1]
 simp only [Option.bind_some, hk, Bool.false_eq_true, if_false, h2, Option.map_some, refsOf, List.append_nil, mapIds]
 by_cases hc : (accOk (freezeAll s.heap l) (collect (freezeAll s.heap l) 256 (List.range s.nin) []) [] && decide ((collect (freezeAll s.heap l) 256 (List.range s.nin) []).take s.nin = List.range s.nin)) = true
 ·rw [if_pos hc] at h3; rw [if_pos hc]; cases h3; rfl
 ·rw [if_neg hc] at h3; cases h3
theorem dynT [Gl] {ops : Array Oper} {n : Nat} {pairs : List (Nat × Nat)} {s : St} (h : dynB ops n pairs s = (true && true)) : dynB ops n pairs s = true := h
theorem bsm {α β : Type} {x : Option α} {f : α → Option β} {b : β} (h : x.bind f = some b) : ∃ a, x = some a ∧ f a = some b := Option.bind_eq_some_iff.1 h
end Go.Ev

set_option linter.unusedVariables false
set_option linter.unusedSimpArgs false
namespace Go.Ev
mutual
def flatD : DataW Unit → List Pv
 | .lit (.int k n) => [.v (.int k n)]
 | .lit (.bool b) => [.v (.bool b)]
 | .lit (.string s) => [.v (.string ⟨s.toArray⟩)]
 | .nil => [.lst false 0 []]
 | .slice es _ => [.lst false es.length (flatDs es)]
 | .agg es => flatDs es
 | _ => []
def flatDs : List (DataW Unit) → List Pv
 | [] => []
 | d :: l => flatD d ++ flatDs l
end
theorem flatDs_append : ∀ (a b : List (DataW Unit)), flatDs (a ++ b) = flatDs a ++ flatDs b
 | [], b => rfl
 | x :: a, b => by simp only [List.cons_append, flatDs, flatDs_append a b, List.append_assoc]
def contig (P : Program) : List Field → Nat → Option Nat
 | [], off => some off
 | f :: fs, off => if f.offset = off then contig P fs (off + P.cellsOf f.type) else none
def flatB (P : Program) : Nat → TypeId → Bool
 | 0, _ => false
 | k + 1, t =>
  match P.underlying t with
  | some .bool => true
  | some (.int _) => true
  | some .string => true
  | some (.slice e) => decide (0 < P.cellsOf e) && flatB P k e
  | some (.array n e) => decide (n * P.cellsOf e = P.cellsOf t) && flatB P k e
  | some (.struct fs) => contig P fs.toList 0 == some (P.cellsOf t) && fs.toList.all fun f => flatB P k f.type
  | _ => false
section
variable {P : Program} {w : World} {held : Bool}
abbrev trodU (P : Program) (w : World) (held : Bool) := DataW.trod (H := Unit) (fun _ => ()) P w 0 (fun _ => true) held
theorem flat_fields {k fuel : Nat} (ih : ∀ (t : TypeId), flatB P k t = true → ∀ (cs : List Value) (d : DataW Unit) (ps : List MemPlace), trodU P w held fuel t cs = some (d, ps) → Cs w cs (flatD d)) :
  ∀ (fs : List Field) (off n : Nat) (cs : List Value) (xs : List (DataW Unit × List MemPlace)), contig P fs off = some n → (fs.all fun f => flatB P k f.type) = true → n ≤ cs.length →
  fs.mapM (fun f => trodU P w held fuel f.type ((cs.drop f.offset).take (P.cellsOf f.type))) = some xs → off ≤ n ∧ Cs w ((cs.drop off).take (n - off)) (flatDs (xs.map (·.1)))
 | [], off, n, cs, xs, hc, _, hn, h => by
  simp only [contig, Option.some.injEq] at hc
  subst hc
  simp only [List.mapM_nil] at h
  cases h
  refine ⟨Nat.le_refl _, ?_⟩
  rw [Nat.sub_self]
  simpa [flatDs] using Cs.nil
 | f :: fs, off, n, cs, xs, hc, hb, hn, h => by
  simp only [contig] at hc
  split at hc
  ·rename_i hoff
   simp only [List.mapM_cons, Option.bind_eq_bind, Option.bind_eq_some_iff] at h
   obtain ⟨⟨d, ps⟩, h3, ys, h4, h5⟩ := h
   cases h5
   simp only [List.all_cons, Bool.and_eq_true] at hb
   obtain ⟨h6, h7⟩ := flat_fields ih fs _ n cs ys hc hb.2 hn h4
   have h8 := ih f.type hb.1 _ _ _ h3
   refine ⟨by omega, ?_⟩
   rw [hoff] at h8
   have e : (cs.drop off).take (n - off) = (cs.drop off).take (P.cellsOf f.type) ++ (cs.drop (off + P.cellsOf f.type)).take (n - (off + P.cellsOf f.type)) := by
    rw [show n - off = P.cellsOf f.type + (n - (off + P.cellsOf f.type)) from by omega, List.take_add, List.drop_drop]
   rw [e]
   simp only [List.map_cons, flatDs]
   exact h8.append h7
  ·cases hc
theorem flat_rows {e : TypeId} {sz : Nat} : ∀ (n : Nat) (cs : List Value) (xs : List (DataW Unit × List MemPlace)), xs.length = n → cs.length = n * sz →
  (∀ i (h : i < n) (h' : i < xs.length), Cs w ((cs.drop (i * sz)).take sz) (flatD (xs[i]).1)) → Cs w cs (flatDs (xs.map (·.1)))
 | 0, cs, xs, hx, hc, _ => by
  obtain rfl := List.length_eq_zero_iff.1 hx
  obtain rfl := List.length_eq_zero_iff.1 (by simpa using hc)
  simpa [flatDs] using Cs.nil
 | n + 1, cs, x :: xs, hx, hc, h => by
  have h0 := h 0 (by omega) (by simp)
  simp only [Nat.zero_mul, List.drop_zero, List.getElem_cons_zero] at h0
  have h1 := flat_rows (e := e) (sz := sz) n (cs.drop sz) xs (by simpa using hx) (by rw [List.length_drop, hc, Nat.succ_mul]; omega) (fun i hi hi' => by
   have := h (i + 1) (by omega) (by simp; omega)
   simp only [List.getElem_cons_succ] at this
   rw [List.drop_drop, show sz + i * sz = (i + 1) * sz from by rw [Nat.succ_mul]; omega]
   exact this)
  rw [← List.take_append_drop sz cs]
  simp only [List.map_cons, flatDs]
  exact h0.append h1
 | n + 1, cs, [], hx, hc, h => by simp at hx
theorem trod_flat : ∀ (k : Nat) (t : TypeId), flatB P k t = true → ∀ (fuel : Nat) (cs : List Value) (d : DataW Unit) (ps : List MemPlace), trodU P w held fuel t cs = some (d, ps) → Cs w cs (flatD d)
  | 0, t, hb, _, _, _, _, _ => by simp [flatB] at hb
  | k + 1, t, hb, 0, cs, d, ps, h => by simp [trodU, DataW.trod] at h
  | k + 1, t, hb, fuel + 1, cs, d, ps, h => by
    unfold flatB at hb
    unfold trodU at h
    cases hu : P.underlying t with
    | none => rw [hu] at hb; cases hb
    | some desc =>
      rw [hu] at hb
      cases desc with
      | bool =>
        unfold DataW.trod at h
        rw [hu] at h
        split at h <;> first | (simp only [reduceCtorEq, Option.some.injEq] at *; done) | skip
        all_goals first
          | (simp only [Option.some.injEq, Prod.mk.injEq] at h
             obtain ⟨rfl, rfl⟩ := h
             exact Cs.one rfl (.v _))
          | cases h
      | int kd =>
        unfold DataW.trod at h
        rw [hu] at h
        split at h <;> first | (simp only [reduceCtorEq, Option.some.injEq] at *; done) | skip
        all_goals first
          | (rename_i k1 k2 n e1
             simp only [Option.some.injEq, TypeDesc.int.injEq] at e1
             subst e1
             split at h
             · rename_i hc
               obtain ⟨rfl, hw⟩ := hc
               simp only [Option.some.injEq, Prod.mk.injEq] at h
               obtain ⟨rfl, rfl⟩ := h
               exact Cs.one rfl (.v _)
             · cases h)
          | cases h
      | string =>
        unfold DataW.trod at h
        rw [hu] at h
        split at h <;> first | (simp only [reduceCtorEq, Option.some.injEq] at *; done) | skip
        all_goals first
          | (split at h
             · simp only [Option.some.injEq, Prod.mk.injEq] at h
               obtain ⟨rfl, rfl⟩ := h
               refine Cs.one rfl ?_
               simp only [Array.toArray_toList]
               exact .v _
             · cases h)
          | cases h
      | slice e =>
        simp only [Bool.and_eq_true, decide_eq_true_eq] at hb
        obtain ⟨h0, hbe⟩ := hb
        unfold DataW.trod at h
        rw [hu] at h
        split at h <;> first | (simp only [reduceCtorEq, Option.some.injEq] at *; done) | skip
        all_goals first
          | (simp only [Option.some.injEq, Prod.mk.injEq] at h
             obtain ⟨rfl, rfl⟩ := h
             refine Cs.one rfl ?_
             exact .lst false 0 [] none 0 (fun _ => undef) (Nat.le_refl _) (by simp) (fun h => absurd rfl h) (fun j h => absurd h (by simp)) (fun j h => absurd h (by simp)))
          | skip
        all_goals first | (cases h; done) | skip
        rename_i e' a len cap e1
        simp only [Option.some.injEq, TypeDesc.slice.injEq] at e1
        subst e1
        generalize hsz : P.cellsOf e = sz at *
        simp only [] at h
        split at h
        · rename_i hc
          rw [Option.bind_eq_some_iff] at h
          obtain ⟨xs, h1, h2⟩ := h
          obtain ⟨h3, h4⟩ := mapM_some h1
          simp only [List.length_range] at h3
          rw [Option.map_eq_some_iff] at h2
          obtain ⟨rest, _, h2⟩ := h2
          simp only [Prod.mk.injEq] at h2
          obtain ⟨rfl, _⟩ := h2
          have key : ∀ i (hi : i < len) (hi' : i < xs.length), ∃ (c : List Value), Cs w c (flatD (xs[i]).1) ∧ c.length = sz ∧ ∀ j (h : j < c.length), w.cell? ((a.add (i * sz)).add j) = some c[j] := by
            intro i hi hi'
            have h5 := h4 i (by simpa using hi) hi'
            simp only [List.getElem_range, Option.bind_eq_some_iff] at h5
            obtain ⟨c, h6, h7⟩ := h5
            obtain ⟨h8, h9⟩ := cells_some h6
            exact ⟨c, trod_flat k e hbe fuel c _ _ (show _ = some ((xs[i]).1, (xs[i]).2) from h7), h8, h9⟩
          have gather : ∀ n, n ≤ len → ∃ (c : List Value), Cs w c (flatDs ((xs.take n).map (·.1))) ∧ c.length = n * sz ∧ ∀ j (h : j < c.length), w.cell? (a.add j) = some c[j] := by
            intro n
            induction n with
            | zero => intro _; exact ⟨[], by simpa [flatDs] using Cs.nil, by simp, fun j h => absurd h (by simp)⟩
            | succ n ih =>
              intro hn
              obtain ⟨c, h7, h8, h9⟩ := ih (by omega)
              obtain ⟨c', h11, h12, h13⟩ := key n (by omega) (by omega)
              refine ⟨c ++ c', ?_, by simp [h8, h12, Nat.succ_mul], ?_⟩
              · rw [List.take_succ_eq_append_getElem (by omega), List.map_append, flatDs_append]
                simpa [flatDs] using h7.append h11
              · intro j hj
                by_cases hjc : j < c.length
                · rw [List.getElem_append_left hjc]; exact h9 j hjc
                · simp only [List.length_append] at hj
                  rw [List.getElem_append_right (by omega)]
                  rw [← h13 (j - c.length) (by omega)]
                  congr 1
                  unfold Addr.add
                  by_cases hz : n * sz = 0
                  · have hc0 : c.length = 0 := by omega
                    rw [if_pos hz, hc0, Nat.sub_zero]
                  · have hj0 : j ≠ 0 := by omega
                    rw [if_neg hz, if_neg hj0]
                    by_cases hk : j - c.length = 0
                    · rw [if_pos hk]
                      have : j = n * sz := by omega
                      rw [this]
                    · rw [if_neg hk]
                      simp only [Addr.mk.injEq, true_and, and_true]
                      omega
          obtain ⟨c, h7, h8, h9⟩ := gather len (Nat.le_refl _)
          rw [List.take_of_length_le (by omega)] at h7
          refine Cs.one rfl ?_
          have hlen : (flatDs (xs.map (·.1))).length = len * sz := by rw [← h7.1, h8]
          rw [show (xs.map (·.1)).length = len from by simp [h3]]
          refine .lst false len _ (some a) cap (fun j => c.getD j undef) hc.2.1 (by simp) (fun hne => ?_) (fun j hj => ?_) (fun j hj => ?_)
          · have hpos : 0 < c.length := by
              have : (flatDs (xs.map (·.1))).length ≠ 0 := fun e => hne (List.length_eq_zero_iff.1 e)
              omega
            have hsp : a.spot = none := by
              have := h9 0 hpos
              simp only [Addr.add, if_true] at this
              unfold World.cell? at this
              split at this
              · split at this
                · cases this
                · rename_i hns
                  cases hs : a.spot with
                  | none => rfl
                  | some x => rw [hs] at hns; simp at hns
              · cases this
            refine ⟨a.block, a.off, by cases a; simp only at hsp; subst hsp; rfl, fun h => h.elim, fun j hj => ?_⟩
            have hjc : j < c.length := by omega
            have := h9 j hjc
            rw [List.getD_eq_getElem?_getD, List.getElem?_eq_getElem hjc, Option.getD_some, ← this]
            congr 1
            unfold Addr.add
            split
            · rename_i hj0
              subst hj0
              cases a; simp only at hsp; subst hsp; rfl
            · rfl
          · have hjc : j < c.length := by omega
            rw [List.getD_eq_getElem?_getD, List.getElem?_eq_getElem hjc]
            exact (h7.2 j hjc hj).1
          · have hjc : j < c.length := by omega
            rw [List.getD_eq_getElem?_getD, List.getElem?_eq_getElem hjc]
            exact (h7.2 j hjc hj).2
        · cases h
      | array n e =>
        simp only [Bool.and_eq_true, decide_eq_true_eq] at hb
        obtain ⟨h0, hbe⟩ := hb
        obtain ⟨xs, m, hm, hx, hl, hn, hel⟩ := DataW.trod_array hu h
        obtain rfl : fuel = m := by omega
        simp only [Prod.mk.injEq] at hx
        obtain ⟨rfl, _⟩ := hx
        simp only [flatD]
        refine flat_rows (e := e) (sz := P.cellsOf e) n cs xs hn (by omega) (fun i hi hi' => ?_)
        have h1 := hel i hi
        rw [List.getElem?_eq_getElem hi'] at h1
        exact trod_flat k e hbe fuel _ _ _ (show _ = some ((xs[i]).1, (xs[i]).2) from h1)
      | struct fs =>
        simp only [Bool.and_eq_true, beq_iff_eq] at hb
        have h' : (if cs.length = P.cellsOf t then (fs.toList.mapM fun f => trodU P w held fuel f.type ((cs.drop f.offset).take (P.cellsOf f.type))).map fun xs => (DataW.agg (xs.map (·.1)), xs.flatMap (·.2)) else none) = some (d, ps) := by
          rw [← h, DataW.trod]
          rw [hu]
        split at h'
        · rename_i hc
          simp only [Option.map_eq_some_iff] at h'
          obtain ⟨xs, h3, h4⟩ := h'
          cases h4
          obtain ⟨_, h5⟩ := flat_fields (k := k) (fuel := fuel) (fun t' ht' cs' d' ps' h' => trod_flat k t' ht' fuel cs' d' ps' h') fs.toList 0 _ cs xs hb.1 hb.2 (by omega) h3
          rw [List.drop_zero, Nat.sub_zero, List.take_of_length_le (by omega)] at h5
          simpa [flatD] using h5
        · cases h'
      | _ => simp at hb
theorem laid_glob {n : String} {d : DataW Unit} {g : Nat} {t : TypeId} {k : Nat} (hp : (([(n, d)] : List (String × DataW Unit)).all fun x => x.2.handleName?.isNone) = true) (hg : P.globalNamed n = some g) (ht : (P.globals[g]?).map (·.type) = some t) (hb : flatB P k t = true)
  (h : laidMetH P [(n, d)] w) : RepP w NoX (.pointer (some ⟨g, 0, none⟩)) (.iptr (flatD d) 0) := by
 rw [MakeChecks.laidMetH_plain _ _ _ hp] at h
 obtain ⟨ps, ⟨g', t', cs, fuel, p, q, hg', ht', hv, hd, _⟩, _⟩ := h
 obtain rfl := Option.some.inj (hg.symm.trans hg')
 obtain rfl := Option.some.inj (ht.symm.trans ht')
 have hc := trod_flat (held := false) k t hb fuel cs.toList d p hd
 have hlen : cs.size = (flatD d).length := by rw [← hc.1]; simp
 refine .iptr (flatD d) 0 g 0 (fun j => cs.getD j undef) (fun _ => ⟨fun h => h.elim, fun j hj => ?_⟩) (fun j hj => ?_) (fun j hj => ?_)
 ·have := World.var?_cell hg hv j
  rw [Nat.zero_add, this]
  have hj' : j < cs.size := by omega
  simp [hj']
 ·have hj' : j < cs.toList.length := by simp; omega
  have := (hc.2 j hj' hj).1
  simpa [show j < cs.size from by omega] using this
 ·have hj' : j < cs.toList.length := by simp; omega
  have := (hc.2 j hj' hj).2
  simpa [show j < cs.size from by omega] using this
end
end Go.Ev

set_option linter.unusedVariables false
set_option linter.unusedSimpArgs false
namespace Go.Ev
section
variable {P : Program} {H : List Ob} {t : TypeId} {s : ByteArray} {a b : Int}
theorem idx_iptr {e sz n o : Nat} {cs : List Pv} {i : Int} (hu : P.underlying t = some (.array n e)) (hz : szOf P e = some sz) (h3 : sz ≠ 0) (h0 : 0 ≤ i) (h1 : i < (n : Int)) :
  idxD P t (.p (.iptr cs o)) (.p (.v (.int .i64 i))) = some (.p (.iptr cs (o + i.toNat * sz))) := by
 unfold idxD
 simp only [intD, Option.bind_some, hu, hz]
 rw [if_pos ⟨h0, h1, h3⟩]
end
section
variable {P : Program} {H : List Ob}
theorem storeD_gfn {t : TypeId} {id off : Nat} {f : Fn} {l : List Dv} (hs : szOf P t = some 1) : storeD P H t (.ptr id off) (.fn f l) = stgOb H id off 1 [.fn f l] H[id]? := by
 simp only [storeD, hs, cellsD]
 cases H[id]? with
 | none => rfl
 | some o => cases o <;> rfl
theorem boxD_fn {f : Fn} {l : List Pv} : boxD H (.p (.fn f l)) = some (.ptr H.length 0, some (H ++ [.var [.p (.fn f l)]])) := rfl
end
end Go.Ev

namespace Go.Ev
open Go
def swapL {T : Type} (i j : Int) (l : List T) : Option (List T) := (rd l i).bind fun x => (rd l j).bind fun y => some ((l.set i.toNat y).set j.toNat x)
section
variable [Gl] {P : Program} {A : Ann} {H : List Ob} {f : FuncId}
theorem callW_swap {T : Type} {en : T → List Pv} {l t : List T} {n sz e : Nat} {hd : Value} {i j : Int} (ho : A.outer f = some .swap) (hh : pureRun P (Extern.Rtype.ofHandle hd) = some e) (hs : szOf P e = some sz) (ha : aggT P e = some true)
  (he : ∀ x, (en x).length = sz) (hn : n = l.length) (h : swapL i j l = some t) :
  callW P A f [.p (.v (.int .i64 i)), .p (.v (.int .i64 j)), .ref 0 0 n sz, .p (.v hd)] [.arr (encL en l)] = some (.p (.tup []), [.arr (encL en t)]) := by
 subst hn
 unfold swapL at h
 obtain ⟨x, hx, h⟩ := bsm h
 obtain ⟨y, hy, h⟩ := bsm h
 cases h
 obtain ⟨x0, x1, _⟩ := rd_some hx
 obtain ⟨y0, y1, _⟩ := rd_some hy
 refine callW_some.2 ⟨1, ?_⟩
 simp only [callN, ho, extD, hh, hs, Option.bind_some]
 rw [if_pos ⟨trivial, x0, x1, y0, y1⟩]
 rw [Nat.zero_add, Nat.zero_add, loadD_pagg ha hs, loadD_pagg ha hs]
 rw [show ([Ob.arr (encL en l)] : List Ob)[0]? = some (.arr (encL en l)) from rfl, lkOb_arr he hx, lkOb_arr he hy]
 simp only [Option.bind_some]
 rw [storeD_agg hs, show ([Ob.arr (encL en l)] : List Ob)[0]? = some (.arr (encL en l)) from rfl]
 have s1 := sta_arr (H := [Ob.arr (encL en l)]) (id := 0) (v := y) he x0 x1
 rw [s1]
 simp only [Option.bind_some, List.set_cons_zero]
 rw [storeD_agg hs, show ([Ob.arr (encL en (l.set i.toNat y))] : List Ob)[0]? = some (.arr (encL en (l.set i.toNat y))) from rfl]
 have s2 := sta_arr (H := [Ob.arr (encL en (l.set i.toNat y))]) (id := 0) (v := x) (x := l.set i.toNat y) (i := j) he y0 (by rw [List.length_set]; exact y1)
 rw [s2]
 rfl
theorem callW_valueOf {n sz t : Nat} {o : Ob} (ho : A.outer f = some .valueOf) (hk : pureRun P (Extern.Rtype.kind t) = some 23) :
  callW P A f [.ifc t (.ref 0 0 n sz)] [o] = some (.agg [.p (.v (typeHandle P t)), .ptr 1 0, .p (.v (.int .u64 151))], [o, .var [.ref 0 0 n sz]]) := by
 refine callW_some.2 ⟨1, ?_⟩
 simp only [callN, ho, extD, hk]
 rfl
theorem callW_swapper {n sz t f0 f1 f2 e : Nat} {o : Ob} {l : List (TypeId × Nat × Nat × Nat × TypeId)} (ho : A.outer f = some (.swapper l)) (hl : l.lookup t = some (f0, f1, f2, e)) (hn : 2 ≤ n) :
  callW P A f [.ifc t (.ref 0 0 n sz)] [o] = some (.fn (.func f2) [.ref 0 0 n sz, .p (.v (typeHandle P e))], [o]) := by
 refine callW_some.2 ⟨1, ?_⟩
 simp only [callN, ho, extD, hl, Option.map_some]
 rw [if_neg (by omega), if_neg (by omega)]
theorem callW_valLen {n sz t e : Nat} {o : Ob} (ho : A.outer f = some .valLen) (h1 : pureRun P (Extern.Rtype.ofHandle (typeHandle P t)) = some t) (h2 : (pureRun P (Extern.Rtype.noPack "a Value asked or handed on" t)).isSome = true) (h3 : ((pureRun P (Extern.Rtype.under t)).map fun u => match u.2.desc with | .slice _ => true | _ => false) = some true) (hu : P.underlying t = some (.slice e)) :
  callW P A f [.agg [.p (.v (typeHandle P t)), .ptr 0 0, .p (.v (.int .u64 151))]] [.var [.ref 1 0 n sz], o] = some (.p (.v (.int .i64 (n : Int))), [.var [.ref 1 0 n sz], o]) := by
 obtain ⟨u, h2⟩ := Option.isSome_iff_exists.1 h2
 obtain ⟨v, h3, h4⟩ := Option.map_eq_some_iff.1 h3
 obtain ⟨d, h4⟩ : ∃ d, v.2.desc = .slice d := by
  cases hv : v.2.desc <;> rw [hv] at h4 <;> first | exact ⟨_, rfl⟩ | cases h4
 have ha : aggT P t = some false := by simp only [aggT, hu]
 have hl : loadD P [.var [.ref 1 0 n sz], o] t (.ptr 0 0) = some (.ref 1 0 n sz) := by simp only [loadD, ha]; rfl
 refine callW_some.2 ⟨1, ?_⟩
 simp only [callN, ho, extD, h1, h2, h3, h4, hu, hl, Option.bind_some]
 rfl
end
section
variable {P : Program} {A : Ann} {H : List Ob} {f : FuncId}
theorem callD_any {c : CallF} {ds dsw ds' : List Dv} {i : Nat} {ids : List Nat} {o o' : Ob} {os os' : List Ob} {x : Dv} (hm : A.muts f = true) (hw : ds.map wkDv = dsw) (hacc : collect H 64 (refsOfs dsw) [] = i :: ids) (hok : accOk H (i :: ids) (refsOfs dsw) = true)
  (hds : mapIdss (List.idxOf · (i :: ids)) dsw = ds') (hos : takeAlong H (i :: ids) = o :: os) (h : c f ds' (o :: os) = some (x, o' :: os')) (hl : decide ((i :: ids).length ≤ (o' :: os').length) = true) (hb : roBack (o :: os) (o' :: os') = true) :
  callD c A H f ds = some (mapIds (backD H.length (i :: ids)) x, some (putBack (backD H.length (i :: ids)) H (i :: ids) (o' :: os'))) := by
 simp only [callD, hm, Bool.true_or, if_true, freezeAll, hw, hacc, hok]
 have e4 : lentD A f H (i :: ids) = o :: os := by simp only [lentD, hm, if_true, hos]
 change (c f (mapIdss (List.idxOf · (i :: ids)) dsw) (lentD A f H (i :: ids))).bind _ = _
 rw [hds, e4, h]
 simp only [Option.bind_some]
 have e6 : (true && decide ((i :: ids).length ≤ (o' :: os').length) && roBack (takeAlong H (i :: ids)) (o' :: os')) = true := by rw [hos, hb, hl]; rfl
 cases x <;> (rw [if_pos e6]; try rfl)
theorem boxD_dagg {ds : List Dv} : boxD H (.agg ds) = some (.ptr H.length 0, some (H ++ [.var ds])) := rfl
end
section
variable [Gl] {P : Program} {A : Ann}
theorem ops_makeInterface {c : CallF} {q : Bool} {ops : Array Oper} {l : List Oper} {tm : List Dv} {H : List Ob} {n t ty xt e : Nat} {pos : String} {af : Array Edge} {x : Operand} (hu : P.underlying xt = some (.slice e)) :
  opsD P A c q ops (⟨some t, .makeInterface xt x, ty, pos, af, none⟩ :: l) ⟨tm, H, n⟩ = opsD P A c q ops l ⟨tm.set t (.ifc xt (evalO tm x)), H, n⟩ := by
 have e1 : opD P A c tm H ⟨some t, .makeInterface xt x, ty, pos, af, none⟩ = some (.ifc xt (evalO tm x), none) := by
  show (match P.underlying xt with | some (.slice _) => some (Dv.ifc xt (evalO tm x), none) | _ => none) = _
  rw [hu]
 rw [ops_gen, e1]
 rfl
end
section
variable {α : Type} {r : α}
theorem itc {p : Prop} [Decidable p] {a b : Option α} (h : (if p then a else b) = some r) : (p ∧ decide p = true ∧ a = some r) ∨ (¬ p ∧ decide p = false ∧ b = some r) := by
 by_cases hp : p
 ·rw [if_pos hp] at h; exact .inl ⟨hp, decide_eq_true hp, h⟩
 ·rw [if_neg hp] at h; exact .inr ⟨hp, decide_eq_false hp, h⟩
end
theorem fin_sc {P : Program} {A : Ann} {f : FuncId} {fn : Func} {s : St} {x : Pv} (hk : A.keeps f = false) (hn : s.nin = 0) (h1 : resD P s fn.results.toList = some [.p x]) (hw : wk x = x) : finishD P A f fn s = some (.p x, []) :=
 finish_is (ds := [.p x]) (x := x) (y := x) (l := []) hk hn h1 rfl hw
end Go.Ev

set_option linter.unusedVariables false
namespace Go.Ev
open Go
def ato (i : Int) (sz : Nat) : Nat := i.toNat * sz
structure Kn (b c : Bool) : Prop where
 h : b = c
section
variable {P : Program} {A : Ann} {f : FuncId} {c : CallF} {q : Bool} {ops : Array Oper} {l : List Oper} {o : Oper} {s : St} {t e : Code} {b d : Bool}
theorem condW_t [Gl] (h : Kn b true) : condW P A f t e s (some b) = evW P A f t s := by rw [h.h]; rfl
theorem condW_f [Gl] (h : Kn b false) : condW P A f t e s (some b) = evW P A f e s := by rw [h.h]; rfl
theorem condW_nt [Gl] (h : Kn b true) : condW P A f t e s (some (!b)) = evW P A f e s := by rw [h.h]; rfl
theorem condW_nf [Gl] (h : Kn b false) : condW P A f t e s (some (!b)) = evW P A f t s := by rw [h.h]; rfl
theorem opsG_t [Gl] (h : Kn b true) : opsG P A c q ops o l s (some b) = opsD P A c q ops (o :: l) s := by rw [h.h]; rfl
theorem opsG_f [Gl] (h : Kn b false) : opsG P A c q ops o l s (some b) = opsD P A c q ops l { s with tmps := putD s.tmps o.dst undefD } := by rw [h.h]; rfl
theorem opsG_nt [Gl] (h : Kn b true) : opsG P A c q ops o l s (some (!b)) = opsD P A c q ops l { s with tmps := putD s.tmps o.dst undefD } := by rw [h.h]; rfl
theorem opsG_nf [Gl] (h : Kn b false) : opsG P A c q ops o l s (some (!b)) = opsD P A c q ops (o :: l) s := by rw [h.h]; rfl
theorem pickD_t {x y : Dv} (h : Kn b true) : pickD (some b) x y = some x := by rw [h.h]; rfl
theorem pickD_f {x y : Dv} (h : Kn b false) : pickD (some b) x y = some y := by rw [h.h]; rfl
theorem pickD_nt {x y : Dv} (h : Kn b true) : pickD (some (!b)) x y = some y := by rw [h.h]; rfl
theorem pickD_nf {x y : Dv} (h : Kn b false) : pickD (some (!b)) x y = some x := by rw [h.h]; rfl
theorem call_ofI [Gl] {args : List Dv} {H : List Ob} {fn : Func} {c : Code} {r : Dv × List Ob} (k : Nat) (hcl : ((A.outer f).isSome || (A.clone f).isSome && emptyArg args H) = false) (ho : A.okf f = true) (hf : P.funcs[f]? = some fn) (hb : fn.body = some c) (hk : (fn.ntmps - args.length == k) = true)
  (h : Wp (evW P A f c ⟨args ++ List.replicate k undefD, H, H.length⟩) fun e s => (e = .normal ∨ e = .ret) ∧ finishD P A f fn s = some r) : callW P A f args H = some r := by
 refine call_ofH hcl ho hf hb ?_
 rw [initS, beq_iff_eq.1 hk]; exact h
end
theorem callV_pfn {c : CallF} {A : Ann} {H : List Ob} {g : FuncId} {x : Pv} {cs : List Pv} {args : List Dv} : callV c A H (.p (.fn (.func g) (x :: cs))) args = callD c A H g (args ++ .p x :: cs.map .p) := rfl
theorem rd_lo {T : Type} {l : List T} {i : Int} {v : T} (h : rd l i = some v) : 0 ≤ i ∧ i < (l.length : Int) := ⟨(rd_some h).1, (rd_some h).2.1⟩
section
variable {α β : Type} {r : β} {G : Prop}
theorem gB {x : Option α} {f : α → Option β} (h : ∀ a, x = some a → f a = some r → G) : x.bind f = some r → G := fun e => by
 obtain ⟨a, h1, h2⟩ := Option.bind_eq_some_iff.1 e
 exact h a h1 h2
theorem gR {T : Type} {l : List T} {i : Int} {f : T → Option β} (h : ∀ a, rd l i = some a → 0 ≤ i → i < (l.length : Int) → f a = some r → G) : (rd l i).bind f = some r → G := gB fun a h1 => h a h1 (rd_lo h1).1 (rd_lo h1).2
theorem gW {p : Prop} [Decidable p] {a : Option β} (h : p → a = some r → G) : (if p then a else none) = some r → G := fun e => by
 by_cases hp : p
 ·rw [if_pos hp] at e; exact h hp e
 ·rw [if_neg hp] at e; cases e
theorem gW2 {p q : Prop} [Decidable (p ∧ q)] {a : Option β} (h : p → q → a = some r → G) : (if p ∧ q then a else none) = some r → G := gW fun x => h x.1 x.2
theorem gT {p : Bool} {a b : Option β} (h1 : p = true → Kn p true → a = some r → G) (h2 : p = false → Kn p false → b = some r → G) : (if p = true then a else b) = some r → G := by
 cases p
 ·exact h2 rfl ⟨rfl⟩
 ·exact h1 rfl ⟨rfl⟩
theorem gI {p : Prop} [Decidable p] {a b : Option β} (h1 : p → Kn (decide p) true → a = some r → G) (h2 : ¬ p → Kn (decide p) false → b = some r → G) : (if p then a else b) = some r → G := fun e => by
 by_cases hp : p
 ·rw [if_pos hp] at e; exact h1 hp ⟨decide_eq_true hp⟩ e
 ·rw [if_neg hp] at e; exact h2 hp ⟨decide_eq_false hp⟩ e
end
end Go.Ev

set_option linter.unusedVariables false

