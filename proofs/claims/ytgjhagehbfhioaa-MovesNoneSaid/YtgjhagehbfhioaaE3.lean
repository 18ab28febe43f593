/- A part of the proof: E3. No conditions of its own. -/
import Derived.Test.YtgjhagehbfhioaaE2
import Derived.Laws.StructEq
set_option linter.unusedVariables false
set_option linter.unusedSimpArgs false
namespace Go.Ev
section
variable {P : Program}
theorem pureRun_bind {α β : Type} (x : Sem α) (g : α → Sem β) : pureRun P (x >>= g) = (pureRun P x).bind fun a => pureRun P (g a) := by
  induction x with
  | pure a => rfl
  | program k ih => exact ih P
  | mark _ k ih => exact ih
  | _ => rfl
theorem pureRun_ite {α : Type} {p : Prop} [Decidable p] (x y : Sem α) : pureRun P (if p then x else y) = if p then pureRun P x else pureRun P y := by
  split <;> rfl
theorem pureRun_pure {α : Type} (a : α) : pureRun P (pure a : Sem α) = some a := rfl
theorem pr_program : pureRun P (program : Sem Program) = some P := rfl
theorem pr_underlying {t : TypeId} {x : TypeDesc} (h : P.underlying t = some x) : pureRun P (underlying t) = some x := by
  show pureRun P (match P.underlying t with | some d => pure d | none => stuck _) = some x
  rw [h]; rfl
theorem pr_equal_struct {d : Nat} {t : TypeId} {xs ys : Array Value} {fs : Array Field} (ht : P.underlying t = some (.struct fs)) (hp : P.stoodInHeld t = false) :
    pureRun P (Op.equalIn (d + 1) t (.agg xs) (.agg ys)) = pureRun P (Op.eqFields d xs ys fs.toList) := by
  simp only [Op.equalIn, pureRun_bind, pr_underlying ht, Option.bind_some, pr_program, hp, Bool.false_eq_true, if_false]
  rw [← Array.forIn_toList]
  generalize fs.toList = l
  clear ht
  induction l with
  | nil => rfl
  | cons f l ih =>
    simp only [List.forIn_cons, Op.eqFields, pureRun_bind, pureRun_ite]
    split
    · cases pureRun P (part f.type xs f.offset) with
      | none => rfl
      | some a =>
        simp only [Option.bind_some]
        cases pureRun P (part f.type ys f.offset) with
        | none => rfl
        | some b =>
          simp only [Option.bind_some]
          cases pureRun P (Op.equalIn d f.type a b) with
          | none => rfl
          | some r =>
            cases r
            · rfl
            · simp only [Option.bind_some, Bool.not_true, Bool.false_eq_true, if_false, pureRun_pure]
              exact ih
    · simp only [pureRun_pure, Option.bind_some]
      exact ih
theorem pr_nil {d : Nat} {xs ys : Array Value} : pureRun P (Op.eqFields d xs ys []) = some true := rfl
theorem pr_cons {d : Nat} {xs ys : Array Value} {f : Field} {fs : List Field} {a b : Value} {r s : Bool} (hn : (f.name == "_") = false) (ha : pureRun P (part f.type xs f.offset) = some a) (hb : pureRun P (part f.type ys f.offset) = some b)
    (he : pureRun P (Op.equalIn d f.type a b) = some r) (hs : pureRun P (Op.eqFields d xs ys fs) = some s) : pureRun P (Op.eqFields d xs ys (f :: fs)) = some (r && s) := by
  have hn' : f.name ≠ "_" := by simpa using hn
  rw [Op.eqFields]
  simp only [if_pos hn', pureRun_bind, ha, hb, he, Option.bind_some]
  cases r
  · rfl
  · simpa using hs
theorem pr_equal_int {d : Nat} {t : TypeId} {k k' : IntKind} {a b : Int} (h : P.underlying t = some (.int k')) : pureRun P (Op.equalIn (d + 1) t (.int k a) (.int k b)) = some (decide (a = b)) := by
  simp only [Op.equalIn, pureRun_bind, pr_underlying h, Option.bind_some, if_true, pureRun_pure]
  rfl
theorem pr_equal_bool {d : Nat} {t : TypeId} {a b : Bool} (h : P.underlying t = some .bool) : pureRun P (Op.equalIn (d + 1) t (.bool a) (.bool b)) = some (decide (a = b)) := by
  simp only [Op.equalIn, pureRun_bind, pr_underlying h, Option.bind_some, pureRun_pure]
  rfl
theorem binD_neq_agg {t : TypeId} {xo yo : Operand} {A B : List Pv} {va vb : List Value} {r : Bool} (ha : concs A = some va) (hb : concs B = some vb) (hg : P.eqGuardType P.depth t = false) (he : pureRun P (Op.equalIn 10000 t (.agg va.toArray) (.agg vb.toArray)) = some r) :
    binD P .neq t xo yo (.p (.agg A)) (.p (.agg B)) = some (.p (.v (.bool (!r)))) := by
  simp only [binD, concD, conc, ha, hb, Option.map_some, pureRun_bind]
  have h1 : pureRun P (eqGuard .neq t xo yo (.agg va.toArray) (.agg vb.toArray)) = some () := by
    unfold eqGuard
    simp only [pureRun_bind, pr_program, Option.bind_some, hg, Bool.not_false, if_true, pureRun_pure, pureRun_ite]
    rfl
  rw [h1]
  simp only [Option.bind_some, binOp, pureRun_bind, Op.equal, Op.maxDepth, he, pureRun_pure, Option.map_some]
theorem binD_neq_bool {xt : TypeId} {x y : Operand} {a b : Bool} (h : P.underlying xt = some .bool) : binD P .neq xt x y (.p (.v (.bool a))) (.p (.v (.bool b))) = some (.p (.v (.bool (!decide (a = b))))) := by
  simp only [binD, concD, conc, pureRun_bind]
  rw [show pureRun P (eqGuard .neq xt x y (.bool a) (.bool b)) = some () from rfl]
  simp only [Option.bind_some, binOp, pureRun_bind, Op.equal, Op.maxDepth, pr_equal_bool h, pureRun_pure, Option.map_some]
end
end Go.Ev
namespace Go.Ev
section
variable {P : Program} {H : List Ob}
def apOb (H : List Ob) (id off n m esz sz b : Nat) (new : List Pv) (o : Option Ob) : Option (Dv × List Ob) := if new.length = m * sz then appOb H id off n m esz sz b new o else none
theorem appendD_ap {e e2 t1 t2 : TypeId} {sz b : Nat} {z : List Pv} {id off esz n m : Nat} {full : Bool} {new : List Pv} (h : P.underlying t1 = some (.slice e)) (h2 : P.underlying t2 = some (.slice e2)) (hs : szOf P e = some sz) (hb : bytesOf P e = some b) (hz : zeroCs P e = some z)
    (h3 : sz ≠ 0 ∧ b ≠ 0 ∧ z.length = sz) : appendD P H #[t1, t2] (.ref id off n esz) (.p (.lst full m new)) = apOb H id off n m esz sz b new H[id]? := by
  by_cases hn : new.length = m * sz
  · rw [appendD_ref h h2 hs hb hz h3 hn, apOb, if_pos hn]
  · have e1 : (#[t1, t2] : Array TypeId)[0]? = some t1 := rfl
    simp only [appendD, e1, Option.bind_some, h, hs, hb, hz, srcCells, if_neg hn, Option.bind_none, apOb]
    split <;> rfl
theorem ap_enc {id sz b m n : Nat} {T : Type} {en : T → List Pv} {x y : List T} {new : List Pv} (he : ∀ x, (en x).length = sz) (hn : n = x.length) (hm : m = y.length) (hnew : new = encL en y) (hl : (x.length + m) * b ≤ 140737488355328) :
    apOb H id 0 n m sz sz b new (some (.arr (encL en x))) = some (.ref H.length 0 (x ++ y).length sz, H.set id .dead ++ [.arr (encL en (x ++ y))]) := by
  subst hn hm hnew
  rw [apOb, if_pos (encL_len he y), app_enc he hl]
end
end Go.Ev
namespace Go.Ev
section
variable {P : Program} {H : List Ob} {t : TypeId} {id off : Nat}
theorem storeD_int {k : IntKind} {x : Int} (hs : szOf P t = some 1) : storeD P H t (.ptr id off) (.p (.v (.int k x))) = stdOb H id off (.p (.v (.int k x))) H[id]? := storeD_leaf hs rfl
theorem storeD_bool {x : Bool} (hs : szOf P t = some 1) : storeD P H t (.ptr id off) (.p (.v (.bool x))) = stdOb H id off (.p (.v (.bool x))) H[id]? := storeD_leaf hs rfl
end
end Go.Ev
namespace Go.Ev
theorem purify1_enc {H : List Ob} {id sz n : Nat} {T : Type} {en : T → List Pv} {x : List T} (he : ∀ x, (en x).length = sz) (hid : H[id]? = some (.arr (encL en x))) (hn : n = x.length) : purifyD H (oneD [.ref id 0 n sz]) = some (.lst false x.length (encL en x), [id]) := by
  simp only [oneD, purifyD]; exact purify_enc he hid hn
end Go.Ev
namespace Go.Ev
section
variable {P : Program} {A : Ann} {H : List Ob} {c : CallF} {f : FuncId}
theorem giveD_p {x : Pv} {ds : List Dv} : giveD H (.p x :: ds) = (.p (wk x) :: (giveD H ds).1, (giveD H ds).2) := rfl
theorem giveD_nil : giveD H [] = ([], []) := rfl
theorem giveD_arr {id sz n : Nat} {T : Type} {en : T → List Pv} {x : List T} {ds : List Dv} (he : ∀ x, (en x).length = sz) (hid : H[id]? = some (.arr (encL en x))) (hn : n = x.length) :
    giveD H (.ref id 0 n sz :: ds) = (.p (.lst false x.length (encL en x)) :: (giveD H ds).1, id :: (giveD H ds).2) := by
  subst hn
  have hl := encL_len he x
  simp only [giveD, hid]
  rw [if_pos (by omega), List.drop_zero, List.take_of_length_le (by omega)]
theorem giveD_frz {id sz n : Nat} {T : Type} {en : T → List Pv} {x : List T} {ds : List Dv} (he : ∀ x, (en x).length = sz) (hid : H[id]? = some (.frz (encL en x))) (hn : n = x.length) :
    giveD H (.ref id 0 n sz :: ds) = (.p (.lst false x.length (encL en x)) :: (giveD H ds).1, (giveD H ds).2) := by
  subst hn
  have hl := encL_len he x
  simp only [giveD, hid]
  rw [if_pos (by omega), List.drop_zero, List.take_of_length_le (by omega)]
theorem callD_give {ds : List Dv} {args : List Pv} {ids : List Nat} {x : Pv} (hm : A.muts f = false) (hr : A.ros f = false) (hg : giveD H ds = (args.map .p, ids)) (h : c f (args.map .p) [] = some (.p x, [])) :
    callD c A H f ds = some (.p x, someIf (!ids.isEmpty) (freezeAll H ids)) := by
  simp only [callD, hm, hr, Bool.or_self, Bool.false_eq_true, if_false, hg, refs_pure]
  have e2 : ∀ H', collect H' 64 [] [] = [] := fun _ => rfl
  rw [e2, if_pos (show accOk (freezeAll H ids) [] [] = true from rfl), mapIds_pure]
  have e3 : lentD A f (freezeAll H ids) [] = [] := by simp only [lentD, hm]; rfl
  rw [e3, h]
  rfl
theorem collect_one {H : List Ob} {id k : Nat} {o : Ob} (hid : H[id]? = some o) (ho : obRefs o = []) : collect H (k + 2) [id] [] = [id] := by
  simp only [collect, List.contains_nil, Bool.false_eq_true, if_false, List.nil_append, hid, ho]
theorem accOk_one {H : List Ob} {id : Nat} {o : Ob} (hid : H[id]? = some o) (ho : obRefs o = []) : accOk H [id] [id] = true := by
  have hlt : id < H.length := (List.getElem?_eq_some_iff.1 hid).1
  have : H[id] = o := (List.getElem?_eq_some_iff.1 hid).2
  simp [accOk, hlt, this, ho]
theorem take_one {H : List Ob} {id : Nat} {o : Ob} (hid : H[id]? = some o) : takeAlong H [id] = [obMap (fun i => [id].idxOf i) o] := by
  simp [takeAlong, List.getD_eq_getElem?_getD, hid]
theorem refs_cons1 {id n sz : Nat} (args : List Pv) : refsOfs (.ref id 0 n sz :: args.map .p) = [id] := by
  simp [refsOfs, refsOf, refs_pure]
section
variable {id n sz n' sz' : Nat} {cs cs' : List Pv} {args : List Pv} {ds : List Dv}
theorem callD_one {r : Dv × List Ob} (hd : ds.map wkDv = args.map .p) (hm : A.muts f = true) (hid : H[id]? = some (.arr cs)) (h : c f (.ref 0 0 n sz :: args.map .p) [.arr cs] = some r) (o : Ob) (h' : List Ob) (hr : r.2 = o :: h') (hb : roBack [.arr cs] r.2 = true) :
    callD c A H f (.ref id 0 n sz :: ds) = some (mapIds (backD H.length [id]) r.1, some (putBack (backD H.length [id]) H [id] r.2)) := by
  have e0 : (Dv.ref id 0 n sz :: ds).map wkDv = .ref id 0 n sz :: args.map .p := by
    rw [List.map_cons, hd]; rfl
  have e1 : collect H 64 [id] [] = [id] := collect_one (k := 62) hid rfl
  have e2 := accOk_one hid (show obRefs (.arr cs) = [] from rfl)
  simp only [callD, hm, Bool.true_or, if_true, freezeAll, e0, refs_cons1, e1, e2]
  have e3 : mapIdss (List.idxOf · [id]) (.ref id 0 n sz :: args.map .p) = .ref 0 0 n sz :: args.map .p := by
    simp only [mapIdss, mapIds, mapIds_pure, List.idxOf_cons_self]
  have e4 : lentD A f H [id] = [.arr cs] := by simp only [lentD, hm, if_true, take_one hid, obMap]
  change (c f (mapIdss (List.idxOf · [id]) (.ref id 0 n sz :: args.map .p)) (lentD A f H [id])).bind _ = _
  rw [e3, e4, h]
  obtain ⟨r1, r2⟩ := r
  simp only at hr hb
  subst hr
  simp only [Option.bind_some]
  have e5 : roBack (takeAlong H [id]) (o :: h') = true := by rw [take_one hid]; exact hb
  have e6 : (true && decide ([id].length ≤ (o :: h').length) && roBack (takeAlong H [id]) (o :: h')) = true := by rw [e5]; simp
  rw [if_pos e6]
theorem callD_mut1 (hd : ds.map wkDv = args.map .p) (hm : A.muts f = true) (hid : H[id]? = some (.arr cs)) (h : c f (.ref 0 0 n sz :: args.map .p) [.arr cs] = some (.ref 1 0 n' sz', [.dead, .arr cs'])) :
    callD c A H f (.ref id 0 n sz :: ds) = some (.ref H.length 0 n' sz', some (H.set id .dead ++ [.arr cs'])) := by
  rw [callD_one hd hm hid h _ _ rfl rfl]
  simp [mapIds, backD, putBack, obMap]
theorem callD_mut0 (hd : ds.map wkDv = args.map .p) (hm : A.muts f = true) (h : c f (args.map .p) [] = some (.ref 0 0 n' sz', [.arr cs'])) :
    callD c A H f ds = some (.ref H.length 0 n' sz', some (H ++ [.arr cs'])) := by
  have e2 : ∀ H', collect H' 64 [] [] = [] := fun _ => rfl
  simp only [callD, hm, Bool.true_or, if_true, freezeAll, hd, refs_pure, e2]
  rw [if_pos (show accOk H [] [] = true from rfl), mapIds_pure]
  have e3 : lentD A f H [] = [] := by simp only [lentD, hm]; rfl
  rw [e3, h]
  simp only [Option.bind_some]
  have e6 : ((true || ([] : List Nat).isEmpty) && decide (([] : List Nat).length ≤ [Ob.arr cs'].length) && roBack (takeAlong H []) [.arr cs']) = true := rfl
  rw [if_pos e6]
  simp [mapIds, backD, putBack, obMap]
end
def cpL {T : Type} (x y : List T) : List T := y.take x.length ++ x.drop y.length
theorem cpL_len {T : Type} (x y : List T) : (cpL x y).length = x.length := by simp [cpL]; omega
theorem copy_enc {t1 t2 e id sz n : Nat} {T : Type} {en : T → List Pv} {x y : List T} {full : Bool} (h : P.underlying t1 = some (.slice e)) (hs : szOf P e = some sz) (hz : sz ≠ 0) (he : ∀ x, (en x).length = sz) (hid : H[id]? = some (.arr (encL en x))) (hn : n = x.length) :
    copyD P H #[t1, t2] (.ref id 0 n sz) (.p (.lst full y.length (encL en y))) = some (.p (.v (.int .i64 ((Nat.min y.length x.length : Nat) : Int))), H.set id (.arr (encL en (cpL x y)))) := by
  subst hn
  have e1 : (#[t1, t2] : Array TypeId)[0]? = some t1 := rfl
  have hx := encL_len he x
  have hy := encL_len he y
  simp only [copyD, e1, Option.bind_some, h, hs, if_neg hz, srcCells, if_pos hy, hid]
  rw [if_pos ⟨trivial, by omega⟩]
  have e3 : (encL en y).take (Nat.min y.length x.length * sz) = encL en (y.take x.length) := by
    rw [encL_take he]
    congr 1
    rw [show Nat.min y.length x.length = min y.length x.length from rfl]
    rcases Nat.le_total y.length x.length with hle | hle
    · rw [Nat.min_eq_left hle, List.take_of_length_le (Nat.le_refl _), List.take_of_length_le hle]
    · rw [Nat.min_eq_right hle]
  have e4 : setAt (encL en x) 0 (encL en (y.take x.length)) = encL en (cpL x y) := by
    have hsplit : encL en x = encL en (x.take (y.take x.length).length) ++ encL en (x.drop (y.take x.length).length) := by
      rw [← encL_app, List.take_append_drop]
    rw [hsplit, setAt_zero _ _ _ (by rw [encL_len he, encL_len he, List.length_take, List.length_take]; congr 1; omega), ← encL_app, cpL]
    congr 2
    rw [List.length_take]
    rcases Nat.le_total y.length x.length with hle | hle
    · rw [Nat.min_eq_right hle]
    · rw [Nat.min_eq_left hle, List.drop_of_length_le (Nat.le_refl _), List.drop_of_length_le hle]
  rw [e3, e4]
  rfl
theorem callV_fn {g : FuncId} {args ds : List Dv} : callV c A H (.fn (.func g) ds) args = callD c A H g (args ++ ds) := by simp [callV]
end
theorem own_ref {e a b c' d n : Nat} {tm : List Dv} {H : List Ob} : ghostsD [.own 0 e] ⟨.ref a b c' d :: tm, H, n⟩ = some ⟨.ref a b c' d :: tm, H, n⟩ := rfl
end Go.Ev
namespace Go.Ev
theorem ops_makeFunc_ {P : Program} {A : Ann} {c : CallF} {q : Bool} {ops : Array Oper} {l : List Oper} {tm : List Dv} {H : List Ob} {n t ty : Nat} {pos : String} {af : Array Edge} {fn : Fn} {caps : Array Operand} :
    opsD P A c q ops (⟨some t, .makeFunc fn #[] caps, ty, pos, af, none⟩ :: l) ⟨tm, H, n⟩ = opsD P A c q ops l ⟨tm.set t (mkFn fn (caps.toList.map (evalO tm))), H, n⟩ := ops_makeFunc rfl
end Go.Ev
namespace Go.Ev
theorem call_ofH {P : Program} {A : Ann} {f : FuncId} {args : List Dv} {H : List Ob} {fn : Func} {c : Code} {r : Dv × List Ob} (ho : A.okf f = true) (hf : P.funcs[f]? = some fn) (hb : fn.body = some c)
    (h : Wp (evW P A f c (initS fn args H)) fun e s => (e = .normal ∨ e = .ret) ∧ finishD P A f fn s = some r) : callW P A f args H = some r := by
  obtain ⟨e, s, h1, he, h2⟩ := h
  rw [callW_eq ho hf hb, h1]
  rcases he with rfl | rfl <;> exact h2
section
variable {H : List Ob}
theorem purifyT_rp {id sz n : Nat} {T : Type} {en : T → List Pv} {x : List T} {p : Pv} (he : ∀ x, (en x).length = sz) (hid : H[id]? = some (.arr (encL en x))) (hn : n = x.length) :
    purifyD H (oneD [.ref id 0 n sz, .p p]) = some (.tup [.lst false x.length (encL en x), p], [id]) := by
  have h1 := purify_enc he hid hn
  simp only [oneD, mkTup, allP, purifyD, purifyT, purifyE, h1, Option.map_some]
  rfl
end
end Go.Ev
namespace Go.Ev
theorem storeD_row {P : Program} {H : List Ob} {t : TypeId} {id j m sz sz' k : Nat} {T T' : Type} {en : T → List Pv} {en' : T' → List Pv} {x : List T} {y : List T'} {i : Int} {v v' : T}
    (hs : szOf P t = some 1) (he : ∀ x, (en x).length = sz) (he' : ∀ x, (en' x).length = sz') (hid : H[id]? = some (.arr (encL en x))) (hj : H[j]? = some (.arr (encL en' y))) (hne : (id == j) = false) (hm : m = y.length)
    (h : rd x i = some v) (hk : k < sz) (hv : en v' = (en v).set k (.lst false y.length (encL en' y))) :
    storeD P H t (.ptr id (i.toNat * sz + k)) (.ref j 0 m sz') = some ((H.set j (.frz (encL en' y))).set id (.arr (encL en (x.set i.toNat v')))) := by
  have hp := purify_enc (H := H) he' hj hm
  obtain ⟨h0, h1, h2⟩ := rd_some h
  have hl := (encL_seg he x i.toNat v h2).2
  have hne' : ¬ id = j := by simpa using hne
  have hf : freezeAll H [j] = H.set j (.frz (encL en' y)) := by simp only [freezeAll, frzAt, hj, frzOb]
  have hps : purifys H [.ref j 0 m sz'] = some ([.lst false y.length (encL en' y)], [j]) := by
    simp only [purifys, hp, List.append_nil]
  simp only [storeD, hs, hid, cellsD, hps]
  rw [if_pos ⟨rfl, by omega, by simpa using hne'⟩, hf]
  simp only [setAt]
  rw [encL_set he x i.toNat v h2 hk hv]
end Go.Ev
namespace Go.Ev
theorem wks_nil_ : wks [] = [] := by simp [wks]
end Go.Ev
namespace Go.Ev
theorem own_nil' {T : Type} {en : T → List Pv} {x : List T} (hx : x = []) (e : Nat) : ∀ (tm : List Dv) (H : List Ob) (n : Nat), ghostsD [.own 0 e] ⟨.p (.lst true 0 []) :: tm, H, n⟩ = some ⟨.ref H.length 0 x.length e :: tm, H ++ [.arr (encL en x)], n⟩ := by
  subst hx; intros; rfl
end Go.Ev

set_option linter.unusedVariables false
set_option linter.unusedSimpArgs false
namespace Go.Ev
section
variable {P : Program} {A : Ann} {H : List Ob} {c : CallF} {f : FuncId} {xt : TypeId} {x y : Operand} {k : IntKind} {a b : Int}
abbrev kv (k : IntKind) (x : Int) : Dv := .p (.v (.int k x))
theorem binD_geq_k : binD P .geq xt x y (kv k a) (kv k b) = some (bv (decide (b ≤ a))) := by cases k <;> rfl
theorem binD_sub_k : binD P .sub xt x y (kv k a) (kv k b) = some (kv k (k.wrap (a - b))) := by cases k <;> rfl
def andK (k : IntKind) (a b : Int) : Int := k.wrap (BitVec.ofInt k.bits a &&& BitVec.ofInt k.bits b).toNat
def xorK (k : IntKind) (a b : Int) : Int := k.wrap (BitVec.ofInt k.bits a ^^^ BitVec.ofInt k.bits b).toNat
def quoK (k : IntKind) (a b : Int) : Option Int := if b = 0 then none else some (k.wrap (a.tdiv b))
def shlK (k : IntKind) (a b : Int) : Option Int := if b < 0 then none else some (k.wrap (a * 2 ^ (min b.toNat k.bits)))
def shrK (k : IntKind) (a b : Int) : Option Int := if b < 0 then none else some (a.fdiv (2 ^ (min b.toNat k.bits)))
theorem binD_and_k : binD P .and xt x y (kv k a) (kv k b) = some (kv k (andK k a b)) := by cases k <;> rfl
theorem binD_xor_k : binD P .xor xt x y (kv k a) (kv k b) = some (kv k (xorK k a b)) := by cases k <;> rfl
theorem int_sem {op : BinOp} {r : Int} (hop : op ≠ .eql ∧ op ≠ .neq) (h : pureRun P (binOp op xt (.int k a) (.int k b)) = some (.int k r)) : binD P op xt x y (kv k a) (kv k b) = some (kv k r) := by
  simp only [binD, concD, conc, pureRun_bind]
  have : pureRun P (eqGuard op xt x y (.int k a) (.int k b)) = some () := by
    cases op <;> first | rfl | simp at hop
  rw [this, Option.bind_some, h]; rfl
theorem binD_quo_k {r : Int} (h : quoK k a b = some r) : binD P .quo xt x y (kv k a) (kv k b) = some (kv k r) := by
  unfold quoK at h
  split at h
  · cases h
  · rename_i h0
    obtain rfl := Option.some.inj h
    refine int_sem (by simp) ?_
    simp only [binOp, ne_eq, not_true_eq_false, if_false, Op.intDiv, if_neg h0, pureRun_pure]
theorem binD_shl_k {k' : IntKind} {r : Int} (h : shlK k a b = some r) : binD P .shl xt x y (kv k a) (kv k' b) = some (kv k r) := by
  unfold shlK at h
  split at h
  · cases h
  · rename_i h0
    obtain rfl := Option.some.inj h
    simp only [binD, concD, conc, pureRun_bind]
    rw [show pureRun P (eqGuard .shl xt x y (.int k a) (.int k' b)) = some () from rfl]
    simp only [Option.bind_some, binOp, Op.shift, if_neg h0, pureRun_pure, Option.map_some]
theorem binD_shr_k {k' : IntKind} {r : Int} (h : shrK k a b = some r) : binD P .shr xt x y (kv k a) (kv k' b) = some (kv k r) := by
  unfold shrK at h
  split at h
  · cases h
  · rename_i h0
    obtain rfl := Option.some.inj h
    simp only [binD, concD, conc, pureRun_bind]
    rw [show pureRun P (eqGuard .shr xt x y (.int k a) (.int k' b)) = some () from rfl]
    simp only [Option.bind_some, binOp, Op.shift, if_neg h0, pureRun_pure, Option.map_some]
theorem nilCheckD_ptr {id off : Nat} : nilCheckD (.ptr id off) = some (.ptr id off) := rfl
def bt (s : ByteArray) (i : Int) : Option Int := (if 0 ≤ i then s[i.toNat]? else none).map fun b => (b.toNat : Int)
theorem indexD_str {t : TypeId} {s : ByteArray} {k : IntKind} {i v : Int} (hu : P.underlying t = some .string) (h : bt s i = some v) : indexD P t (.p (.v (.string s))) (kv k i) = some (kv .u8 v) := by
  unfold bt at h
  simp only [Option.map_eq_some_iff] at h
  obtain ⟨b, h1, rfl⟩ := h
  simp only [indexD, hu, concD, conc, Option.bind_some, Instr.index, pureRun_bind, pr_underlying hu, asIntOf, pureRun_pure, h1, Option.map_some]
theorem callD_put {ds dsw ds' : List Dv} {i : Nat} {ids : List Nat} {o o' : Ob} {os os' : List Ob} {x : Pv} (hm : A.muts f = true) (hw : ds.map wkDv = dsw) (hacc : collect H 64 (refsOfs dsw) [] = i :: ids) (hok : accOk H (i :: ids) (refsOfs dsw) = true)
    (hds : mapIdss (List.idxOf · (i :: ids)) dsw = ds') (hos : takeAlong H (i :: ids) = o :: os) (h : c f ds' (o :: os) = some (.p x, o' :: os')) (hl : decide ((i :: ids).length ≤ (o' :: os').length) = true) (hb : roBack (o :: os) (o' :: os') = true) :
    callD c A H f ds = some (.p x, some (putBack (backD H.length (i :: ids)) H (i :: ids) (o' :: os'))) := by
  simp only [callD, hm, Bool.true_or, if_true, freezeAll, hw, hacc, hok]
  have e4 : lentD A f H (i :: ids) = o :: os := by simp only [lentD, hm, if_true, hos]
  change (c f (mapIdss (List.idxOf · (i :: ids)) dsw) (lentD A f H (i :: ids))).bind _ = _
  rw [hds, e4, h]
  simp only [Option.bind_some]
  have e6 : (true && decide ((i :: ids).length ≤ (o' :: os').length) && roBack (takeAlong H (i :: ids)) (o' :: os')) = true := by rw [hos, hb, hl]; rfl
  rw [if_pos e6]
  rfl
end
end Go.Ev
namespace Go.Ev
theorem Wp.gh (C : Option St → Option (Ex × St)) {G : List Ghost} {s : St} (S : St) {Q : Ex → St → Prop} (h : ghostsD G s = some S) (k : Wp (C (some S)) Q) : Wp (C (ghostsD G s)) Q := by rw [h]; exact k
end Go.Ev
namespace Go.Ev
theorem ghosts_app : ∀ {a b : List Ghost} {s s1 s2 : St}, ghostsD a s = some s1 → ghostsD b s1 = some s2 → ghostsD (a ++ b) s = some s2
  | [], b, s, s1, s2, h1, h2 => by
    simp only [ghostsD, Option.some.injEq] at h1
    subst h1; exact h2
  | g :: a, b, s, s1, s2, h1, h2 => by
    simp only [ghostsD, List.cons_append, Option.bind_eq_some_iff] at h1 ⊢
    obtain ⟨t, h3, h4⟩ := h1
    exact ⟨t, h3, ghosts_app h4 h2⟩
end Go.Ev
namespace Go.Ev
theorem callD_ro {A : Ann} {H : List Ob} {c : CallF} {f : FuncId} {ds ds1 ds' : List Dv} {i : Nat} {ids : List Nat} {os h' : List Ob} {x : Pv} (hm : A.muts f = false) (hr : A.ros f = false) (hg : giveD H ds = (ds1, [])) (hacc : collect H 64 (refsOfs ds1) [] = i :: ids)
    (hok : accOk H (i :: ids) (refsOfs ds1) = true) (hds : mapIdss (List.idxOf · (i :: ids)) ds1 = ds') (hos : (takeAlong H (i :: ids)).map roOf = os) (h : c f ds' os = some (.p x, h')) : callD c A H f ds = some (.p x, none) := by
  simp only [callD, hm, hr, Bool.or_self, Bool.false_eq_true, if_false, hg, freezeAll, hacc, hok, if_true]
  have e4 : lentD A f H (i :: ids) = os := by simp only [lentD, hm, Bool.false_eq_true, if_false, hos]
  change (c f (mapIdss (List.idxOf · (i :: ids)) ds1) (lentD A f H (i :: ids))).bind _ = _
  rw [hds, e4, h]
  simp [someIf]
end Go.Ev

namespace Go.Ev
section
variable {σ ρ : Type} {step : σ → Option (Out σ ρ)}
theorem iter_next {s s' : σ} (h : step s = some (.next s')) : iter step s = iter step s' := by
  apply opt_ext
  intro r
  rw [iter_some, iter_some]
  constructor
  · intro ⟨k, hk⟩
    cases k with
    | zero => simp [iterN] at hk
    | succ k => simp only [iterN, h] at hk; exact ⟨k, hk⟩
  · intro ⟨k, hk⟩
    exact ⟨k + 1, by simp only [iterN, h]; exact hk⟩
theorem iter_jmp {s s' : σ} {n : Nat} (h : step s = some (.jmp n s')) : iter step s = some (.jmp n s') := iter_some.2 ⟨1, by simp only [iterN, h]⟩
theorem iter_ret {s : σ} {r : ρ} (h : step s = some (.ret r)) : iter step s = some (.ret r) := iter_some.2 ⟨1, by simp only [iterN, h]⟩
theorem iter_to (st : Nat → σ) : ∀ (m : Nat), (∀ i, i < m → step (st i) = some (.next (st (i + 1)))) → iter step (st 0) = iter step (st m)
  | 0, _ => rfl
  | m + 1, h => by rw [iter_to st m fun i hi => h i (by omega), iter_next (h m (by omega))]
end
theorem w64_nat {n : Nat} (h : n < 2 ^ 62) : w64 (n : Int) = n := w64_id (by omega) (by omega)
theorem w64_succ {n : Nat} (h : n < 2 ^ 62) : w64 ((n : Int) + 1) = ((n + 1 : Nat) : Int) := by
  rw [w64_id (by omega) (by omega)]; omega
end Go.Ev

set_option linter.unusedVariables false
namespace Go.Ev
section
variable {T σ ρ : Type}
def firstI (f : Nat → T → Option ρ) : List T → Nat → Option ρ
  | [], _ => none
  | v :: l, i => match f i v with | some r => some r | none => firstI f l (i + 1)
theorem firstI_find (f : T → Option ρ) : ∀ (l : List T) (i : Nat), firstI (fun _ v => f v) l i = l.findSome? f
  | [], i => rfl
  | v :: l, i => by
    simp only [firstI, List.findSome?_cons]
    cases f v with
    | some r => rfl
    | none => exact firstI_find f l (i + 1)
theorem firstI_none {f : Nat → T → Option ρ} : ∀ {l : List T} {i : Nat}, firstI f l i = none ↔ ∀ j v, l[j]? = some v → f (i + j) v = none
  | [], i => by simp [firstI]
  | v :: l, i => by
    simp only [firstI]
    cases hf : f i v with
    | some r =>
      simp only [reduceCtorEq, false_iff]
      intro h
      have := h 0 v (by simp)
      simp only [Nat.add_zero, hf, reduceCtorEq] at this
    | none =>
      simp only
      rw [firstI_none]
      constructor
      · intro h j w hj
        cases j with
        | zero => simp only [List.getElem?_cons_zero, Option.some.injEq] at hj; subst hj; exact hf
        | succ j => rw [show i + (j + 1) = i + 1 + j by omega]; exact h j w (by simpa using hj)
      · intro h j w hj
        rw [show i + 1 + j = i + (j + 1) by omega]; exact h (j + 1) w (by simpa using hj)
theorem firstI_some {f : Nat → T → Option ρ} {r : ρ} : ∀ {l : List T} {i : Nat}, firstI f l i = some r → ∃ j v, l[j]? = some v ∧ f (i + j) v = some r ∧ ∀ k < j, ∀ w, l[k]? = some w → f (i + k) w = none
  | [], i, h => by cases h
  | v :: l, i, h => by
    simp only [firstI] at h
    cases hf : f i v with
    | some r' =>
      rw [hf] at h
      exact ⟨0, v, by simp, by rw [Nat.add_zero, hf]; exact h, fun k hk => by omega⟩
    | none =>
      rw [hf] at h
      obtain ⟨j, w, h1, h2, h3⟩ := firstI_some h
      refine ⟨j + 1, w, by simpa using h1, by rw [show i + (j + 1) = i + 1 + j by omega]; exact h2, fun k hk u hu => ?_⟩
      cases k with
      | zero => simp only [List.getElem?_cons_zero, Option.some.injEq] at hu; subst hu; exact hf
      | succ k => rw [show i + (k + 1) = i + 1 + k by omega]; exact h3 k (by omega) u (by simpa using hu)
variable {step : σ → Option (Out σ ρ)}
theorem iter_first (g : Nat → σ) (f : Nat → T → Option ρ) (n : Nat) (e : σ) : ∀ (l : List T) (i : Nat),
    (∀ j v, l[j]? = some v → step (g (i + j)) = some (match f (i + j) v with | some r => .ret r | none => .next (g (i + j + 1)))) → step (g (i + l.length)) = some (.jmp n e) →
    iter step (g i) = some (match firstI f l i with | some r => .ret r | none => .jmp n e)
  | [], i, _, he => by
    simp only [firstI]
    exact iter_jmp (by simpa using he)
  | v :: l, i, hs, he => by
    have h0 := hs 0 v (by simp)
    rw [Nat.add_zero] at h0
    simp only [firstI]
    cases hf : f i v with
    | some r => rw [hf] at h0; exact iter_ret h0
    | none =>
      rw [hf] at h0
      rw [iter_next h0]
      exact iter_first g f n e l (i + 1) (fun j w hj => by
        rw [show i + 1 + j = i + (j + 1) by omega]; exact hs (j + 1) w (by simpa using hj)) (by rw [show i + 1 + l.length = i + (v :: l).length by simp only [List.length_cons]; omega]; exact he)
open Classical in
theorem iter_all (g : Nat → σ) (good : Nat → Prop) (r : ρ) (k : Nat) (e : σ) (n : Nat) (hs : ∀ i, i < n → (∀ j, j < i → good j) → step (g i) = if good i then some (.next (g (i + 1))) else some (.ret r))
    (he : (∀ j, j < n → good j) → step (g n) = some (.jmp k e)) : iter step (g 0) = if (∀ i, i < n → good i) then some (.jmp k e) else some (.ret r) := by
  have key : ∀ d i, i + d = n → (∀ j, j < i → good j) → iter step (g i) = if (∀ i, i < n → good i) then some (.jmp k e) else some (.ret r) := by
    intro d
    induction d with
    | zero =>
      intro i hi hg
      obtain rfl : i = n := by omega
      rw [if_pos hg]; exact iter_jmp (he hg)
    | succ d ih =>
      intro i hi hg
      have h1 := hs i (by omega) hg
      by_cases hgi : good i
      · rw [if_pos hgi] at h1
        rw [iter_next h1]
        exact ih (i + 1) (by omega) (fun j hj => by
          by_cases hji : j = i
          · subst hji; exact hgi
          · exact hg j (by omega))
      · rw [if_neg hgi] at h1
        rw [iter_ret h1, if_neg (fun h => hgi (h i (by omega)))]
  exact key n 0 (by omega) (fun j hj => by omega)
end
theorem sorted_ext {T : Type} {key : T → Int} : ∀ {a b : List T}, a.Pairwise (fun x y => key x < key y) → b.Pairwise (fun x y => key x < key y) → (∀ x, x ∈ a ↔ x ∈ b) → a = b
  | [], [], _, _, _ => rfl
  | [], y :: b, _, _, h => by have := (h y).2 List.mem_cons_self; cases this
  | x :: a, [], _, _, h => by have := (h x).1 List.mem_cons_self; cases this
  | x :: a, y :: b, ha, hb, h => by
    obtain ⟨ha1, ha2⟩ := List.pairwise_cons.1 ha
    obtain ⟨hb1, hb2⟩ := List.pairwise_cons.1 hb
    have hxy : x = y := by
      rcases List.mem_cons.1 ((h x).1 List.mem_cons_self) with e | e
      · exact e
      · rcases List.mem_cons.1 ((h y).2 List.mem_cons_self) with e' | e'
        · exact e'.symm
        · have h1 := hb1 x e; have h2 := ha1 y e'; omega
    subst hxy
    congr 1
    refine sorted_ext ha2 hb2 fun z => ⟨fun hz => ?_, fun hz => ?_⟩
    · rcases List.mem_cons.1 ((h z).1 (List.mem_cons_of_mem _ hz)) with e | e
      · subst e; have := ha1 z hz; omega
      · exact e
    · rcases List.mem_cons.1 ((h z).2 (List.mem_cons_of_mem _ hz)) with e | e
      · subst e; have := hb1 z hz; omega
      · exact e
end Go.Ev

