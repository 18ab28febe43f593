/- A part of the proof: E5. No conditions of its own. -/
import Derived.Test.YtdknlgpdjmjlnaaDoorE4
import Derived.Laws.StructEq
import Derived.LaidMore
import Derived.MakeChecks
import Derived.Stop.Joined
set_option linter.unusedVariables false
set_option linter.unusedSimpArgs false
namespace Go.Ev
section
variable {P : Program} {A : Ann} {f : FuncId} {c : CallF} {q : Bool} {ops : Array Oper} {l : List Oper} {tm : List Dv} {H : List Ob} {n t ty : Nat} {pos : String} {af : Array Edge}
theorem ofVal_str {s : ByteArray} : ofVal (.string s) = .v (.string s) := rfl
theorem encL_nil {T : Type} {en : T → List Pv} : encL en ([] : List T) = [] := rfl
theorem boxD_leaf {k : IntKind} {x : Int} : boxD H (.p (.v (.int k x))) = some (.ptr H.length 0, some (H ++ [.var [.p (.v (.int k x))]])) := rfl
theorem boxD_bool {b : Bool} : boxD H (.p (.v (.bool b))) = some (.ptr H.length 0, some (H ++ [.var [.p (.v (.bool b))]])) := rfl
theorem boxD_str {s : ByteArray} : boxD H (.p (.v (.string s))) = some (.ptr H.length 0, some (H ++ [.var [.p (.v (.string s))]])) := rfl
theorem boxD_lst {b : Bool} {m : Nat} {cs : List Pv} : boxD H (.p (.lst b m cs)) = some (.ptr H.length 0, some (H ++ [.var [.p (.lst b m cs)]])) := rfl
theorem boxD_agg {cs : List Pv} : boxD H (.p (.agg cs)) = some (.ptr H.length 0, some (H ++ [.var (cs.map .p)])) := rfl
theorem boxD_ref {id off m sz : Nat} : boxD H (.ref id off m sz) = some (.ptr H.length 0, some (H ++ [.var [.ref id off m sz]])) := rfl
def stdOb (H : List Ob) (id off : Nat) (d : Dv) (o : Option Ob) : Option (List Ob) :=
  match o with
  | some (.var cs) => if off < cs.length then some (H.set id (.var (cs.set off d))) else none
  | some (.arr cs) => match d with
    | .p x => if off < cs.length then some (H.set id (.arr (cs.set off x))) else none
    | _ => none
  | _ => none
theorem storeD_leaf {t : TypeId} {id off : Nat} {x : Pv} (hs : szOf P t = some 1) (hx : cellsD (.p x) = some [.p x]) :
    storeD P H t (.ptr id off) (.p x) = stdOb H id off (.p x) H[id]? := by
  rw [storeD_ptr hs hx]
  cases H[id]? with
  | none => rfl
  | some o => cases o <;> rfl
theorem lenD_str {t : TypeId} {s : ByteArray} (h : P.underlying t = some .string) : lenD P t (.p (.v (.string s))) = some (iv s.size) := by
  simp only [lenD, h]; rfl
theorem appendD_nil {e e2 t1 t2 : TypeId} {sz b : Nat} {z : List Pv} {m : Nat} {full : Bool} {new : List Pv} (h : P.underlying t1 = some (.slice e)) (h2 : P.underlying t2 = some (.slice e2)) (hs : szOf P e = some sz) (hb : bytesOf P e = some b) (hz : zeroCs P e = some z)
    (h3 : sz ≠ 0 ∧ b ≠ 0 ∧ z.length = sz) (hn : new.length = m * sz) (hl : m * b ≤ 140737488355328) :
    appendD P H #[t1, t2] (.p (.lst true 0 [])) (.p (.lst full m new)) = some (.ref H.length 0 m sz, H ++ [.arr new]) := by
  have e1 : (#[t1, t2] : Array TypeId)[0]? = some t1 := rfl
  have e3 : srcT P #[t1, t2] = true := by simp [srcT, h2]
  simp only [appendD, e1, Option.bind_some, h, hs, hb, hz, e3]
  rw [if_neg (by simp [h3])]
  simp only [srcCells, if_pos hn, Option.bind_some]
  rw [if_pos ⟨by simp, by rw [Nat.zero_add]; exact hl⟩, if_pos (.inl trivial)]
  simp
end
end Go.Ev

set_option linter.unusedVariables false
set_option linter.unusedSimpArgs false
namespace Go.Ev
section
variable {P : Program}
theorem pureRun_bind {α β : Type} (x : Sem α) (g : α → Sem β) : pureRun P (x >>= g) = (pureRun P x).bind fun a => pureRun P (g a) := by
  induction x with
  | pure a => rfl
  | program k ih => exact ih P
  | mark _ k ih => exact ih
  | _ => rfl
theorem pureRun_pure {α : Type} (a : α) : pureRun P (pure a : Sem α) = some a := rfl
theorem pr_underlying {t : TypeId} {x : TypeDesc} (h : P.underlying t = some x) : pureRun P (underlying t) = some x := by
  show pureRun P (match P.underlying t with | some d => pure d | none => stuck _) = some x
  rw [h]; rfl
theorem toList_beq (a b : ByteArray) : (a.toList == b.toList) = decide (a = b) := by
  rw [ByteArray.toList_eq, ByteArray.toList_eq]
  obtain ⟨⟨x⟩⟩ := a
  obtain ⟨⟨y⟩⟩ := b
  by_cases h : x = y
  · subst h; simp
  · simp [h]
theorem binD_eql_str {xt : TypeId} {x y : Operand} {a b : ByteArray} : binD P .eql xt x y (.p (.v (.string a))) (.p (.v (.string b))) = some (.p (.v (.bool (decide (a = b))))) := by
  rw [← toList_beq]; rfl
theorem binD_neq_str {xt : TypeId} {x y : Operand} {a b : ByteArray} : binD P .neq xt x y (.p (.v (.string a))) (.p (.v (.string b))) = some (.p (.v (.bool (!decide (a = b))))) := by
  rw [← toList_beq]; rfl
end
end Go.Ev
namespace Go.Ev
section
variable {P : Program} {H : List Ob}
def apOb (H : List Ob) (id off n m esz sz b : Nat) (new : List Pv) (o : Option Ob) : Option (Dv × List Ob) := if new.length = m * sz then appOb H id off n m esz sz b new o else none
theorem appendD_ap {e e2 t1 t2 : TypeId} {sz b : Nat} {z : List Pv} {id off esz n m : Nat} {full : Bool} {new : List Pv} (h : P.underlying t1 = some (.slice e)) (h2 : P.underlying t2 = some (.slice e2)) (hs : szOf P e = some sz) (hb : bytesOf P e = some b) (hz : zeroCs P e = some z)
    (h3 : sz ≠ 0 ∧ b ≠ 0 ∧ z.length = sz) : appendD P H #[t1, t2] (.ref id off n esz) (.p (.lst full m new)) = apOb H id off n m esz sz b new H[id]? := by
  by_cases hn : new.length = m * sz
  · rw [appendD_ref h h2 hs hb hz h3 hn, apOb, if_pos hn]
  · have e1 : (#[t1, t2] : Array TypeId)[0]? = some t1 := rfl
    simp only [appendD, e1, Option.bind_some, h, hs, hb, hz, srcCells, if_neg hn, Option.bind_none, apOb]
    split <;> rfl
theorem ap_enc {id sz b m n : Nat} {T : Type} {en : T → List Pv} {x y : List T} {new : List Pv} (he : ∀ x, (en x).length = sz) (hn : n = x.length) (hm : m = y.length) (hnew : new = encL en y) (hl : (x.length + m) * b ≤ 140737488355328) :
    apOb H id 0 n m sz sz b new (some (.arr (encL en x))) = some (.ref H.length 0 (x ++ y).length sz, H.set id .dead ++ [.arr (encL en (x ++ y))]) := by
  subst hn hm hnew
  rw [apOb, if_pos (encL_len he y), app_enc he hl]
def apN (H : List Ob) (m sz b : Nat) (new : List Pv) : Option (Dv × List Ob) := if new.length = m * sz ∧ m * b ≤ 140737488355328 then some (.ref H.length 0 m sz, H ++ [.arr new]) else none
theorem appendD_apn {e e2 t1 t2 : TypeId} {sz b : Nat} {z : List Pv} {m : Nat} {full : Bool} {new : List Pv} (h : P.underlying t1 = some (.slice e)) (h2 : P.underlying t2 = some (.slice e2)) (hs : szOf P e = some sz) (hb : bytesOf P e = some b) (hz : zeroCs P e = some z)
    (h3 : sz ≠ 0 ∧ b ≠ 0 ∧ z.length = sz) : appendD P H #[t1, t2] (.p (.lst true 0 [])) (.p (.lst full m new)) = apN H m sz b new := by
  by_cases hn : new.length = m * sz
  · by_cases hl : m * b ≤ 140737488355328
    · rw [appendD_nil h h2 hs hb hz h3 hn hl, apN, if_pos ⟨hn, hl⟩]
    · have e1 : (#[t1, t2] : Array TypeId)[0]? = some t1 := rfl
      simp only [appendD, e1, Option.bind_some, h, hs, hb, hz, srcCells, if_pos hn, Option.bind_none, apN]
      rw [if_neg (by omega : ¬ (new.length = m * sz ∧ m * b ≤ 140737488355328))]
      split
      · rfl
      · rw [if_neg (by rw [Nat.zero_add]; omega)]
  · have e1 : (#[t1, t2] : Array TypeId)[0]? = some t1 := rfl
    simp only [appendD, e1, Option.bind_some, h, hs, hb, hz, srcCells, if_neg hn, Option.bind_none, apN]
    rw [if_neg (by omega : ¬ (new.length = m * sz ∧ m * b ≤ 140737488355328))]
    split <;> rfl
theorem apn_enc {sz b m : Nat} {T : Type} {en : T → List Pv} {y : List T} {new : List Pv} (he : ∀ x, (en x).length = sz) (hm : m = y.length) (hnew : new = encL en y) (hl : m * b ≤ 140737488355328) :
    apN H m sz b new = some (.ref H.length 0 y.length sz, H ++ [.arr (encL en y)]) := by
  subst hm hnew
  rw [apN, if_pos ⟨encL_len he y, hl⟩]
end
end Go.Ev
namespace Go.Ev
section
variable {P : Program} {H : List Ob} {t : TypeId} {id off : Nat}
theorem storeD_int {k : IntKind} {x : Int} (hs : szOf P t = some 1) : storeD P H t (.ptr id off) (.p (.v (.int k x))) = stdOb H id off (.p (.v (.int k x))) H[id]? := storeD_leaf hs rfl
end
end Go.Ev
namespace Go.Ev
theorem purify1_enc {H : List Ob} {id sz n : Nat} {T : Type} {en : T → List Pv} {x : List T} (he : ∀ x, (en x).length = sz) (hid : H[id]? = some (.arr (encL en x))) (hn : n = x.length) : purifyD H (oneD [.ref id 0 n sz]) = some (.lst false x.length (encL en x), [id]) := by
  simp only [oneD, purifyD]; exact purify_enc he hid hn
end Go.Ev
namespace Go.Ev
section
variable {P : Program} {A : Ann} {H : List Ob} {c : CallF} {f : FuncId}
theorem callV_fn {g : FuncId} {args ds : List Dv} : callV c A H (.fn (.func g) ds) args = callD c A H g (args ++ ds) := by simp [callV]
end
end Go.Ev
namespace Go.Ev
theorem ops_makeFunc_ [Gl] {P : Program} {A : Ann} {c : CallF} {q : Bool} {ops : Array Oper} {l : List Oper} {tm : List Dv} {H : List Ob} {n t ty : Nat} {pos : String} {af : Array Edge} {fn : Fn} {caps : Array Operand} :
    opsD P A c q ops (⟨some t, .makeFunc fn #[] caps, ty, pos, af, none⟩ :: l) ⟨tm, H, n⟩ = opsD P A c q ops l ⟨tm.set t (mkFn fn (caps.toList.map (evalO tm))), H, n⟩ := ops_makeFunc rfl
end Go.Ev
namespace Go.Ev
theorem call_ofH [Gl] {P : Program} {A : Ann} {f : FuncId} {args : List Dv} {H : List Ob} {fn : Func} {c : Code} {r : Dv × List Ob} (hcl : ((A.outer f).isSome || (A.clone f).isSome && emptyArg args H) = false) (ho : A.okf f = true) (hf : P.funcs[f]? = some fn) (hb : fn.body = some c)
    (h : Wp (evW P A f c (initS fn args H)) fun e s => (e = .normal ∨ e = .ret) ∧ finishD P A f fn s = some r) : callW P A f args H = some r := by
  obtain ⟨e, s, h1, he, h2⟩ := h
  rw [callW_eq hcl ho hf hb, h1]
  rcases he with rfl | rfl <;> exact h2
end Go.Ev
namespace Go.Ev
theorem wks_nil_ : wks [] = [] := by simp [wks]
end Go.Ev

set_option linter.unusedVariables false
set_option linter.unusedSimpArgs false
namespace Go.Ev
section
variable {P : Program} {A : Ann} {H : List Ob} {c : CallF} {f : FuncId} {xt : TypeId} {x y : Operand} {k : IntKind} {a b : Int}
abbrev kv (k : IntKind) (x : Int) : Dv := .p (.v (.int k x))
theorem binD_lss_k : binD P .lss xt x y (kv k a) (kv k b) = some (bv (decide (a < b))) := by cases k <;> rfl
theorem binD_leq_k : binD P .leq xt x y (kv k a) (kv k b) = some (bv (decide (a ≤ b))) := by cases k <;> rfl
theorem binD_gtr_k : binD P .gtr xt x y (kv k a) (kv k b) = some (bv (decide (b < a))) := by cases k <;> rfl
theorem binD_geq_k : binD P .geq xt x y (kv k a) (kv k b) = some (bv (decide (b ≤ a))) := by cases k <;> rfl
theorem binD_eql_k : binD P .eql xt x y (kv k a) (kv k b) = some (bv (decide (a = b))) := by cases k <;> rfl
theorem binD_neq_k : binD P .neq xt x y (kv k a) (kv k b) = some (bv (!decide (a = b))) := by cases k <;> rfl
theorem binD_sub_k : binD P .sub xt x y (kv k a) (kv k b) = some (kv k (k.wrap (a - b))) := by cases k <;> rfl
def bt (s : ByteArray) (i : Int) : Option Int := (if 0 ≤ i then s[i.toNat]? else none).map fun b => (b.toNat : Int)
theorem indexD_str {t : TypeId} {s : ByteArray} {k : IntKind} {i v : Int} (hu : P.underlying t = some .string) (h : bt s i = some v) : indexD P t (.p (.v (.string s))) (kv k i) = some (kv .u8 v) := by
  unfold bt at h
  simp only [Option.map_eq_some_iff] at h
  obtain ⟨b, h1, rfl⟩ := h
  simp only [indexD, hu, concD, conc, Option.bind_some, Instr.index, pureRun_bind, pr_underlying hu, asIntOf, pureRun_pure, h1, Option.map_some]
theorem callD_put {ds dsw ds' : List Dv} {i : Nat} {ids : List Nat} {o o' : Ob} {os os' : List Ob} {x : Pv} (hm : A.muts f = true) (hw : ds.map wkDv = dsw) (hacc : collect H 64 (refsOfs dsw) [] = i :: ids) (hok : accOk H (i :: ids) (refsOfs dsw) = true)
    (hds : mapIdss (List.idxOf · (i :: ids)) dsw = ds') (hos : takeAlong H (i :: ids) = o :: os) (h : c f ds' (o :: os) = some (.p x, o' :: os')) (hl : decide ((i :: ids).length ≤ (o' :: os').length) = true) (hb : roBack (o :: os) (o' :: os') = true) :
    callD c A H f ds = some (.p x, some (putBack (backD H.length (i :: ids)) H (i :: ids) (o' :: os'))) := by
  simp only [callD, hm, Bool.true_or, if_true, freezeAll, hw, hacc, hok]
  have e4 : lentD A f H (i :: ids) = o :: os := by simp only [lentD, hm, if_true, hos]
  change (c f (mapIdss (List.idxOf · (i :: ids)) dsw) (lentD A f H (i :: ids))).bind _ = _
  rw [hds, e4, h]
  simp only [Option.bind_some]
  have e6 : (true && decide ((i :: ids).length ≤ (o' :: os').length) && roBack (takeAlong H (i :: ids)) (o' :: os')) = true := by rw [hos, hb, hl]; rfl
  rw [if_pos e6]
  rfl
end
end Go.Ev

namespace Go.Ev
section
variable {σ ρ : Type} {step : σ → Option (Out σ ρ)}
theorem iter_next {s s' : σ} (h : step s = some (.next s')) : iter step s = iter step s' := by
  apply opt_ext
  intro r
  rw [iter_some, iter_some]
  constructor
  · intro ⟨k, hk⟩
    cases k with
    | zero => simp [iterN] at hk
    | succ k => simp only [iterN, h] at hk; exact ⟨k, hk⟩
  · intro ⟨k, hk⟩
    exact ⟨k + 1, by simp only [iterN, h]; exact hk⟩
theorem iter_jmp {s s' : σ} {n : Nat} (h : step s = some (.jmp n s')) : iter step s = some (.jmp n s') := iter_some.2 ⟨1, by simp only [iterN, h]⟩
theorem iter_ret {s : σ} {r : ρ} (h : step s = some (.ret r)) : iter step s = some (.ret r) := iter_some.2 ⟨1, by simp only [iterN, h]⟩
theorem iter_to (st : Nat → σ) : ∀ (m : Nat), (∀ i, i < m → step (st i) = some (.next (st (i + 1)))) → iter step (st 0) = iter step (st m)
  | 0, _ => rfl
  | m + 1, h => by rw [iter_to st m fun i hi => h i (by omega), iter_next (h m (by omega))]
end
theorem rd_none {T : Type} {l : List T} {i : Int} (h : ¬ (0 ≤ i ∧ i < (l.length : Int))) : rd l i = none := by
  unfold rd
  split
  · rw [List.getElem?_eq_none]; omega
  · rfl
theorem w64_succ {n : Nat} (h : n < 2 ^ 62) : w64 ((n : Int) + 1) = ((n + 1 : Nat) : Int) := by
  rw [w64_id (by omega) (by omega)]; omega
end Go.Ev

set_option linter.unusedVariables false
namespace Go.Ev
section
variable {T σ ρ : Type}
variable {step : σ → Option (Out σ ρ)}
open Classical in
theorem iter_all (g : Nat → σ) (good : Nat → Prop) (r : ρ) (k : Nat) (e : σ) (n : Nat) (hs : ∀ i, i < n → (∀ j, j < i → good j) → step (g i) = if good i then some (.next (g (i + 1))) else some (.ret r))
    (he : (∀ j, j < n → good j) → step (g n) = some (.jmp k e)) : iter step (g 0) = if (∀ i, i < n → good i) then some (.jmp k e) else some (.ret r) := by
  have key : ∀ d i, i + d = n → (∀ j, j < i → good j) → iter step (g i) = if (∀ i, i < n → good i) then some (.jmp k e) else some (.ret r) := by
    intro d
    induction d with
    | zero =>
      intro i hi hg
      obtain rfl : i = n := by omega
      rw [if_pos hg]; exact iter_jmp (he hg)
    | succ d ih =>
      intro i hi hg
      have h1 := hs i (by omega) hg
      by_cases hgi : good i
      · rw [if_pos hgi] at h1
        rw [iter_next h1]
        exact ih (i + 1) (by omega) (fun j hj => by
          by_cases hji : j = i
          · subst hji; exact hgi
          · exact hg j (by omega))
      · rw [if_neg hgi] at h1
        rw [iter_ret h1, if_neg (fun h => hgi (h i (by omega)))]
  exact key n 0 (by omega) (fun j hj => by omega)
end
end Go.Ev

set_option linter.unusedVariables false
namespace Go.Ev
section
variable {P : Program} {A : Ann} {H : List Ob} {c : CallF} {f : FuncId}
theorem nilD_ne {t e n : Nat} {b : Bool} {cells : List Pv} (hu : P.underlying t = some (.slice e)) (h : cells ≠ []) : nilD P .eql t (.p (.lst b n cells)) = some (bv false) := by
  cases cells with
  | nil => exact absurd rfl h
  | cons x l => simp only [nilD, hu]
theorem encL_ne {T : Type} {en : T → List Pv} {sz : Nat} (he : ∀ x, (en x).length = sz) (hz : sz ≠ 0) {l : List T} (h : l ≠ []) : encL en l ≠ [] := by
  cases l with
  | nil => exact absurd rfl h
  | cons x l =>
    intro e
    have := congrArg List.length e
    rw [encL_cons, List.length_append, he] at this
    simp only [List.length_nil] at this
    omega
theorem clone_nil0 [Gl] {args : List Dv} (hx : A.outer f = none) (hc : A.clone f = some 0) (he : emptyArg args H = true) : callW P A f args H = some (.p (.lst false 0 []), []) := by
  refine callW_some.2 ⟨1, ?_⟩
  simp only [callN, hx, hc, he, if_true]
end
end Go.Ev
namespace Go.Ev
section
variable {P : Program} {A : Ann} {H : List Ob} {c : CallF} {f : FuncId}
def stgOb (H : List Ob) (id off n : Nat) (ds : List Dv) (o : Option Ob) : Option (List Ob) :=
  match o with
  | some (.var cs) => if ds.length = n ∧ off + n ≤ cs.length then some (H.set id (.var (setAt cs off ds))) else none
  | some (.arr cs) =>
    match purifys H ds with
    | some (xs, l) => if xs.length = n ∧ off + n ≤ cs.length ∧ ¬ id ∈ l then some ((freezeAll H l).set id (.arr (setAt cs off xs))) else none
    | none => none
  | _ => none
theorem storeD_gagg {t : TypeId} {id off n : Nat} {ds : List Dv} (hs : szOf P t = some n) : storeD P H t (.ptr id off) (.agg ds) = stgOb H id off n ds H[id]? := by
  simp only [storeD, hs, cellsD]
  cases H[id]? with
  | none => rfl
  | some o => cases o <;> rfl
theorem storeD_gref {t : TypeId} {id off j o m e : Nat} (hs : szOf P t = some 1) : storeD P H t (.ptr id off) (.ref j o m e) = stgOb H id off 1 [.ref j o m e] H[id]? := by
  simp only [storeD, hs, cellsD]
  cases H[id]? with
  | none => rfl
  | some o => cases o <;> rfl
theorem purifys_nil : purifys H [] = some ([], []) := rfl
theorem purifys_pc {x : Pv} {ds : List Dv} {xs : List Pv} {l : List Nat} (h : purifys H ds = some (xs, l)) : purifys H (.p x :: ds) = some (x :: xs, l) := by
  simp only [purifys, purify, h, List.nil_append]
theorem purifys_rc {id sz n : Nat} {T : Type} {en : T → List Pv} {x : List T} {ds : List Dv} {xs : List Pv} {l : List Nat} (he : ∀ x, (en x).length = sz) (hid : H[id]? = some (.arr (encL en x))) (hn : n = x.length) (h : purifys H ds = some (xs, l)) :
    purifys H (.ref id 0 n sz :: ds) = some (.lst false x.length (encL en x) :: xs, id :: l) := by
  simp only [purifys, purify_enc he hid hn, h, List.cons_append, List.nil_append]
theorem purify1_agg {ds : List Dv} {xs : List Pv} {l : List Nat} (h : purifys H ds = some (xs, l)) : purifyD H (oneD [.agg ds]) = some (.agg xs, l) := by
  simp only [oneD, purifyD, h, Option.map_some]
end
end Go.Ev
namespace Go.Ev
theorem finish_isH {P : Program} {A : Ann} {f : FuncId} {fn : Func} {s : St} {ds : List Dv} {x y : Pv} {l : List Nat} {H' : List Ob} (hk : A.keeps f = false) (h1 : resD P s fn.results.toList = some ds) (h2 : purifyD s.heap (oneD ds) = some (x, l)) (hy : wk x = y)
    (h3 : (if (accOk (freezeAll s.heap l) (collect (freezeAll s.heap l) 256 (List.range s.nin) []) [] && decide ((collect (freezeAll s.heap l) 256 (List.range s.nin) []).take s.nin = List.range s.nin)) = true then some (takeAlong (freezeAll s.heap l) (collect (freezeAll s.heap l) 256 (List.range s.nin) [])) else none) = some H') :
    finishD P A f fn s = some (.p y, H') := by
  subst hy
  unfold finishD
  rw [h1]
  simp only [Option.bind_some, hk, Bool.false_eq_true, if_false, h2, Option.map_some, refsOf, List.append_nil, mapIds]
  by_cases hc : (accOk (freezeAll s.heap l) (collect (freezeAll s.heap l) 256 (List.range s.nin) []) [] && decide ((collect (freezeAll s.heap l) 256 (List.range s.nin) []).take s.nin = List.range s.nin)) = true
  · rw [if_pos hc] at h3; rw [if_pos hc]; cases h3; rfl
  · rw [if_neg hc] at h3; cases h3
theorem dynT [Gl] {ops : Array Oper} {n : Nat} {pairs : List (Nat × Nat)} {s : St} (h : dynB ops n pairs s = (true && true)) : dynB ops n pairs s = true := h
theorem bsm {α β : Type} {x : Option α} {f : α → Option β} {b : β} (h : x.bind f = some b) : ∃ a, x = some a ∧ f a = some b := Option.bind_eq_some_iff.1 h
end Go.Ev

set_option linter.unusedVariables false
set_option linter.unusedSimpArgs false
namespace Go.Ev
mutual
def flatD : DataW Unit → List Pv
  | .lit (.int k n) => [.v (.int k n)]
  | .lit (.bool b) => [.v (.bool b)]
  | .lit (.string s) => [.v (.string ⟨s.toArray⟩)]
  | .nil => [.lst false 0 []]
  | .slice es _ => [.lst false es.length (flatDs es)]
  | .agg es => flatDs es
  | _ => []
def flatDs : List (DataW Unit) → List Pv
  | [] => []
  | d :: l => flatD d ++ flatDs l
end
theorem flatDs_append : ∀ (a b : List (DataW Unit)), flatDs (a ++ b) = flatDs a ++ flatDs b
  | [], b => rfl
  | x :: a, b => by simp only [List.cons_append, flatDs, flatDs_append a b, List.append_assoc]
def contig (P : Program) : List Field → Nat → Option Nat
  | [], off => some off
  | f :: fs, off => if f.offset = off then contig P fs (off + P.cellsOf f.type) else none
def flatB (P : Program) : Nat → TypeId → Bool
  | 0, _ => false
  | k + 1, t =>
    match P.underlying t with
    | some .bool => true
    | some (.int _) => true
    | some .string => true
    | some (.slice e) => decide (0 < P.cellsOf e) && flatB P k e
    | some (.array n e) => decide (n * P.cellsOf e = P.cellsOf t) && flatB P k e
    | some (.struct fs) => contig P fs.toList 0 == some (P.cellsOf t) && fs.toList.all fun f => flatB P k f.type
    | _ => false
section
variable {P : Program} {w : World} {held : Bool}
abbrev trodU (P : Program) (w : World) (held : Bool) := DataW.trod (H := Unit) (fun _ => ()) P w 0 (fun _ => true) held
theorem flat_fields {k fuel : Nat} (ih : ∀ (t : TypeId), flatB P k t = true → ∀ (cs : List Value) (d : DataW Unit) (ps : List MemPlace), trodU P w held fuel t cs = some (d, ps) → Cs w cs (flatD d)) :
    ∀ (fs : List Field) (off n : Nat) (cs : List Value) (xs : List (DataW Unit × List MemPlace)), contig P fs off = some n → (fs.all fun f => flatB P k f.type) = true → n ≤ cs.length →
    fs.mapM (fun f => trodU P w held fuel f.type ((cs.drop f.offset).take (P.cellsOf f.type))) = some xs → off ≤ n ∧ Cs w ((cs.drop off).take (n - off)) (flatDs (xs.map (·.1)))
  | [], off, n, cs, xs, hc, _, hn, h => by
    simp only [contig, Option.some.injEq] at hc
    subst hc
    simp only [List.mapM_nil] at h
    cases h
    refine ⟨Nat.le_refl _, ?_⟩
    rw [Nat.sub_self]
    simpa [flatDs] using Cs.nil
  | f :: fs, off, n, cs, xs, hc, hb, hn, h => by
    simp only [contig] at hc
    split at hc
    · rename_i hoff
      simp only [List.mapM_cons, Option.bind_eq_bind, Option.bind_eq_some_iff] at h
      obtain ⟨⟨d, ps⟩, h3, ys, h4, h5⟩ := h
      cases h5
      simp only [List.all_cons, Bool.and_eq_true] at hb
      obtain ⟨h6, h7⟩ := flat_fields ih fs _ n cs ys hc hb.2 hn h4
      have h8 := ih f.type hb.1 _ _ _ h3
      refine ⟨by omega, ?_⟩
      rw [hoff] at h8
      have e : (cs.drop off).take (n - off) = (cs.drop off).take (P.cellsOf f.type) ++ (cs.drop (off + P.cellsOf f.type)).take (n - (off + P.cellsOf f.type)) := by
        rw [show n - off = P.cellsOf f.type + (n - (off + P.cellsOf f.type)) from by omega, List.take_add, List.drop_drop]
      rw [e]
      simp only [List.map_cons, flatDs]
      exact h8.append h7
    · cases hc
theorem flat_rows {e : TypeId} {sz : Nat} : ∀ (n : Nat) (cs : List Value) (xs : List (DataW Unit × List MemPlace)), xs.length = n → cs.length = n * sz →
    (∀ i (h : i < n) (h' : i < xs.length), Cs w ((cs.drop (i * sz)).take sz) (flatD (xs[i]).1)) → Cs w cs (flatDs (xs.map (·.1)))
  | 0, cs, xs, hx, hc, _ => by
    obtain rfl := List.length_eq_zero_iff.1 hx
    obtain rfl := List.length_eq_zero_iff.1 (by simpa using hc)
    simpa [flatDs] using Cs.nil
  | n + 1, cs, x :: xs, hx, hc, h => by
    have h0 := h 0 (by omega) (by simp)
    simp only [Nat.zero_mul, List.drop_zero, List.getElem_cons_zero] at h0
    have h1 := flat_rows (e := e) (sz := sz) n (cs.drop sz) xs (by simpa using hx) (by rw [List.length_drop, hc, Nat.succ_mul]; omega) (fun i hi hi' => by
      have := h (i + 1) (by omega) (by simp; omega)
      simp only [List.getElem_cons_succ] at this
      rw [List.drop_drop, show sz + i * sz = (i + 1) * sz from by rw [Nat.succ_mul]; omega]
      exact this)
    rw [← List.take_append_drop sz cs]
    simp only [List.map_cons, flatDs]
    exact h0.append h1
  | n + 1, cs, [], hx, hc, h => by simp at hx
theorem trod_flat : ∀ (k : Nat) (t : TypeId), flatB P k t = true → ∀ (fuel : Nat) (cs : List Value) (d : DataW Unit) (ps : List MemPlace), trodU P w held fuel t cs = some (d, ps) → Cs w cs (flatD d)
  | 0, t, hb, _, _, _, _, _ => by simp [flatB] at hb
  | k + 1, t, hb, 0, cs, d, ps, h => by simp [trodU, DataW.trod] at h
  | k + 1, t, hb, fuel + 1, cs, d, ps, h => by
    unfold flatB at hb
    unfold trodU at h
    cases hu : P.underlying t with
    | none => rw [hu] at hb; cases hb
    | some desc =>
      rw [hu] at hb
      cases desc with
      | bool =>
        unfold DataW.trod at h
        rw [hu] at h
        split at h <;> first | (simp only [reduceCtorEq, Option.some.injEq] at *; done) | skip
        all_goals first
          | (simp only [Option.some.injEq, Prod.mk.injEq] at h
             obtain ⟨rfl, rfl⟩ := h
             exact Cs.one rfl (.v _))
          | cases h
      | int kd =>
        unfold DataW.trod at h
        rw [hu] at h
        split at h <;> first | (simp only [reduceCtorEq, Option.some.injEq] at *; done) | skip
        all_goals first
          | (rename_i k1 k2 n e1
             simp only [Option.some.injEq, TypeDesc.int.injEq] at e1
             subst e1
             split at h
             · rename_i hc
               obtain ⟨rfl, hw⟩ := hc
               simp only [Option.some.injEq, Prod.mk.injEq] at h
               obtain ⟨rfl, rfl⟩ := h
               exact Cs.one rfl (.v _)
             · cases h)
          | cases h
      | string =>
        unfold DataW.trod at h
        rw [hu] at h
        split at h <;> first | (simp only [reduceCtorEq, Option.some.injEq] at *; done) | skip
        all_goals first
          | (split at h
             · simp only [Option.some.injEq, Prod.mk.injEq] at h
               obtain ⟨rfl, rfl⟩ := h
               refine Cs.one rfl ?_
               simp only [Array.toArray_toList]
               exact .v _
             · cases h)
          | cases h
      | slice e =>
        simp only [Bool.and_eq_true, decide_eq_true_eq] at hb
        obtain ⟨h0, hbe⟩ := hb
        unfold DataW.trod at h
        rw [hu] at h
        split at h <;> first | (simp only [reduceCtorEq, Option.some.injEq] at *; done) | skip
        all_goals first
          | (simp only [Option.some.injEq, Prod.mk.injEq] at h
             obtain ⟨rfl, rfl⟩ := h
             refine Cs.one rfl ?_
             exact .lst false 0 [] none 0 (fun _ => undef) (Nat.le_refl _) (by simp) (fun h => absurd rfl h) (fun j h => absurd h (by simp)) (fun j h => absurd h (by simp)))
          | skip
        all_goals first | (cases h; done) | skip
        rename_i e' a len cap e1
        simp only [Option.some.injEq, TypeDesc.slice.injEq] at e1
        subst e1
        generalize hsz : P.cellsOf e = sz at *
        simp only [] at h
        split at h
        · rename_i hc
          rw [Option.bind_eq_some_iff] at h
          obtain ⟨xs, h1, h2⟩ := h
          obtain ⟨h3, h4⟩ := mapM_some h1
          simp only [List.length_range] at h3
          rw [Option.map_eq_some_iff] at h2
          obtain ⟨rest, _, h2⟩ := h2
          simp only [Prod.mk.injEq] at h2
          obtain ⟨rfl, _⟩ := h2
          have key : ∀ i (hi : i < len) (hi' : i < xs.length), ∃ (c : List Value), Cs w c (flatD (xs[i]).1) ∧ c.length = sz ∧ ∀ j (h : j < c.length), w.cell? ((a.add (i * sz)).add j) = some c[j] := by
            intro i hi hi'
            have h5 := h4 i (by simpa using hi) hi'
            simp only [List.getElem_range, Option.bind_eq_some_iff] at h5
            obtain ⟨c, h6, h7⟩ := h5
            obtain ⟨h8, h9⟩ := cells_some h6
            exact ⟨c, trod_flat k e hbe fuel c _ _ (show _ = some ((xs[i]).1, (xs[i]).2) from h7), h8, h9⟩
          have gather : ∀ n, n ≤ len → ∃ (c : List Value), Cs w c (flatDs ((xs.take n).map (·.1))) ∧ c.length = n * sz ∧ ∀ j (h : j < c.length), w.cell? (a.add j) = some c[j] := by
            intro n
            induction n with
            | zero => intro _; exact ⟨[], by simpa [flatDs] using Cs.nil, by simp, fun j h => absurd h (by simp)⟩
            | succ n ih =>
              intro hn
              obtain ⟨c, h7, h8, h9⟩ := ih (by omega)
              obtain ⟨c', h11, h12, h13⟩ := key n (by omega) (by omega)
              refine ⟨c ++ c', ?_, by simp [h8, h12, Nat.succ_mul], ?_⟩
              · rw [List.take_succ_eq_append_getElem (by omega), List.map_append, flatDs_append]
                simpa [flatDs] using h7.append h11
              · intro j hj
                by_cases hjc : j < c.length
                · rw [List.getElem_append_left hjc]; exact h9 j hjc
                · simp only [List.length_append] at hj
                  rw [List.getElem_append_right (by omega)]
                  rw [← h13 (j - c.length) (by omega)]
                  congr 1
                  unfold Addr.add
                  by_cases hz : n * sz = 0
                  · have hc0 : c.length = 0 := by omega
                    rw [if_pos hz, hc0, Nat.sub_zero]
                  · have hj0 : j ≠ 0 := by omega
                    rw [if_neg hz, if_neg hj0]
                    by_cases hk : j - c.length = 0
                    · rw [if_pos hk]
                      have : j = n * sz := by omega
                      rw [this]
                    · rw [if_neg hk]
                      simp only [Addr.mk.injEq, true_and, and_true]
                      omega
          obtain ⟨c, h7, h8, h9⟩ := gather len (Nat.le_refl _)
          rw [List.take_of_length_le (by omega)] at h7
          refine Cs.one rfl ?_
          have hlen : (flatDs (xs.map (·.1))).length = len * sz := by rw [← h7.1, h8]
          rw [show (xs.map (·.1)).length = len from by simp [h3]]
          refine .lst false len _ (some a) cap (fun j => c.getD j undef) hc.2.1 (by simp) (fun hne => ?_) (fun j hj => ?_) (fun j hj => ?_)
          · have hpos : 0 < c.length := by
              have : (flatDs (xs.map (·.1))).length ≠ 0 := fun e => hne (List.length_eq_zero_iff.1 e)
              omega
            have hsp : a.spot = none := by
              have := h9 0 hpos
              simp only [Addr.add, if_true] at this
              unfold World.cell? at this
              split at this
              · split at this
                · cases this
                · rename_i hns
                  cases hs : a.spot with
                  | none => rfl
                  | some x => rw [hs] at hns; simp at hns
              · cases this
            refine ⟨a.block, a.off, by cases a; simp only at hsp; subst hsp; rfl, fun h => h.elim, fun j hj => ?_⟩
            have hjc : j < c.length := by omega
            have := h9 j hjc
            rw [List.getD_eq_getElem?_getD, List.getElem?_eq_getElem hjc, Option.getD_some, ← this]
            congr 1
            unfold Addr.add
            split
            · rename_i hj0
              subst hj0
              cases a; simp only at hsp; subst hsp; rfl
            · rfl
          · have hjc : j < c.length := by omega
            rw [List.getD_eq_getElem?_getD, List.getElem?_eq_getElem hjc]
            exact (h7.2 j hjc hj).1
          · have hjc : j < c.length := by omega
            rw [List.getD_eq_getElem?_getD, List.getElem?_eq_getElem hjc]
            exact (h7.2 j hjc hj).2
        · cases h
      | array n e =>
        simp only [Bool.and_eq_true, decide_eq_true_eq] at hb
        obtain ⟨h0, hbe⟩ := hb
        obtain ⟨xs, m, hm, hx, hl, hn, hel⟩ := DataW.trod_array hu h
        obtain rfl : fuel = m := by omega
        simp only [Prod.mk.injEq] at hx
        obtain ⟨rfl, _⟩ := hx
        simp only [flatD]
        refine flat_rows (e := e) (sz := P.cellsOf e) n cs xs hn (by omega) (fun i hi hi' => ?_)
        have h1 := hel i hi
        rw [List.getElem?_eq_getElem hi'] at h1
        exact trod_flat k e hbe fuel _ _ _ (show _ = some ((xs[i]).1, (xs[i]).2) from h1)
      | struct fs =>
        simp only [Bool.and_eq_true, beq_iff_eq] at hb
        have h' : (if cs.length = P.cellsOf t then (fs.toList.mapM fun f => trodU P w held fuel f.type ((cs.drop f.offset).take (P.cellsOf f.type))).map fun xs => (DataW.agg (xs.map (·.1)), xs.flatMap (·.2)) else none) = some (d, ps) := by
          rw [← h, DataW.trod]
          rw [hu]
        split at h'
        · rename_i hc
          simp only [Option.map_eq_some_iff] at h'
          obtain ⟨xs, h3, h4⟩ := h'
          cases h4
          obtain ⟨_, h5⟩ := flat_fields (k := k) (fuel := fuel) (fun t' ht' cs' d' ps' h' => trod_flat k t' ht' fuel cs' d' ps' h') fs.toList 0 _ cs xs hb.1 hb.2 (by omega) h3
          rw [List.drop_zero, Nat.sub_zero, List.take_of_length_le (by omega)] at h5
          simpa [flatD] using h5
        · cases h'
      | _ => simp at hb
theorem laid_glob {n : String} {d : DataW Unit} {g : Nat} {t : TypeId} {k : Nat} (hp : (([(n, d)] : List (String × DataW Unit)).all fun x => x.2.handleName?.isNone) = true) (hg : P.globalNamed n = some g) (ht : (P.globals[g]?).map (·.type) = some t) (hb : flatB P k t = true)
    (h : laidMetH P [(n, d)] w) : RepP w NoX (.pointer (some ⟨g, 0, none⟩)) (.iptr (flatD d) 0) := by
  rw [MakeChecks.laidMetH_plain _ _ _ hp] at h
  obtain ⟨ps, ⟨g', t', cs, fuel, p, q, hg', ht', hv, hd, _⟩, _⟩ := h
  obtain rfl := Option.some.inj (hg.symm.trans hg')
  obtain rfl := Option.some.inj (ht.symm.trans ht')
  have hc := trod_flat (held := false) k t hb fuel cs.toList d p hd
  have hlen : cs.size = (flatD d).length := by rw [← hc.1]; simp
  refine .iptr (flatD d) 0 g 0 (fun j => cs.getD j undef) (fun _ => ⟨fun h => h.elim, fun j hj => ?_⟩) (fun j hj => ?_) (fun j hj => ?_)
  · have := World.var?_cell hg hv j
    rw [Nat.zero_add, this]
    have hj' : j < cs.size := by omega
    simp [hj']
  · have hj' : j < cs.toList.length := by simp; omega
    have := (hc.2 j hj' hj).1
    simpa [show j < cs.size from by omega] using this
  · have hj' : j < cs.toList.length := by simp; omega
    have := (hc.2 j hj' hj).2
    simpa [show j < cs.size from by omega] using this
end
end Go.Ev

set_option linter.unusedVariables false
set_option linter.unusedSimpArgs false
namespace Go.Ev
section
variable {P : Program} {H : List Ob} {t : TypeId} {s : ByteArray} {a b : Int}
theorem prog_pure : pureRun P program = some P := rfl
theorem pure_pure {α : Type} {x : α} : pureRun P (pure x) = some x := rfl
theorem pure_map {α β : Type} {g : α → β} {x : Sem α} : pureRun P (g <$> x) = (pureRun P x).map g := by
  show pureRun P (x >>= fun a => pure (g a)) = _
  rw [pb_]
  cases pureRun P x <;> rfl
theorem bound_str {i : Int} {y : Nat} {c : BoundsCode} (h0 : 0 ≤ i) (h1 : i ≤ y) : pureRun P (Instr.sliceBound (.int .i64 i) y c) = some i.toNat := by
  rw [sliceBound_run h0 h1]; rfl
theorem sliceD_slh (hu : P.underlying t = some .string) (h0 : 0 ≤ a) (h1 : a ≤ b) (h2 : b ≤ (s.size : Int)) :
    sliceD P H t (.p (.v (.string s))) (some (.p (.v (.int .i64 a)))) (some (.p (.v (.int .i64 b)))) none = some (.p (.v (.string (s.extract a.toNat b.toNat)))) := by
  unfold sliceD
  simp only [hu, concD, conc, Option.map_some, Option.bind_some]
  have e1 := bound_str (P := P) (c := .sliceAlen) (show 0 ≤ b by omega) h2
  have e2 := bound_str (P := P) (c := .sliceB) h0 (show a ≤ (b.toNat : Int) by omega)
  simp [Instr.sliceAt, Instr.slice, Instr.sliceBounds, pb_, prog_pure, pure_pure, pure_map, underlying, hu, e1, e2]
theorem sliceD_slo (hu : P.underlying t = some .string) (h0 : 0 ≤ a) (h2 : a ≤ (s.size : Int)) :
    sliceD P H t (.p (.v (.string s))) (some (.p (.v (.int .i64 a)))) none none = some (.p (.v (.string (s.extract a.toNat s.size)))) := by
  unfold sliceD
  simp only [hu, concD, conc, Option.map_some, Option.map_none, Option.bind_some]
  have e2 := bound_str (P := P) (c := .sliceB) h0 h2
  simp [Instr.sliceAt, Instr.slice, Instr.sliceBounds, pb_, prog_pure, pure_pure, pure_map, underlying, hu, e2]
theorem sliceD_shi (hu : P.underlying t = some .string) (h0 : 0 ≤ b) (h2 : b ≤ (s.size : Int)) :
    sliceD P H t (.p (.v (.string s))) none (some (.p (.v (.int .i64 b)))) none = some (.p (.v (.string (s.extract 0 b.toNat)))) := by
  unfold sliceD
  simp only [hu, concD, conc, Option.map_some, Option.map_none, Option.bind_some]
  have e1 := bound_str (P := P) (c := .sliceAlen) h0 h2
  simp [Instr.sliceAt, Instr.slice, Instr.sliceBounds, pb_, prog_pure, pure_pure, pure_map, underlying, hu, e1]
theorem idx_iptr {e sz n o : Nat} {cs : List Pv} {i : Int} (hu : P.underlying t = some (.array n e)) (hz : szOf P e = some sz) (h3 : sz ≠ 0) (h0 : 0 ≤ i) (h1 : i < (n : Int)) :
    idxD P t (.p (.iptr cs o)) (.p (.v (.int .i64 i))) = some (.p (.iptr cs (o + i.toNat * sz))) := by
  unfold idxD
  simp only [intD, Option.bind_some, hu, hz]
  rw [if_pos ⟨h0, h1, h3⟩]
def byteAt (s : ByteArray) (c : Int) : Int := firstIdx s c.toNat.toUInt8
theorem index_byte (s : ByteArray) (c : Int) : pureRun P (Extern.BytealgIndexByte.indexByte #[.string s, .int .u8 c]) = some (.int .i64 (byteAt s c)) := by
  change pureRun P (do
    let b ← Extern.Bytes.bytesOf (.string s)
    let c' ← Extern.Bytes.asByte (.int .u8 c)
    match (List.range b.size).find? fun i => b[i]! == c' with
    | some i => pure (goInt i)
    | none => pure (goInt (-1))) = _
  simp only [Extern.Bytes.bytesOf, Extern.Bytes.asByte, byteAt, firstIdx, pb_, pureRun, pure, Option.bind_some]
  cases (List.range s.size).find? fun i => s[i]! == c.toNat.toUInt8 <;> rfl
end
section
variable [Gl] {P : Program} {A : Ann} {H : List Ob} {f : FuncId}
theorem callD_byte {b : Bool} {s : ByteArray} {c : Int} (hf : A.outer f = some (.pure Extern.BytealgIndexByte.indexByte)) (hm : A.muts f = false) (hr : A.ros f = false) :
    callD (callW P A) A H f [.p (.v (.string s)), .p (.v (.int .u8 c))] = some (.p (.v (.int .i64 (byteAt s c))), none) := by
  refine callD_fun (args := [.v (.string s), .v (.int .u8 c)]) rfl hm hr ?_
  refine callW_some.2 ⟨1, ?_⟩
  simp only [callN, hf, extD, List.map_cons, List.map_nil, wk, concL, concD, conc, Option.bind_some]
  rw [index_byte]; rfl
end
section
variable {P : Program} {H : List Ob}
theorem storeD_gfn {t : TypeId} {id off : Nat} {f : Fn} {l : List Dv} (hs : szOf P t = some 1) : storeD P H t (.ptr id off) (.fn f l) = stgOb H id off 1 [.fn f l] H[id]? := by
  simp only [storeD, hs, cellsD]
  cases H[id]? with
  | none => rfl
  | some o => cases o <;> rfl
theorem boxD_fn {f : Fn} {l : List Pv} : boxD H (.p (.fn f l)) = some (.ptr H.length 0, some (H ++ [.var [.p (.fn f l)]])) := rfl
end
end Go.Ev

