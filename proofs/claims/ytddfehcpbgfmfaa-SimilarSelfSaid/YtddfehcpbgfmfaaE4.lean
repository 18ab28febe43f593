/- A part of the proof: E4. No conditions of its own. -/
import Derived.Test.YtddfehcpbgfmfaaE3
set_option linter.unusedVariables false
namespace Go.Ev
section
variable {P : Program} {A : Ann} {H : List Ob} {c : CallF} {f : FuncId}
theorem nilD_ne {t e n : Nat} {b : Bool} {cells : List Pv} (hu : P.underlying t = some (.slice e)) (h : cells ≠ []) : nilD P .eql t (.p (.lst b n cells)) = some (bv false) := by
  cases cells with
  | nil => exact absurd rfl h
  | cons x l => simp only [nilD, hu]
theorem encL_ne {T : Type} {en : T → List Pv} {sz : Nat} (he : ∀ x, (en x).length = sz) (hz : sz ≠ 0) {l : List T} (h : l ≠ []) : encL en l ≠ [] := by
  cases l with
  | nil => exact absurd rfl h
  | cons x l =>
    intro e
    have := congrArg List.length e
    rw [encL_cons, List.length_append, he] at this
    simp only [List.length_nil] at this
    omega
theorem callD_new {ds : List Dv} {args : List Pv} {n sz : Nat} {cs : List Pv} (hd : ds = args.map .p) (hm : A.muts f = false) (hr : A.ros f = false) (h : c f (args.map fun x => .p (wk x)) [] = some (.ref 0 0 n sz, [.arr cs])) :
    callD c A H f ds = some (.ref H.length 0 n sz, some (H ++ [.arr cs])) := by
  subst hd
  have hg : ∀ (l : List Pv), giveD H (l.map .p) = ((l.map wk).map .p, []) := by
    intro l
    induction l with
    | nil => rfl
    | cons x l ih => rw [List.map_cons, giveD_p, ih]; rfl
  have e2 : ∀ H', collect H' 64 [] [] = [] := fun _ => rfl
  simp only [callD, hm, hr, Bool.or_self, Bool.false_eq_true, if_false, hg, freezeAll, refs_pure, e2]
  rw [if_pos (show accOk H [] [] = true from rfl), mapIds_pure]
  have e3 : lentD A f H [] = [] := by simp only [lentD, hm]; rfl
  have e4 : (args.map wk).map Dv.p = args.map fun x => .p (wk x) := by rw [List.map_map]; rfl
  rw [e3, e4, h]
  simp only [Option.bind_some]
  have e6 : ((false || ([] : List Nat).isEmpty) && decide (([] : List Nat).length ≤ [Ob.arr cs].length) && roBack (takeAlong H []) [.arr cs]) = true := rfl
  rw [if_pos e6]
  simp [mapIds, backD, putBack, obMap]
theorem clone_nil {args : List Dv} {sz : Nat} (hc : A.clone f = some sz) (he : emptyArg args H = true) : callW P A f args H = some (.ref 0 0 0 sz, [.arr []]) := by
  refine callW_some.2 ⟨1, ?_⟩
  simp only [callN, hc, he, if_true]
end
end Go.Ev
namespace Go.Ev
section
variable {P : Program} {A : Ann} {H : List Ob} {c : CallF} {f : FuncId}
def stgOb (H : List Ob) (id off n : Nat) (ds : List Dv) (o : Option Ob) : Option (List Ob) :=
  match o with
  | some (.var cs) => if ds.length = n ∧ off + n ≤ cs.length then some (H.set id (.var (setAt cs off ds))) else none
  | some (.arr cs) =>
    match purifys H ds with
    | some (xs, l) => if xs.length = n ∧ off + n ≤ cs.length ∧ ¬ id ∈ l then some ((freezeAll H l).set id (.arr (setAt cs off xs))) else none
    | none => none
  | _ => none
theorem storeD_gagg {t : TypeId} {id off n : Nat} {ds : List Dv} (hs : szOf P t = some n) : storeD P H t (.ptr id off) (.agg ds) = stgOb H id off n ds H[id]? := by
  simp only [storeD, hs, cellsD]
  cases H[id]? with
  | none => rfl
  | some o => cases o <;> rfl
theorem storeD_gref {t : TypeId} {id off j o m e : Nat} (hs : szOf P t = some 1) : storeD P H t (.ptr id off) (.ref j o m e) = stgOb H id off 1 [.ref j o m e] H[id]? := by
  simp only [storeD, hs, cellsD]
  cases H[id]? with
  | none => rfl
  | some o => cases o <;> rfl
theorem purifys_nil : purifys H [] = some ([], []) := rfl
theorem purifys_pc {x : Pv} {ds : List Dv} {xs : List Pv} {l : List Nat} (h : purifys H ds = some (xs, l)) : purifys H (.p x :: ds) = some (x :: xs, l) := by
  simp only [purifys, purify, h, List.nil_append]
theorem purifys_rc {id sz n : Nat} {T : Type} {en : T → List Pv} {x : List T} {ds : List Dv} {xs : List Pv} {l : List Nat} (he : ∀ x, (en x).length = sz) (hid : H[id]? = some (.arr (encL en x))) (hn : n = x.length) (h : purifys H ds = some (xs, l)) :
    purifys H (.ref id 0 n sz :: ds) = some (.lst false x.length (encL en x) :: xs, id :: l) := by
  simp only [purifys, purify_enc he hid hn, h, List.cons_append, List.nil_append]
theorem purify1_agg {ds : List Dv} {xs : List Pv} {l : List Nat} (h : purifys H ds = some (xs, l)) : purifyD H (oneD [.agg ds]) = some (.agg xs, l) := by
  simp only [oneD, purifyD, h, Option.map_some]
theorem lkOb_roa {T : Type} {en : T → List Pv} {sz : Nat} (hs : ∀ x, (en x).length = sz) {l : List T} {i : Int} {v : T} (h : rd l i = some v) : lkOb (some (.roa (encL en l))) (i.toNat * sz) sz = some (.p (.agg (en v))) := by
  obtain ⟨h1, h2⟩ := encL_seg hs l i.toNat v (rd_some h).2.2
  simp only [lkOb, Option.bind_some, Ob.cells?]
  rw [if_pos h2, h1]
theorem ldOb_roa {cs : List Pv} {off : Nat} : ldOb (some (.roa cs)) off = (cs[off]?).map .p := rfl
theorem callD_lend {ds dsw ds' : List Dv} {i : Nat} {ids : List Nat} {os h' : List Ob} {x : Pv} (hm : A.muts f = false) (hr : A.ros f = true) (hw : ds.map wkDv = dsw) (hacc : collect H 64 (refsOfs dsw) [] = i :: ids) (hok : accOk H (i :: ids) (refsOfs dsw) = true)
    (hds : mapIdss (List.idxOf · (i :: ids)) dsw = ds') (hos : (takeAlong H (i :: ids)).map roOf = os) (h : c f ds' os = some (.p x, h')) : callD c A H f ds = some (.p x, none) := by
  simp only [callD, hm, hr, Bool.or_true, if_true, hw, freezeAll, hacc, hok]
  have e4 : lentD A f H (i :: ids) = os := by simp only [lentD, hm, Bool.false_eq_true, if_false, hos]
  change (c f (mapIdss (List.idxOf · (i :: ids)) dsw) (lentD A f H (i :: ids))).bind _ = _
  rw [hds, e4, h]
  simp [someIf]
end
end Go.Ev
namespace Go.Ev
theorem finish_isH {P : Program} {A : Ann} {f : FuncId} {fn : Func} {s : St} {ds : List Dv} {x y : Pv} {l : List Nat} {H' : List Ob} (hk : A.keeps f = false) (h1 : resD P s fn.results.toList = some ds) (h2 : purifyD s.heap (oneD ds) = some (x, l)) (hy : wk x = y)
    (h3 : (if (accOk (freezeAll s.heap l) (collect (freezeAll s.heap l) 256 (List.range s.nin) []) [] && decide ((collect (freezeAll s.heap l) 256 (List.range s.nin) []).take s.nin = List.range s.nin)) = true then some (takeAlong (freezeAll s.heap l) (collect (freezeAll s.heap l) 256 (List.range s.nin) [])) else none) = some H') :
    finishD P A f fn s = some (.p y, H') := by
  subst hy
  unfold finishD
  rw [h1]
  simp only [Option.bind_some, hk, Bool.false_eq_true, if_false, h2, Option.map_some, refsOf, List.append_nil, mapIds]
  by_cases hc : (accOk (freezeAll s.heap l) (collect (freezeAll s.heap l) 256 (List.range s.nin) []) [] && decide ((collect (freezeAll s.heap l) 256 (List.range s.nin) []).take s.nin = List.range s.nin)) = true
  · rw [if_pos hc] at h3; rw [if_pos hc]; cases h3; rfl
  · rw [if_neg hc] at h3; cases h3
theorem dynT {ops : Array Oper} {n : Nat} {pairs : List (Nat × Nat)} {s : St} (h : dynB ops n pairs s = (true && true)) : dynB ops n pairs s = true := h
theorem bsm {α β : Type} {x : Option α} {f : α → Option β} {b : β} (h : x.bind f = some b) : ∃ a, x = some a ∧ f a = some b := Option.bind_eq_some_iff.1 h
end Go.Ev

