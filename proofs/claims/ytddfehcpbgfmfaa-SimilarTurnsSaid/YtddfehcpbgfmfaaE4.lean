/- A part of the proof: E4. No conditions of its own. -/
import Derived.Test.YtddfehcpbgfmfaaE3
set_option linter.unusedVariables false
namespace Go.Ev
section
variable {P : Program} {A : Ann} {H : List Ob} {c : CallF} {f : FuncId}
def stgOb (H : List Ob) (id off n : Nat) (ds : List Dv) (o : Option Ob) : Option (List Ob) :=
  match o with
  | some (.var cs) => if ds.length = n ∧ off + n ≤ cs.length then some (H.set id (.var (setAt cs off ds))) else none
  | some (.arr cs) =>
    match purifys H ds with
    | some (xs, l) => if xs.length = n ∧ off + n ≤ cs.length ∧ ¬ id ∈ l then some ((freezeAll H l).set id (.arr (setAt cs off xs))) else none
    | none => none
  | _ => none
theorem storeD_gagg {t : TypeId} {id off n : Nat} {ds : List Dv} (hs : szOf P t = some n) : storeD P H t (.ptr id off) (.agg ds) = stgOb H id off n ds H[id]? := by
  simp only [storeD, hs, cellsD]
  cases H[id]? with
  | none => rfl
  | some o => cases o <;> rfl
theorem storeD_gref {t : TypeId} {id off j o m e : Nat} (hs : szOf P t = some 1) : storeD P H t (.ptr id off) (.ref j o m e) = stgOb H id off 1 [.ref j o m e] H[id]? := by
  simp only [storeD, hs, cellsD]
  cases H[id]? with
  | none => rfl
  | some o => cases o <;> rfl
theorem purifys_nil : purifys H [] = some ([], []) := rfl
theorem purifys_pc {x : Pv} {ds : List Dv} {xs : List Pv} {l : List Nat} (h : purifys H ds = some (xs, l)) : purifys H (.p x :: ds) = some (x :: xs, l) := by
  simp only [purifys, purify, h, List.nil_append]
theorem purifys_rc {id sz n : Nat} {T : Type} {en : T → List Pv} {x : List T} {ds : List Dv} {xs : List Pv} {l : List Nat} (he : ∀ x, (en x).length = sz) (hid : H[id]? = some (.arr (encL en x))) (hn : n = x.length) (h : purifys H ds = some (xs, l)) :
    purifys H (.ref id 0 n sz :: ds) = some (.lst false x.length (encL en x) :: xs, id :: l) := by
  simp only [purifys, purify_enc he hid hn, h, List.cons_append, List.nil_append]
theorem purify1_agg {ds : List Dv} {xs : List Pv} {l : List Nat} (h : purifys H ds = some (xs, l)) : purifyD H (oneD [.agg ds]) = some (.agg xs, l) := by
  simp only [oneD, purifyD, h, Option.map_some]
end
end Go.Ev
namespace Go.Ev
theorem dynT {ops : Array Oper} {n : Nat} {pairs : List (Nat × Nat)} {s : St} (h : dynB ops n pairs s = (true && true)) : dynB ops n pairs s = true := h
end Go.Ev

