/- Values: constants, cells, aggregates, pure runs; what an operation's result must be. -/
import Derived.Test.YtgjhagehbfhioaaEv2
set_option linter.unusedVariables false
set_option linter.unusedSimpArgs false
namespace Go.Ev

theorem pureRun_run {P : Program} {α : Type} : ∀ {s : Sem α} {a : α} (w : World), pureRun P s = some a → s.run P w = .ok a w
  | .pure _, _, w, h => by simp only [pureRun, Option.some.injEq] at h; subst h; rfl
  | .program k, _, w, h => by
    simp only [pureRun] at h
    simp only [Sem.run]
    exact pureRun_run w h
  | .mark _ k, _, w, h => by
    simp only [pureRun] at h
    simp only [Sem.run]
    exact pureRun_run w h
  | .load .., _, _, h => by simp [pureRun] at h
  | .store .., _, _, h => by simp [pureRun] at h
  | .new .., _, _, h => by simp [pureRun] at h
  | .shape .., _, _, h => by simp [pureRun] at h
  | .freeze .., _, _, h => by simp [pureRun] at h
  | .frozen .., _, _, h => by simp [pureRun] at h
  | .getObj .., _, _, h => by simp [pureRun] at h
  | .setObj .., _, _, h => by simp [pureRun] at h
  | .choose .., _, _, h => by simp [pureRun] at h
  | .sys .., _, _, h => by simp [pureRun] at h
  | .halt _, _, _, h => by simp [pureRun] at h

section
variable {X M : Nat → Prop} {w : World} {H : List Ob} {ρ : Pl}

theorem cellOf_ok (x : Value) : RepP w M x (cellOf x) := by
  unfold cellOf
  split
  · exact .lst true 0 [] none 0 (fun _ => undef) (Nat.le_refl _) (fun _ => rfl) (fun h => absurd rfl h) (fun j hj => absurd hj (by simp)) (fun j hj => absurd hj (by simp))
  · exact .v _
theorem ofVal_ok (x : Value) : RepP w M x (ofVal x) := by
  unfold ofVal
  split
  · rename_i cs
    split
    · rename_i h
      refine .agg cs _ (by simp) (fun j hj => ?_) (fun j hj => ?_)
      · simp only [List.length_map, Array.length_toList] at hj
        have := List.all_eq_true.1 h (cs.getD j undef) (by simp [hj])
        exact this
      · simp only [List.length_map, Array.length_toList] at hj
        simp only [List.getElem_map, Array.getElem_toList]
        have : cs.getD j undef = cs[j] := by simp [hj]
        rw [this]
        exact cellOf_ok _
    · exact .v _
  · exact cellOf_ok _

/-- The slots of a frame. -/
def TOk (w : World) (M : Nat → Prop) (H : List Ob) (ρ : Pl) (vs : Array Value) (ds : List Dv) : Prop :=
  vs.size = ds.length ∧ ∀ j (h : j < ds.length), RepD w M H ρ (vs.getD j undef) ds[j]
/-- Cells. -/
def COk (w : World) (M : Nat → Prop) (H : List Ob) (ρ : Pl) (vs : Array Value) (ds : List Dv) : Prop :=
  vs.size = ds.length ∧ ∀ j (h : j < ds.length), (vs.getD j undef).oneCell' = true ∧ RepD w M H ρ (vs.getD j undef) ds[j]

theorem TOk.get {vs : Array Value} {ds : List Dv} (h : TOk w M H ρ vs ds) (t : Nat) : RepD w M H ρ (vs.getD t undef) (ds.getD t .junk) := by
  by_cases ht : t < ds.length
  · have := h.2 t ht
    simpa [List.getD, ht] using this
  · have : ds.getD t .junk = .junk := by simp [List.getD, Nat.le_of_not_lt ht]
    rw [this]; exact .junk _
theorem eval_ok {a : Act} {tm : List Dv} (h : TOk w M H ρ a.tmps tm) (x : Operand) : RepD w M H ρ (a.eval x) (evalO tm x) := by
  cases x with
  | tmp t => exact h.get t
  | const v => exact .p _ _ (ofVal_ok v)
  | global g => exact .junk _
  | func f => exact .p _ _ (.fn (.func f) #[] [] rfl (fun j hj => absurd hj (by simp)))
theorem TOk.put {a : Act} {tm : List Dv} (h : TOk w M H ρ a.tmps tm) {v : Value} {d : Dv} (hv : RepD w M H ρ v d) (dst : Option Tmp) : TOk w M H ρ (a.put dst v).tmps (putD tm dst d) := by
  cases dst with
  | none => exact h
  | some t =>
    refine ⟨by simp [Act.put, putD, h.1], fun j hj => ?_⟩
    simp only [Act.put, putD, List.length_set] at hj ⊢
    have hj' : j < a.tmps.size := by rw [h.1]; exact hj
    by_cases ht : t = j
    · subst ht
      have e1 : (a.tmps.setIfInBounds t v).getD t undef = v := by simp [hj']
      have e2 : (tm.set t d)[t]'(by simpa using hj) = d := by simp
      rw [e1, e2]; exact hv
    · have e1 : (a.tmps.setIfInBounds t v).getD j undef = a.tmps.getD j undef := by simp [hj', Array.getElem_setIfInBounds, ht]
      have e2 : (tm.set t d)[j]'(by simpa using hj) = tm[j] := by simp [List.getElem_set, ht]
      rw [e1, e2]; exact h.2 j hj
theorem TOk.evo {X : Nat → Prop} {w' : World} {H' : List Ob} {ρ' : Pl} (he : Evo H.length w H ρ w' H' ρ') {vs : Array Value} {ds : List Dv} (h : TOk w (Mut X H ρ) H ρ vs ds) : TOk w' (Mut X H' ρ') H' ρ' vs ds :=
  ⟨h.1, fun j hj => (h.2 j hj).evo he⟩
theorem put_defers (a : Act) (dst : Option Tmp) (v : Value) : (a.put dst v).defers = a.defers := by cases dst <;> rfl

theorem concs_spec : ∀ {cs : List Pv} {l : List Value}, concs cs = some l → cs = l.map .v
  | [], l, h => by simp [concs] at h; subst h; rfl
  | .v x :: cs, l, h => by
    simp only [concs, Option.map_eq_some_iff] at h
    obtain ⟨xs, h1, rfl⟩ := h
    rw [concs_spec h1]; rfl
  | .lst .. :: _, _, h => by simp [concs] at h
  | .agg .. :: _, _, h => by simp [concs] at h
  | .tup .. :: _, _, h => by simp [concs] at h
  | .iptr .. :: _, _, h => by simp [concs] at h
  | .fn .. :: _, _, h => by simp [concs] at h
theorem RepP.v_eq {x y : Value} (h : RepP w M x (.v y)) : x = y := by cases h; rfl
theorem conc_ok {x : Value} {y : Pv} (h : RepP w M x y) {u : Value} (hc : conc y = some u) : x = u := by
  cases h with
  | v x => simpa [conc] using hc
  | agg vs cs hl h1 hr =>
    simp only [conc, Option.map_eq_some_iff] at hc
    obtain ⟨l, h2, rfl⟩ := hc
    have := concs_spec h2
    subst this
    congr 1
    apply Array.ext
    · simp [hl]
    · intro i hi hi'
      have hi2 : i < (l.map Pv.v).length := by simpa using hi'
      have := hr i hi2
      simp only [List.getElem_map] at this
      have := this.v_eq
      simpa [hi] using this
  | lst => simp [conc] at hc
  | tup => simp [conc] at hc
  | iptr => simp [conc] at hc
  | fn => simp [conc] at hc
theorem concD_ok {x : Value} {d : Dv} (h : RepD w M H ρ x d) {u : Value} (hc : concD d = some u) : x = u := by
  cases h with
  | p x y h => exact conc_ok h hc
  | _ => simp [concD] at hc
theorem intD_ok {x : Value} {d : Dv} (h : RepD w M H ρ x d) {n : Int} (hc : intD d = some n) : ∃ k, x = .int k n := by
  unfold intD at hc
  split at hc
  · rename_i k m
    simp at hc; subst hc
    exact ⟨k, h.toP.v_eq⟩
  · cases hc
theorem boolD_ok {x : Value} {d : Dv} (h : RepD w M H ρ x d) {b : Bool} (hc : boolD d = some b) : x = .bool b := by
  unfold boolD at hc
  split at hc
  · simp at hc; subst hc
    exact h.toP.v_eq
  · cases hc

theorem RepD.mkAgg {vs : Array Value} {ds : List Dv} (h : COk w M H ρ vs ds) : RepD w M H ρ (.agg vs) (mkAgg ds) := by
  unfold Ev.mkAgg
  split
  · rename_i cs hcs
    have := allP_spec hcs
    subst this
    refine .p _ _ (.agg vs cs (by simpa using h.1) (fun j hj => (h.2 j (by simpa using hj)).1) (fun j hj => ?_))
    have h2 := (h.2 j (by simpa using hj)).2
    simp only [List.getElem_map] at h2
    exact h2.toP
  · exact .agg vs ds h.1 (fun j hj => (h.2 j hj).1) (fun j hj => (h.2 j hj).2)
theorem RepD.mkTup {vs : Array Value} {ds : List Dv} (h : TOk w M H ρ vs ds) : RepD w M H ρ (.tuple vs) (mkTup ds) := by
  unfold Ev.mkTup
  split
  · rename_i cs hcs
    have := allP_spec hcs
    subst this
    refine .p _ _ (.tup vs cs (by simpa using h.1) (fun j hj => ?_))
    have h2 := h.2 j (by simpa using hj)
    simp only [List.getElem_map] at h2
    exact h2.toP
  · exact .tup vs ds h.1 h.2
theorem RepD.mkFn {f : Fn} {vs : Array Value} {ds : List Dv} (h : TOk w M H ρ vs ds) : RepD w M H ρ (.func f #[] vs) (mkFn f ds) := by
  unfold Ev.mkFn
  split
  · rename_i cs hcs
    have := allP_spec hcs
    subst this
    refine .p _ _ (.fn f vs cs (by simpa using h.1) (fun j hj => ?_))
    have h2 := h.2 j (by simpa using hj)
    simp only [List.getElem_map] at h2
    exact h2.toP
  · exact .fn f vs ds h.1 h.2

theorem COk.one {v : Value} {d : Dv} (h1 : v.oneCell' = true) (h : RepD w M H ρ v d) : COk w M H ρ v.cells [d] := by
  have e : v.cells = #[v] := by cases v <;> simp_all [Value.cells, Value.oneCell']
  rw [e]
  refine ⟨rfl, fun j hj => ?_⟩
  simp only [List.length_cons, List.length_nil] at hj
  obtain rfl : j = 0 := by omega
  exact ⟨h1, h⟩
theorem cellsD_ok {v : Value} {d : Dv} (h : RepD w M H ρ v d) {ds : List Dv} (hc : cellsD d = some ds) : COk w M H ρ v.cells ds := by
  unfold cellsD at hc
  split at hc
  · rename_i cs
    simp only [Option.some.injEq] at hc
    subst hc
    cases h.toP with
    | agg vs cs hl h1 hr =>
      refine ⟨by simpa [Value.cells] using hl, fun j hj => ?_⟩
      simp only [List.length_map] at hj
      simp only [Value.cells, List.getElem_map]
      exact ⟨h1 j hj, .p _ _ (hr j hj)⟩
  · cases hc
  · cases hc
  · cases hc
  · rename_i x hx1 hx2 hx3 hx4
    simp only [Option.some.injEq] at hc
    subst hc
    refine COk.one ?_ h
    have hp := h.toP
    cases hp with
    | v x => cases v <;> simp_all [Value.oneCell']
    | lst => rfl
    | agg vs cs => exact absurd rfl (hx1 cs)
    | tup vs cs => exact absurd rfl (hx2 cs)
    | iptr => rfl
    | fn => rfl
  · rename_i es
    simp only [Option.some.injEq] at hc
    subst hc
    cases h with
    | agg vs cs hl h1 hr => exact ⟨hl, fun j hj => ⟨h1 j hj, hr j hj⟩⟩
  · cases hc
  · cases hc
  · rename_i hx1 hx2 hx3 hx4
    simp only [Option.some.injEq] at hc
    subst hc
    refine COk.one ?_ h
    cases h <;> simp_all [Value.oneCell']
theorem cellsP_ok {v : Value} {y : Pv} (h : RepP w M v y) {cs : List Pv} (hc : cellsP y = some cs) : COk w M H ρ v.cells (cs.map .p) := by
  refine cellsD_ok (.p v y h) ?_
  unfold cellsP at hc
  unfold cellsD
  split at hc <;> simp_all
  subst hc; rfl
theorem COk.cellsD {vs : Array Value} {ds : List Dv} (h : COk w M H ρ vs ds) : CellsD w M H ρ vs 0 ds := by
  refine ⟨by simp [h.1], fun j hj => ?_⟩
  simpa using h.2 j hj
theorem COk.sub {C : Array Value} {bs : Nat} {ds : List Dv} (h : CellsD w M H ρ C bs ds) (off n : Nat) (hn : off + n ≤ ds.length) :
    COk w M H ρ (C.extract (bs + off) (bs + off + n)) ((ds.drop off).take n) := by
  have h1 := h.1
  refine ⟨by simp; omega, fun j hj => ?_⟩
  have hj : j < n := by simp only [List.length_take, List.length_drop] at hj; omega
  have h2 := h.2 (off + j) (by omega)
  have e1 : (C.extract (bs + off) (bs + off + n)).getD j undef = C.getD (bs + (off + j)) undef := by
    rw [Array.getD_eq_getD_getElem?, Array.getD_eq_getD_getElem?, Array.getElem?_extract, if_pos (by omega), Nat.add_assoc]
  rw [e1]
  simpa using h2

/-! ### What an operation must come to -/
structure Fin (X : Nat → Prop) (w : World) (H : List Ob) (ρ : Pl) (w' : World) (H' : List Ob) (ρ' : Pl) (v : Value) (d : Dv) : Prop where
  evo : Evo H.length w H ρ w' H' ρ'
  sim : Sim X w' H' ρ'
  rep : RepD w' (Mut X H' ρ') H' ρ' v d
def OpOk (P : Program) (X : Nat → Prop) (w : World) (H : List Ob) (ρ : Pl) (r : Result Next) (d : Dv) (H' : List Ob) : Prop :=
  (∃ v w' ρ', (r = .ok (.value v) w' ∨ (r = .ok .skip w' ∧ v = undef)) ∧ Fin X w H ρ w' H' ρ' v d) ∨
  (∃ f args, r = .ok (.enter f args) w ∧ Calls P f args w fun e w' => ∃ v ρ', e = .returned v ∧ Fin X w H ρ w' H' ρ' v d)
theorem OpOk.wp {P : Program} {o : Oper} {a : Act} {next : Act → World → Prop} {Q : Exit → Act → World → Prop} {d : Dv} {H' : List Ob} (h : OpOk P X w H ρ ((execOp a.eval o).run P w) d H')
    (hn : ∀ v w' ρ', Fin X w H ρ w' H' ρ' v d → next (a.put o.dst v) w') : o.wp P a w next Q := by
  unfold Oper.wp
  rcases h with ⟨v, w', ρ', h1, h2⟩ | ⟨f, args, h1, h2⟩
  · rcases h1 with h1 | ⟨h1, rfl⟩
    · rw [h1]; exact hn _ _ _ h2
    · rw [h1]; exact hn _ _ _ h2
  · rw [h1]
    refine h2.mono fun e w' ⟨v, ρ', he, hf⟩ => ?_
    subst he
    exact hn _ _ _ hf
theorem OpOk.same {P : Program} {r : Result Next} {v : Value} {d : Dv} (hs : Sim X w H ρ) (hr : r = .ok (.value v) w) (hv : RepD w (Mut X H ρ) H ρ v d) : OpOk P X w H ρ r d H :=
  .inl ⟨v, w, ρ, .inl hr, Evo.refl .., hs, hv⟩
theorem OpOk.val {P : Program} {r : Result Next} {v : Value} {d : Dv} {w' : World} {H' : List Ob} {ρ' : Pl} (hr : r = .ok (.value v) w') (hf : Fin X w H ρ w' H' ρ' v d) : OpOk P X w H ρ r d H' :=
  .inl ⟨v, w', ρ', .inl hr, hf⟩
end
end Go.Ev
