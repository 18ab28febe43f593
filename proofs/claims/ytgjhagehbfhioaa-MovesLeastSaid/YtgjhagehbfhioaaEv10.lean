/- append and copy. -/
import Derived.Test.YtgjhagehbfhioaaEv9
set_option linter.unusedVariables false
set_option linter.unusedSimpArgs false
namespace Go.Ev
section
variable {P : Program} {X M : Nat → Prop} {w : World} {H : List Ob} {ρ : Pl}

theorem srcT_cases {ts : Array TypeId} (h : srcT P ts = true) : ts[1]? = none ∨ ∃ t d, ts[1]? = some t ∧ P.underlying t = some d ∧ ∀ k, d ≠ .int k := by
  unfold srcT at h
  cases h1 : ts[1]? with
  | none => exact .inl rfl
  | some t =>
    simp only [h1] at h
    cases hu : P.underlying t with
    | none => simp [hu] at h
    | some d =>
      simp only [hu] at h
      exact .inr ⟨t, d, rfl, hu, fun k e => by subst e; simp at h⟩
/-- The elements go into the room that there is. -/
theorem append_place {ts : Array TypeId} {ty e : TypeId} {sz : Nat} (h0 : (ts[0]?).bind P.underlying = some (.slice e)) (hsz : szOf P e = some sz) (hT : srcT P ts = true) {base : Option Addr} {n cap m : Nat} {yv : Value} {vs : Array Value}
    (hlen : (Builtin.lenOf yv).run P w = .ok m w) (hfc : (Builtin.firstCells sz m yv).run P w = .ok vs w) (hroom : n + m ≤ cap) {w' : World}
    (hst : (if let some a := base then storeCells (a.add (n * sz)) vs.toList else pure PUnit.unit : Sem PUnit).run P w = .ok () w') :
    (Builtin.append_ ts ty #[.slice base n cap, yv]).run P w = .ok (.slice base (n + m) cap) w' := by
  simp only [Option.bind_eq_some_iff] at h0
  obtain ⟨t, ht, hu⟩ := h0
  have fin : ∀ s : Sem Value, s.run P w = ((Builtin.lenOf yv) >>= fun n_1 => if n + n_1 ≤ cap then (Builtin.firstCells sz n_1 yv) >>= fun new => (match base with
      | some a => (storeCells (a.add (n * sz)) new.toList) >>= fun _ => pure (Value.slice base (n + n_1) cap)
      | none => pure (Value.slice base (n + n_1) cap)) else stuck "" : Sem Value).run P w → s.run P w = .ok (.slice base (n + m) cap) w' := by
    intro s hs
    rw [hs]
    simp only [Sem.run_bind, hlen, Result.andThen_ok, if_pos hroom, hfc]
    cases base with
    | none => simp at hst; subst hst; simp
    | some a => simp only [] at hst; simp only [Sem.run_bind, hst, Result.andThen_ok, Sem.run_pure]
  refine fin _ ?_
  rcases srcT_cases hT with h1 | ⟨t2, d, h1, h2, h3⟩
  · simp only [Builtin.append_, ht, h1, List.getElem?_toArray, List.getElem?_cons_zero, List.getElem?_cons_succ, Sem.run_bind, und_run hu, Result.andThen_ok, szOf_run hsz, Sem.run_pure, Bool.false_eq_true, if_false, hlen, Bool.not_false, if_true]
    simp only [if_pos hroom, Sem.run_bind, hfc, Result.andThen_ok]
    cases base <;> rfl
  · cases d with
    | int k => exact absurd rfl (h3 k)
    | _ =>
      simp only [Builtin.append_, ht, h1, und_run h2, List.getElem?_toArray, List.getElem?_cons_zero, List.getElem?_cons_succ, Sem.run_bind, und_run hu, Result.andThen_ok, szOf_run hsz, Sem.run_pure, Bool.false_eq_true, if_false, hlen, Bool.not_false, if_true]
      simp only [if_pos hroom, Sem.run_bind, hfc, Result.andThen_ok]
      cases base <;> rfl
/-- A new array. -/
theorem append_grow {ts : Array TypeId} {ty e : TypeId} {sz by_ : Nat} (h0 : (ts[0]?).bind P.underlying = some (.slice e)) (hsz : szOf P e = some sz) (hby : bytesOf P e = some by_) (hb0 : by_ ≠ 0) (hT : srcT P ts = true) {base : Option Addr} {n cap m : Nat} {yv : Value} {vs old : Array Value} {z : Value}
    (hlen : (Builtin.lenOf yv).run P w = .ok m w) (hz : ∀ w, (zeroValue e).run P w = .ok z w) (hroom : ¬ n + m ≤ cap) (hbig : (n + m) * by_ ≤ 140737488355328)
    (hold : (Builtin.firstCells sz n (.slice base n cap)).run P { w with drawn := w.drawn + 1 } = .ok old { w with drawn := w.drawn + 1 })
    (hfc : (Builtin.firstCells sz m yv).run P { w with drawn := w.drawn + 1 } = .ok vs { w with drawn := w.drawn + 1 }) :
    ∃ nc, n + m ≤ nc ∧ (Builtin.append_ ts ty #[.slice base n cap, yv]).run P w =
      .ok (.slice (some ⟨w.heap.size, 0, none⟩) (n + m) nc) { w with drawn := w.drawn + 1, heap := w.heap.push (.cells (old ++ vs ++ Builtin.zeroCells z.cells (nc - (n + m))) e) } := by
  simp only [Option.bind_eq_some_iff] at h0
  obtain ⟨t, ht, hu⟩ := h0
  obtain ⟨i, hi, hib⟩ := bytesOf_run hby w
  have hi' : ∀ w, (typeInfo e).run P w = .ok i w := by
    intro w'
    obtain ⟨j, hj, _⟩ := bytesOf_run hby w'
    unfold bytesOf at hby
    simp only [Option.map_eq_some_iff] at hby
    obtain ⟨q, hq, _⟩ := hby
    simp [typeInfo, hq] at hi hj ⊢
    exact hi
  have hfit := growslice_fits (need := n + m) (old := cap) (bytes := by_) (by omega) hbig
  have hneed : n + m ≤ 140737488355328 := by
    have : (n + m) * 1 ≤ (n + m) * by_ := Nat.mul_le_mul_left _ (by omega)
    omega
  let q := Question.appendCap (n + m) cap e
  refine ⟨q.cut (w.tape w.drawn q), by show n + m ≤ (n + m) + _; omega, ?_⟩
  have h1 : ¬ (((n + m : Nat) : Int) > IntKind.i64.max ∧ (false = true ∨ i.bytes = 0)) := by
    intro h
    rcases h.2 with h | h
    · cases h
    · omega
  have h1' : ¬ (((n + m : Nat) : Int) > IntKind.i64.max ∧ (False ∨ i.bytes = 0)) := by
    intro h
    rcases h.2 with h | h
    · exact h
    · omega
  have h2 : ¬ (Builtin.nextslicecap (n + m) cap * i.bytes > 2 ^ 48) := by rw [hib]; omega
  have hq' : (Question.appendCap (n + m) cap e).forced = false := rfl
  rcases srcT_cases hT with h3 | ⟨t2, d, h3, h4, h5⟩
  · simp only [Builtin.append_, ht, h3, List.getElem?_toArray, List.getElem?_cons_zero, List.getElem?_cons_succ, Sem.run_bind, und_run hu, Result.andThen_ok, szOf_run hsz, Sem.run_pure, Bool.false_eq_true, if_false, hlen, Bool.not_false, if_true]
    simp only [if_neg hroom, Sem.run_bind, hi', Result.andThen_ok, h1, h1', h2, if_false, Sem.run_pure, run_choose, hq', Bool.false_eq_true, run_askRoom, hold, hfc, hz, newRow, run_newObj]
    rfl
  · cases d with
    | int k => exact absurd rfl (h5 k)
    | _ =>
      simp only [Builtin.append_, ht, h3, und_run h4, List.getElem?_toArray, List.getElem?_cons_zero, List.getElem?_cons_succ, Sem.run_bind, und_run hu, Result.andThen_ok, szOf_run hsz, Sem.run_pure, Bool.false_eq_true, if_false, hlen, Bool.not_false, if_true]
      simp only [if_neg hroom, Sem.run_bind, hi', Result.andThen_ok, h1, h1', h2, if_false, Sem.run_pure, run_choose, hq', Bool.false_eq_true, run_askRoom, hold, hfc, hz, newRow, run_newObj]
      rfl
end
end Go.Ev
