/- Rules for loops, calls and returns. -/
import Derived.Test.YtgjhagehbfhioaaEv20
set_option linter.unusedVariables false
set_option linter.unusedSimpArgs false
namespace Go.Ev
/-- The answer is there and is so. -/
def Wp (x : Option (Ex × St)) (Q : Ex → St → Prop) : Prop := ∃ e s, x = some (e, s) ∧ Q e s
theorem Wp.intro {e : Ex} {s : St} {Q : Ex → St → Prop} (h : Q e s) : Wp (some (e, s)) Q := ⟨e, s, rfl, h⟩
theorem Wp_some {e : Ex} {s : St} {Q : Ex → St → Prop} : Wp (some (e, s)) Q = Q e s := by
  apply propext
  constructor
  · intro ⟨e', s', h, hq⟩
    simp only [Option.some.injEq, Prod.mk.injEq] at h
    obtain ⟨rfl, rfl⟩ := h
    exact hq
  · exact Wp.intro
theorem Wp.mono {x : Option (Ex × St)} {Q R : Ex → St → Prop} (h : Wp x Q) (hq : ∀ e s, Q e s → R e s) : Wp x R :=
  let ⟨e, s, h1, h2⟩ := h; ⟨e, s, h1, hq e s h2⟩

section
variable {P : Program} {A : Ann} {f : FuncId}
/-- A loop: a measure falls, and what holds at its head after the ghosts holds again. -/
theorem Wp.loop {σ : Type} {b : Code} {Q : Ex → St → Prop} (G : List Ghost) (S : σ → St) (I : σ → Prop) (μ : σ → Nat)
    (step : ∀ x s, I x → ghostsD G s = some (S x) → Wp (evW P A f b s) fun e s' => match e with
      | .normal => ∃ x', I x' ∧ μ x' < μ x ∧ ghostsD G s' = some (S x')
      | e => Q e s') :
    ∀ x s, I x → ghostsD G s = some (S x) → Wp (evW P A f (.loop b) s) Q := by
  have key : ∀ k x s, μ x < k → I x → ghostsD G s = some (S x) → Wp (evW P A f (.loop b) s) Q := by
    intro k
    induction k with
    | zero => intro x s h; omega
    | succ k ih =>
      intro x s hk hi hg
      obtain ⟨e, s', h1, h2⟩ := step x s hi hg
      rw [w_loop, h1]
      cases e with
      | normal =>
        obtain ⟨x', h3, h4, h5⟩ := h2
        exact ih x' s' (by omega) h3 h5
      | exit i => exact .intro h2
      | ret => exact .intro h2
  intro x s
  exact key (μ x + 1) x s (Nat.lt_succ_self _)

theorem Wp.sb {id : Nat} {b : Code} {x : Option (Ex × St)} {Q R : Ex → St → Prop} (h : Wp x Q) (k : ∀ e s, Q e s → Wp (seqW P A f b (blockW id (some (e, s)))) R) : Wp (seqW P A f b (blockW id x)) R :=
  let ⟨e, s, h1, h2⟩ := h; by rw [h1]; exact k e s h2
theorem condW_prop {t e : Code} {s : St} {p : Prop} [Decidable p] : condW P A f t e s (some (decide p)) = if p then evW P A f t s else evW P A f e s := by
  unfold condW; by_cases h : p <;> simp [h]
theorem condW_not {t e : Code} {s : St} {p : Prop} [Decidable p] : condW P A f t e s (some (!decide p)) = if p then evW P A f e s else evW P A f t s := by
  unfold condW; by_cases h : p <;> simp [h]
theorem ghosts_nil {s : St} : ghostsD [] s = some s := rfl

/-! ### Results -/
theorem finish_pure {fn : Func} {s : St} {ds : List Dv} {x : Pv} {l : List Nat} (hk : A.keeps f = false) (hn : s.nin = 0) (h1 : resD P s fn.results.toList = some ds) (h2 : purifyD s.heap (oneD ds) = some (x, l)) :
    finishD P A f fn s = some (.p (wk x), []) := by
  unfold finishD
  rw [h1]
  simp only [Option.bind_some, hk, Bool.false_eq_true, if_false, h2, Option.map_some, hn, refsOf, List.range_zero, List.append_nil]
  have e : collect (freezeAll s.heap l) 256 [] [] = [] := rfl
  rw [e]
  rfl
def fin (P : Program) (A : Ann) (f : FuncId) (fn : Func) : Option (Ex × St) → Option (Dv × List Ob)
  | some (.normal, s) => finishD P A f fn s
  | some (.ret, s) => finishD P A f fn s
  | _ => none
theorem call_of {args : List Dv} {fn : Func} {c : Code} {r : Dv × List Ob} (ho : A.okf f = true) (hf : P.funcs[f]? = some fn) (hb : fn.body = some c)
    (h : Wp (evW P A f c (initS fn args [])) fun e s => (e = .normal ∨ e = .ret) ∧ finishD P A f fn s = some r) : callW P A f args [] = some r := by
  obtain ⟨e, s, h1, he, h2⟩ := h
  rw [callW_eq ho hf hb, h1]
  rcases he with rfl | rfl <;> exact h2

/-! ### Calls -/
theorem giveD_pure {H : List Ob} : ∀ (l : List Pv), giveD H (l.map .p) = (l.map fun x => .p (wk x), [])
  | [] => rfl
  | x :: l => by simp only [List.map_cons, giveD, giveD_pure l]
theorem refs_pure : ∀ (l : List Pv), refsOfs (l.map .p) = []
  | [] => by simp [refsOfs]
  | x :: l => by simp only [List.map_cons, refsOfs, refsOf, refs_pure l, List.append_nil]
theorem mapIds_pure {g : Nat → Nat} : ∀ (l : List Pv), mapIdss g (l.map .p) = l.map .p
  | [] => by simp [mapIdss]
  | x :: l => by simp only [List.map_cons, mapIdss, mapIds, mapIds_pure l]
theorem callD_pure {c : CallF} {H : List Ob} {args : List Pv} {x : Pv} (hm : A.muts f = false) (hr : A.ros f = false) (h : c f (args.map fun x => .p (wk x)) [] = some (.p x, [])) :
    callD c A H f (args.map .p) = some (.p x, none) := by
  have e1 : (args.map fun x => Dv.p (wk x)) = (args.map wk).map .p := by rw [List.map_map]; rfl
  simp only [callD, hm, hr, Bool.or_self, Bool.false_eq_true, if_false, giveD_pure, e1, refs_pure]
  have e2 : ∀ H', collect H' 64 [] [] = [] := fun _ => rfl
  rw [e2, if_pos (show accOk (freezeAll H []) [] [] = true from rfl), mapIds_pure]
  have e3 : lentD A f (freezeAll H []) [] = [] := by simp only [lentD, hm]; rfl
  rw [e3, ← e1, h]
  simp only [Option.bind_some, freezeAll, List.isEmpty_nil, Bool.not_true, someIf, Bool.false_eq_true, if_false]
def callV (c : CallF) (A : Ann) (H : List Ob) (f : Dv) (args : List Dv) : Option (Dv × Option (List Ob)) :=
  match f with
      | .p (.fn (.func g) cs) => callD c A H g (args ++ cs.map .p)
      | .fn (.func g) ds => callD c A H g (args ++ ds)
      | _ => none
section
variable {c : CallF} {q : Bool} {ops : Array Oper} {l : List Oper} {tm : List Dv} {H : List Ob} {n t ty : Nat} {pos : String} {af : Array Edge}
theorem ops_call {x : Operand} {as : Array Operand} {ts : Array TypeId} : opsD P A c q ops (⟨some t, .call { callee := .value x, args := as, argTypes := ts }, ty, pos, af, none⟩ :: l) ⟨tm, H, n⟩ =
    opsQ P A c q ops l tm H n t false (callV c A H (evalO tm x) (as.toList.map (evalO tm))) := by
  rw [ops_gen]
  rfl
theorem evalO_func {g : FuncId} : evalO tm (.func g) = .p (.fn (.func g) []) := rfl
end
theorem callV_func {c : CallF} {H : List Ob} {g : FuncId} {args : List Dv} : callV c A H (.p (.fn (.func g) [])) args = callD c A H g args := by
  simp [callV]
theorem call1 {c : CallF} {H : List Ob} {a x : Pv} (hm : A.muts f = false) (hr : A.ros f = false) (h : c f [.p (wk a)] [] = some (.p x, [])) : callD c A H f [.p a] = some (.p x, none) := callD_pure (args := [a]) hm hr h
theorem call2 {c : CallF} {H : List Ob} {a b x : Pv} (hm : A.muts f = false) (hr : A.ros f = false) (h : c f [.p (wk a), .p (wk b)] [] = some (.p x, [])) : callD c A H f [.p a, .p b] = some (.p x, none) := callD_pure (args := [a, b]) hm hr h
theorem call3 {c : CallF} {H : List Ob} {a b d x : Pv} (hm : A.muts f = false) (hr : A.ros f = false) (h : c f [.p (wk a), .p (wk b), .p (wk d)] [] = some (.p x, [])) : callD c A H f [.p a, .p b, .p d] = some (.p x, none) := callD_pure (args := [a, b, d]) hm hr h
theorem call4 {c : CallF} {H : List Ob} {a b d e x : Pv} (hm : A.muts f = false) (hr : A.ros f = false) (h : c f [.p (wk a), .p (wk b), .p (wk d), .p (wk e)] [] = some (.p x, [])) : callD c A H f [.p a, .p b, .p d, .p e] = some (.p x, none) := callD_pure (args := [a, b, d, e]) hm hr h
end
end Go.Ev
