/- One operation: the abstract step is the model's. -/
import Derived.Test.YtgjhagehbfhioaaEv14
set_option linter.unusedVariables false
set_option linter.unusedSimpArgs false
namespace Go.Ev
section
variable {P : Program} {X M : Nat → Prop} {w : World} {H : List Ob} {ρ : Pl}

theorem concL_ok : ∀ {vs : List Value} {ds : List Dv} {us : List Value}, vs.length = ds.length → (∀ j (h1 : j < vs.length) (h2 : j < ds.length), RepD w M H ρ vs[j] ds[j]) → concL ds = some us → vs = us
  | [], [], us, _, _, h => by simp only [concL, Option.some.injEq] at h; exact h
  | v :: vs, d :: ds, us, hl, hr, h => by
    simp only [concL] at h
    split at h
    · rename_i x xs h1 h2
      simp only [Option.some.injEq] at h
      subst h
      have e1 := concD_ok (hr 0 (by simp) (by simp)) h1
      have e2 := concL_ok (by simpa using hl) (fun j h3 h4 => hr (j + 1) (by simpa using h3) (by simpa using h4)) h2
      simp only [List.getElem_cons_zero] at e1
      rw [e1, e2]
    · cases h
  | [], _ :: _, _, hl, _, _ => by simp at hl
  | _ :: _, [], _, hl, _, _ => by simp at hl
theorem map_tok {a : Act} {tm : List Dv} (ht : TOk w M H ρ a.tmps tm) (l : Array Operand) : TOk w M H ρ (l.map a.eval) (l.toList.map (evalO tm)) := by
  refine ⟨by simp, fun j hj => ?_⟩
  simp only [List.length_map, Array.length_toList] at hj
  have e1 : (l.map a.eval).getD j undef = a.eval l[j] := by simp [hj]
  have e2 : (l.toList.map (evalO tm))[j]'(by simpa using hj) = evalO tm l[j] := by simp
  rw [e1, e2]
  exact eval_ok ht _
theorem TOk.append {vs1 vs2 : Array Value} {ds1 ds2 : List Dv} (h1 : TOk w M H ρ vs1 ds1) (h2 : TOk w M H ρ vs2 ds2) : TOk w M H ρ (vs1 ++ vs2) (ds1 ++ ds2) := by
  refine ⟨by simp [h1.1, h2.1], fun j hj => ?_⟩
  simp only [List.length_append] at hj
  by_cases hj1 : j < ds1.length
  · have e : (vs1 ++ vs2).getD j undef = vs1.getD j undef := by
      rw [Array.getD_eq_getD_getElem?, Array.getD_eq_getD_getElem?, Array.getElem?_append_left (by rw [h1.1]; exact hj1)]
    rw [e, List.getElem_append_left hj1]
    exact h1.2 j hj1
  · have e : (vs1 ++ vs2).getD j undef = vs2.getD (j - ds1.length) undef := by
      rw [Array.getD_eq_getD_getElem?, Array.getD_eq_getD_getElem?, Array.getElem?_append_right (by rw [h1.1]; omega), h1.1]
    rw [e, List.getElem_append_right (by omega)]
    exact h2.2 (j - ds1.length) (by omega)
theorem parts_ok {a : Act} {tm : List Dv} (ht : TOk w M H ρ a.tmps tm) (parts : Array (Nat × Operand)) {pv : Array (Nat × Value)} {pd : List (Nat × Dv)}
    (e1 : pv = parts.map fun (i, x) => (i, a.eval x)) (e2 : pd = parts.toList.map fun (i, x) => (i, evalO tm x)) :
    pv.size = pd.length ∧ ∀ j (h1 : j < pv.size) (h2 : j < pd.length), (pv[j]).1 = (pd[j]).1 ∧ RepD w M H ρ (pv[j]).2 (pd[j]).2 := by
  subst e1; subst e2
  refine ⟨by simp, fun j h1 h2 => ?_⟩
  simp only [Array.getElem_map, List.getElem_map, Array.getElem_toList, true_and]
  exact eval_ok ht _
theorem tup_val {v : Value} {cs : List Pv} (h : RepP w M v (.tup cs)) : ∃ vs, v = .tuple vs ∧ vs.size = cs.length ∧ ∀ j (h : j < cs.length), RepP w M (vs.getD j undef) cs[j] := by
  cases h with
  | tup vs _ hl hr => exact ⟨vs, rfl, hl, hr⟩
theorem tup_valD {v : Value} {cs : List Dv} (h : RepD w M H ρ v (.tup cs)) : ∃ vs, v = .tuple vs ∧ vs.size = cs.length ∧ ∀ j (h : j < cs.length), RepD w M H ρ (vs.getD j undef) cs[j] := by
  cases h with
  | tup vs _ hl hr => exact ⟨vs, rfl, hl, hr⟩
theorem fn_val {v : Value} {f : Fn} {cs : List Pv} (h : RepP w M v (.fn f cs)) : ∃ vs, v = .func f #[] vs ∧ TOk w M H ρ vs (cs.map .p) := by
  cases h with
  | fn _ vs _ hl hr =>
    refine ⟨vs, rfl, by simpa using hl, fun j hj => ?_⟩
    simp only [List.length_map] at hj
    simp only [List.getElem_map]
    exact .p _ _ (hr j hj)
theorem fn_valD {v : Value} {f : Fn} {cs : List Dv} (h : RepD w M H ρ v (.fn f cs)) : ∃ vs, v = .func f #[] vs ∧ TOk w M H ρ vs cs := by
  cases h with
  | fn _ vs _ hl hr => exact ⟨vs, rfl, hl, hr⟩

/-- The program's functions are none of the runtime's own. -/
def Names (P : Program) : Prop := ∀ (g : FuncId) (fn : Func), P.funcs[g]? = some fn → (fn.name == "runtime.NumGoroutine") = false

theorem call_run {g : FuncId} {args captured : Array Value} (hN : Names P) (hex : ∃ fn c, P.funcs[g]? = some fn ∧ fn.body = some c) (w : World) :
    (invoke (.fn (.func g) captured) args).run P w = .ok (.enter g (args ++ captured)) w := by
  obtain ⟨fn, c, h1, h2⟩ := hex
  have h3 : fn.name ≠ "runtime.NumGoroutine" := by simpa using hN g fn h1
  simp [invoke, callFunc, h1, h2, h3]
theorem op_ok {call : CallF} (hc : CallOk P call) (hN : Names P) {A : Ann} (hs : Sim X w H ρ) {a : Act} {tm : List Dv} (ht : TOk w (Mut X H ρ) H ρ a.tmps tm) {o : Oper} {d : Dv} {hh : Option (List Ob)}
    (h : opD P A call tm H o = some (d, hh)) : OpOk P X w H ρ ((execOp a.eval o).run P w) d (hh.getD H) := by
  obtain ⟨dst, op, type, pos, after, guard⟩ := o
  have ev := fun x => eval_ok ht x
  have n1 : ∀ {r : Option Dv}, (r.map fun d => (d, (none : Option (List Ob)))) = some (d, hh) → r = some d ∧ hh = none := by
    intro r hr
    simp only [Option.map_eq_some_iff, Prod.mk.injEq] at hr
    obtain ⟨x, h1, rfl, rfl⟩ := hr
    exact ⟨h1, rfl⟩
  cases op with
  | move x =>
    simp only [opD, Option.some.injEq, Prod.mk.injEq] at h
    obtain ⟨rfl, rfl⟩ := h
    exact .same hs rfl (ev x)
  | assign x =>
    simp only [opD, Option.some.injEq, Prod.mk.injEq] at h
    obtain ⟨rfl, rfl⟩ := h
    exact .same hs rfl (ev x)
  | pick c x y =>
    simp only [opD, Option.map_eq_some_iff, Prod.mk.injEq] at h
    obtain ⟨t, h1, rfl, rfl⟩ := h
    have h2 := boolD_ok (ev c) h1
    refine .same (v := if t then a.eval x else a.eval y) hs (by simp [execOp, h2, asBool]) ?_
    cases t
    · exact ev y
    · exact ev x
  | alloc e =>
    simp only [opD, Option.map_eq_some_iff, Prod.mk.injEq] at h
    obtain ⟨cs, h1, rfl, rfl⟩ := h
    obtain ⟨v, w', ρ', h2, h3⟩ := alloc_ok hs h1
    exact .val (by simp [execOp, h2]) h3
  | box e x =>
    simp only [opD, Option.map_eq_some_iff, Prod.mk.injEq] at h
    obtain ⟨ds, h1, rfl, rfl⟩ := h
    obtain ⟨v, w', ρ', h2, h3⟩ := box_ok (P := P) hs (e := e) (ev x) h1
    exact .val (by simp [execOp, h2]) h3
  | build t parts =>
    obtain ⟨h1, rfl⟩ := n1 h
    simp only [Option.bind_eq_some_iff, Option.map_eq_some_iff] at h1
    obtain ⟨pl, h2, z, h3, rs, h4, rfl⟩ := h1
    obtain ⟨h5, h6⟩ := parts_ok ht parts rfl rfl
    obtain ⟨v, h7, h8⟩ := build_ok (P := P) (w := w) h2 h3 h5 h6 h4
    exact .same hs (by simp [execOp, h7]) h8
  | buildSlice t len parts =>
    simp only [opD] at h
    split at h
    · rename_i e hu
      simp only [Option.bind_eq_some_iff] at h
      obtain ⟨sz, h1, z, h2, h⟩ := h
      split at h
      · cases h
      · rename_i h3
        simp only [not_or, Decidable.not_not] at h3
        simp only [Option.bind_eq_some_iff, Option.map_eq_some_iff, Prod.mk.injEq] at h
        obtain ⟨ds, h4, ⟨cs, l⟩, h5, h6, h7⟩ := h
        simp only [] at h6 h7
        subst h6
        obtain ⟨h8, h9⟩ := parts_ok ht parts rfl rfl
        obtain ⟨v, w', h10, h11⟩ := buildSlice_ok hs hu h1 h2 h3.1 h3.2.1 h3.2.2 h8 h9 h4 h5
        have e : hh.getD H = freezeAll H l := by
          subst h7
          split
          · rename_i h0
            rw [List.isEmpty_iff.1 h0]; rfl
          · rfl
        rw [e]
        exact .val (by simp [execOp, h10]) h11
    · cases h
  | load t x =>
    obtain ⟨h1, rfl⟩ := n1 h
    obtain ⟨v, h2, h3⟩ := load_ok hs (ev x) h1
    exact .same hs (by simp [execOp, h2]) h3
  | store t x y =>
    simp only [opD, Option.map_eq_some_iff, Prod.mk.injEq] at h
    obtain ⟨H', h1, rfl, rfl⟩ := h
    obtain ⟨w', h2, h3, h4⟩ := store_ok hs (ev x) (ev y) h1
    refine .inl ⟨undef, w', ρ, .inr ⟨by simp [execOp, h2], rfl⟩, h3, h4, .p _ _ (.v _)⟩
  | nilCheck x =>
    simp only [opD] at h
    have hx := ev x
    generalize hxd : evalO tm x = xd at *
    split at h
    · simp only [Option.some.injEq, Prod.mk.injEq] at h
      obtain ⟨rfl, rfl⟩ := h
      obtain ⟨b, hb⟩ := ptr_val hx
      exact .same hs (by simp [execOp, hb]) (hb ▸ hx)
    · simp only [Option.some.injEq, Prod.mk.injEq] at h
      obtain ⟨rfl, rfl⟩ := h
      obtain ⟨b, hb⟩ := iptr_val hx.toP
      exact .same hs (by simp [execOp, hb]) (hb ▸ hx)
    · simp only [Option.some.injEq, Prod.mk.injEq] at h
      obtain ⟨rfl, rfl⟩ := h
      obtain ⟨vs, hb, _⟩ := fn_val (H := H) (ρ := ρ) hx.toP
      exact .same hs (by simp [execOp, hb]) (hb ▸ hx)
    · simp only [Option.some.injEq, Prod.mk.injEq] at h
      obtain ⟨rfl, rfl⟩ := h
      obtain ⟨vs, hb, _⟩ := fn_valD hx
      exact .same hs (by simp [execOp, hb]) (hb ▸ hx)
    · cases h
  | binOp op t x y yt =>
    obtain ⟨h1, rfl⟩ := n1 h
    unfold binD at h1
    split at h1
    · rename_i u v hu hv
      simp only [Option.map_eq_some_iff] at h1
      obtain ⟨r, h2, rfl⟩ := h1
      have e1 := concD_ok (ev x) hu
      have e2 := concD_ok (ev y) hv
      have h3 := pureRun_run w h2
      exact .same hs (by simp only [execOp, e1, e2, Sem.run_bind, h3, Result.andThen_ok, Sem.run_pure]) (.p _ _ (.v r))
    · cases h1
  | unOp op t x =>
    obtain ⟨h1, rfl⟩ := n1 h
    simp only [Option.bind_eq_some_iff, Option.map_eq_some_iff] at h1
    obtain ⟨u, hu, r, h2, rfl⟩ := h1
    have e1 := concD_ok (ev x) hu
    have h3 := pureRun_run w h2
    exact .same hs (by simp only [execOp, e1, Sem.run_bind, h3, Result.andThen_ok, Sem.run_pure]) (.p _ _ (.v r))
  | convert src dst x =>
    obtain ⟨h1, rfl⟩ := n1 h
    simp only [Option.bind_eq_some_iff, Option.map_eq_some_iff] at h1
    obtain ⟨u, hu, r, h2, rfl⟩ := h1
    have e1 := concD_ok (ev x) hu
    have h3 := pureRun_run w h2
    exact .same hs (by simp only [execOp, e1, Sem.run_bind, h3, Result.andThen_ok, Sem.run_pure]) (.p _ _ (.v r))
  | makeFunc fn first caps =>
    simp only [opD] at h
    split at h
    · rename_i h0
      obtain ⟨h1, rfl⟩ := n1 h
      simp only [Option.some.injEq] at h1
      subst h1
      have hf : first = #[] := Array.eq_empty_of_size_eq_zero h0
      exact .same hs (by simp [execOp, Instr.makeFunc, hf]) (RepD.mkFn (map_tok ht caps))
    · cases h
  | makeSlice t l c =>
    simp only [opD, Option.map_eq_some_iff, Prod.mk.injEq] at h
    obtain ⟨⟨r, H'⟩, h1, rfl, rfl⟩ := h
    obtain ⟨v, w', ρ', h2, h3⟩ := make_ok hs (ev l) (ev c) h1
    exact .val (by simp [execOp, h2]) h3
  | slice t x lo hi mx =>
    simp only [opD] at h
    split at h
    · cases h
    · rename_i h0
      obtain ⟨h1, rfl⟩ := n1 h
      obtain ⟨v, h2, h3⟩ := slice_ok hs ht (by
        intro hm
        cases hi with
        | none => simp [hm] at h0
        | some _ => rfl) h1
      exact .same hs (by simp only [execOp, Sem.run_bind, h2, Result.andThen_ok, Sem.run_pure]) h3
  | fieldAddr t x i =>
    obtain ⟨h1, rfl⟩ := n1 h
    simp only [Option.bind_eq_some_iff] at h1
    obtain ⟨f, hf, n, hn, h1⟩ := h1
    split at h1
    · cases h1
    · rename_i hn0
      have hx := ev x
      generalize hxd : evalO tm x = xd at *
      split at h1
      · simp only [Option.some.injEq] at h1
        subst h1
        obtain ⟨b, hb⟩ := ptr_val hx
        exact .same hs (by simp [execOp, hb, fieldAt_run hf hn hn0]) (ptr_add (hb ▸ hx))
      · simp only [Option.some.injEq] at h1
        subst h1
        obtain ⟨b, hb⟩ := iptr_val hx.toP
        exact .same hs (by simp [execOp, hb, fieldAt_run hf hn hn0]) (.p _ _ (iptr_add (hb ▸ hx.toP)))
      · cases h1
  | field t x i =>
    obtain ⟨h1, rfl⟩ := n1 h
    simp only [Option.bind_eq_some_iff] at h1
    obtain ⟨f, hf, h1⟩ := h1
    obtain ⟨vs, hv⟩ := partD_agg (ev x) h1
    obtain ⟨v, h2, h3⟩ := part_ok (w := w) (hv ▸ ev x) h1
    exact .same hs (by simp [execOp, hv, field_run hf, h2]) h3
  | indexAddr t x ix =>
    obtain ⟨h1, rfl⟩ := n1 h
    obtain ⟨v, h2, h3⟩ := indexAddr_ok (ev x) (ev ix) h1
    exact .same hs (by simp [execOp, h2]) h3
  | index t x ix =>
    obtain ⟨h1, rfl⟩ := n1 h
    split at h1
    · simp only [Option.bind_eq_some_iff, Option.map_eq_some_iff] at h1
      obtain ⟨u, hu, b, hb, r, h2, rfl⟩ := h1
      have e1 := concD_ok (ev x) hu
      have e2 := concD_ok (ev ix) hb
      have h3 := pureRun_run w h2
      exact .same hs (by simp only [execOp, e1, e2, Sem.run_bind, h3, Result.andThen_ok, Sem.run_pure]) (.p _ _ (.v r))
    · rename_i n e hu
      simp only [Option.bind_eq_some_iff] at h1
      obtain ⟨i, hi, sz, hsz, h1⟩ := h1
      split at h1
      · rename_i hc
        obtain ⟨k, hk⟩ := intD_ok (ev ix) hi
        obtain ⟨vs, hv⟩ := partD_agg (ev x) h1
        obtain ⟨v, h2, h3⟩ := part_ok (w := w) (hv ▸ ev x) h1
        exact .same hs (by simp [execOp, hv, hk, Instr.index, asIntOf, und_run hu, hc.1, hc.2, szOf_run hsz, h2]) h3
      · cases h1
    · cases h1
  | extract x i =>
    obtain ⟨h1, rfl⟩ := n1 h
    have hx := ev x
    generalize hxd : evalO tm x = xd at *
    split at h1
    · simp only [Option.map_eq_some_iff] at h1
      obtain ⟨y, h1, rfl⟩ := h1
      obtain ⟨h2, h3⟩ := List.getElem?_eq_some_iff.1 h1
      obtain ⟨vs, hb, hl, hr⟩ := tup_val hx.toP
      have h4 := hr i h2
      rw [h3] at h4
      exact .same hs (by simp only [execOp, hb, Instr.extract, getD_some (C := vs) (j := i) (by omega)]; rfl) (.p _ _ h4)
    · obtain ⟨h2, h3⟩ := List.getElem?_eq_some_iff.1 h1
      obtain ⟨vs, hb, hl, hr⟩ := tup_valD hx
      have h4 := hr i h2
      rw [h3] at h4
      exact .same hs (by simp only [execOp, hb, Instr.extract, getD_some (C := vs) (j := i) (by omega)]; rfl) h4
    · cases h1
  | call c =>
    obtain ⟨callee, args, argTypes⟩ := c
    cases callee with
    | builtin b =>
      simp only [opD] at h
      have hargs := map_tok ht args
      have two : ∀ {x y : Dv}, List.map (evalO tm) args.toList = [x, y] → ∃ p q, args = #[p, q] ∧ evalO tm p = x ∧ evalO tm q = y := by
        intro x y hx
        have hs2 : args.size = 2 := by have := congrArg List.length hx; simpa using this
        obtain ⟨p, q, rfl⟩ : ∃ p q, args = #[p, q] := by
          refine ⟨args[0], args[1], ?_⟩
          apply Array.ext <;> simp [hs2]
          intro i hi
          rcases (show i = 0 ∨ i = 1 by omega) with rfl | rfl <;> (intros; rfl)
        simp only [List.map_cons, List.map_nil, List.cons.injEq, and_true] at hx
        exact ⟨p, q, rfl, hx.1, hx.2⟩
      unfold builtinD at h
      split at h
      · split at h
        · rename_i x y hx
          obtain ⟨p, q, rfl, hxp, hyq⟩ := two hx
          simp only [Option.map_eq_some_iff, Prod.mk.injEq] at h
          obtain ⟨⟨r, H'⟩, h1, rfl, rfl⟩ := h
          obtain ⟨v, w', ρ', h2, h3⟩ := append_ok (ty := type) hs (hxp ▸ ev p) (hyq ▸ ev q) h1
          exact .val (by simp [execOp, resolve, invoke, builtin, h2]) h3
        · cases h
      · split at h
        · rename_i x y hx
          obtain ⟨p, q, rfl, hxp, hyq⟩ := two hx
          simp only [Option.map_eq_some_iff, Prod.mk.injEq] at h
          obtain ⟨⟨r, H'⟩, h1, rfl, rfl⟩ := h
          obtain ⟨v, w', ρ', h2, h3⟩ := copy_ok (ty := type) hs (hxp ▸ ev p) (hyq ▸ ev q) h1
          exact .val (by simp [execOp, resolve, invoke, builtin, h2]) h3
        · cases h
      · obtain ⟨h1, rfl⟩ := n1 h
        unfold builtinP at h1
        split at h1
        · split at h1
          · rename_i x hx
            split at h1
            · cases h1
            · rename_i h0
              have hs1 : args.size = 1 := by have := congrArg List.length hx; simpa using this
              obtain ⟨y, rfl⟩ : ∃ y, args = #[y] := by
                refine ⟨args[0], ?_⟩
                apply Array.ext <;> simp [hs1]
                intro i hi; obtain rfl : i = 0 := by omega
                rfl
              have hxy : evalO tm y = x := by simpa using hx
              obtain ⟨v, h2, h3⟩ := len_ok (P := P) (ty := type) (hxy ▸ ev y) h1 (by omega)
              exact .same hs (by simp [execOp, resolve, invoke, builtin, h2]) h3
          · cases h1
        · simp only [Option.bind_eq_some_iff, Option.map_eq_some_iff] at h1
          obtain ⟨us, h1, r, h2, rfl⟩ := h1
          have e : (args.map a.eval).toList = us := concL_ok (M := Mut X H ρ) (H := H) (ρ := ρ) (w := w) (by simp) (fun j h3 h4 => by simp only [Array.toList_map, List.getElem_map, Array.getElem_toList]; exact ev _) h1
          have e' : args.map a.eval = us.toArray := by rw [← e]
          have h3 := pureRun_run w h2
          refine .same hs ?_ (.p _ _ (.v r))
          simp only [execOp, resolve, Sem.run_bind, Sem.run_pure, Result.andThen_ok, invoke, builtin, e', h3]
        · simp only [Option.bind_eq_some_iff, Option.map_eq_some_iff] at h1
          obtain ⟨us, h1, r, h2, rfl⟩ := h1
          have e : (args.map a.eval).toList = us := concL_ok (M := Mut X H ρ) (H := H) (ρ := ρ) (w := w) (by simp) (fun j h3 h4 => by simp only [Array.toList_map, List.getElem_map, Array.getElem_toList]; exact ev _) h1
          have e' : args.map a.eval = us.toArray := by rw [← e]
          have h3 := pureRun_run w h2
          refine .same hs ?_ (.p _ _ (.v r))
          simp only [execOp, resolve, Sem.run_bind, Sem.run_pure, Result.andThen_ok, invoke, builtin, e', h3]
        · cases h1
    | value f =>
      simp only [opD] at h
      have hf := ev f
      have hargs := map_tok ht args
      generalize hfd : evalO tm f = fd at *
      split at h
      · rename_i g cs
        obtain ⟨vs, hb, hvs⟩ := fn_val (H := H) (ρ := ρ) hf.toP
        obtain ⟨hex, hcl⟩ := callD_ok hc hs (hargs.append hvs) h
        refine .inr ⟨g, args.map a.eval ++ vs, ?_, hcl⟩
        simp only [execOp, resolve, hb, Deferred.ofValue, Sem.run_bind, Sem.run_pure, Result.andThen_ok]
        rw [call_run hN hex]
        simp
      · rename_i g ds
        obtain ⟨vs, hb, hvs⟩ := fn_valD hf
        obtain ⟨hex, hcl⟩ := callD_ok hc hs (hargs.append hvs) h
        refine .inr ⟨g, args.map a.eval ++ vs, ?_, hcl⟩
        simp only [execOp, resolve, hb, Deferred.ofValue, Sem.run_bind, Sem.run_pure, Result.andThen_ok]
        rw [call_run hN hex]
        simp
      · cases h
    | invoke r m => simp [opD] at h
  | _ => simp [opD] at h
end
end Go.Ev
