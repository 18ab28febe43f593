/- Regions: one step after the other; and in whatever order the tape picks. -/
import Derived.Test.YtgjhagehbfhioaaEv15
set_option linter.unusedVariables false
set_option linter.unusedSimpArgs false
namespace Go.Ev
section
variable {P : Program} {X M : Nat → Prop} {w : World} {H : List Ob} {ρ : Pl}

structure StOk (X : Nat → Prop) (w : World) (s : St) (ρ : Pl) (a : Act) : Prop where
  sim : Sim X w s.heap ρ
  tok : TOk w (Mut X s.heap ρ) s.heap ρ a.tmps s.tmps
  defers : a.defers = []

theorem want_ok {ops : Array Oper} {a : Act} {tm : List Dv} (ht : TOk w M H ρ a.tmps tm) {o : Oper} {b : Bool} (h : wantD ops tm o = some b) : Region.wanted o (yielded ops a.tmps) = b := by
  unfold wantD at h
  unfold Region.wanted
  cases hg : o.guard with
  | none => simp only [hg, Option.some.injEq] at h; exact h
  | some jw =>
    obtain ⟨j, want⟩ := jw
    simp only [hg] at h ⊢
    unfold yielded
    cases hd : (ops[j]?).bind (·.dst) with
    | none => simp only [hd, Option.some.injEq] at h; subst h; simp
    | some t =>
      simp only [hd, Option.map_eq_some_iff] at h
      obtain ⟨q, hq, rfl⟩ := h
      simp only [Option.bind_some]
      by_cases htl : t < tm.length
      · have hts : t < a.tmps.size := by rw [ht.1]; exact htl
        have e1 : tm.getD t undefD = tm[t] := getD_el htl
        rw [e1] at hq
        have hr := ht.2 t htl
        rw [Array.getElem?_eq_getElem hts]
        have e2 : a.tmps.getD t undef = a.tmps[t] := by simp [hts]
        rw [e2] at hr
        generalize a.tmps[t] = v at *
        generalize tm[t] = d at *
        unfold yieldD at hq
        split at hq
        · cases hq
        · rename_i b
          simp only [Option.some.injEq] at hq
          subst hq
          have := hr.toP.v_eq
          subst this
          rfl
        · rename_i hd1 hd2
          simp only [Option.some.injEq] at hq
          subst hq
          have : ∀ b, v ≠ .bool b := by
            intro b hb
            subst hb
            cases hr with
            | junk => exact hd1 rfl
            | p x y hp => cases hp; exact hd2 b rfl
          cases v <;> simp_all
      · have e1 : tm.getD t undefD = undefD := by simp [List.getD, Nat.le_of_not_lt htl]
        rw [e1] at hq
        simp only [yieldD, undefD, undef, Option.some.injEq] at hq
        subst hq
        have : a.tmps[t]? = none := Array.getElem?_eq_none (by rw [ht.1]; exact Nat.le_of_not_lt htl)
        rw [this]
/-- One step of a region. -/
theorem step_ok {call : CallF} (hc : CallOk P call) (hN : Names P) {A : Ann} {quiet : Bool} {ops : Array Oper} {o : Oper} {s s' : St} {a : Act} (hs : StOk X w s ρ a) (h : stepD P A call quiet ops o s = some s')
    {K : Act → World → Prop} {Q : Exit → Act → World → Prop} (hK : ∀ w' ρ' a', Evo s.heap.length w s.heap ρ w' s'.heap ρ' → StOk X w' s' ρ' a' → K a' w') :
    if Region.wanted o (yielded ops a.tmps) then o.wp P a w K Q ∨ (o.asks P a w ∧ LetsOut Q) else K (a.put o.dst undef) w := by
  unfold stepD at h
  simp only [Option.bind_eq_some_iff] at h
  obtain ⟨b, hb, h⟩ := h
  rw [want_ok hs.tok hb]
  cases b with
  | true =>
    simp only [if_true, Option.bind_eq_some_iff] at h ⊢
    obtain ⟨⟨d, hh⟩, hop, h⟩ := h
    have hk := op_ok hc hN hs.sim hs.tok hop
    refine .inl (hk.wp fun v w' ρ' hf => ?_)
    cases hh with
    | none =>
      simp only [Option.some.injEq] at h
      subst h
      exact hK w' ρ' _ hf.evo ⟨hf.sim, (hs.tok.evo hf.evo).put hf.rep o.dst, by rw [put_defers]; exact hs.defers⟩
    | some H' =>
      simp only [] at h
      split at h
      · cases h
      · simp only [Option.some.injEq] at h
        subst h
        exact hK w' ρ' _ hf.evo ⟨hf.sim, (hs.tok.evo hf.evo).put hf.rep o.dst, by rw [put_defers]; exact hs.defers⟩
  | false =>
    simp only [Bool.false_eq_true, if_false, Option.some.injEq] at h ⊢
    subst h
    exact hK w ρ _ (Evo.refl ..) ⟨hs.sim, hs.tok.put (.p _ _ (.v _)) o.dst, by rw [put_defers]; exact hs.defers⟩
theorem step_len {call : CallF} (hc : CallOk P call) {A : Ann} {quiet : Bool} {ops : Array Oper} {o : Oper} {s s' : St} (h : stepD P A call quiet ops o s = some s') : s'.nin = s.nin := by
  unfold stepD at h
  simp only [Option.bind_eq_some_iff] at h
  obtain ⟨b, hb, h⟩ := h
  cases b with
  | true =>
    simp only [if_true, Option.bind_eq_some_iff] at h
    obtain ⟨⟨d, hh⟩, hop, h⟩ := h
    cases hh with
    | none => simp only [Option.some.injEq] at h; subst h; rfl
    | some H' =>
      simp only [] at h
      split at h
      · cases h
      · simp only [Option.some.injEq] at h; subst h; rfl
  | false => simp only [Bool.false_eq_true, if_false, Option.some.injEq] at h; subst h; rfl
/-- In the order of the text. -/
theorem list_ok {call : CallF} (hc : CallOk P call) (hN : Names P) {A : Ann} {quiet : Bool} {ops : Array Oper} {Q : Exit → Act → World → Prop} {n : Nat} :
    ∀ (l : List Oper) (s s' : St) (w : World) (ρ : Pl) (a : Act), StOk X w s ρ a → opsD P A call quiet ops l s = some s' → n ≤ s.heap.length →
    (∀ w' ρ' a', Evo n w s.heap ρ w' s'.heap ρ' → StOk X w' s' ρ' a' → Q .normal a' w') → wpList P ops Q l a w
  | [], s, s', w, ρ, a, hs, h, hn, hQ => by
    simp only [opsD, Option.some.injEq] at h
    subst h
    exact hQ w ρ a ((Evo.refl ..).mono hn) hs
  | o :: l, s, s', w, ρ, a, hs, h, hn, hQ => by
    simp only [opsD, Option.bind_eq_some_iff] at h
    obtain ⟨s1, h1, h2⟩ := h
    unfold wpList
    refine step_ok hc hN hs h1 (fun w1 ρ1 a1 he hs1 => ?_)
    exact list_ok hc hN l s1 s' w1 ρ1 a1 hs1 h2 (Nat.le_trans hn he.len') (fun w' ρ' a' he' hs' => hQ w' ρ' a' ((he.mono hn).trans he') hs')

/-! ### Any order -/
def aOp (P : Program) (A : Ann) (call : CallF) (quiet : Bool) (ops : Array Oper) (i : Nat) (s : St) : Option St :=
  match ops[i]? with
  | none => some s
  | some o => stepD P A call quiet ops o s
def aAny (P : Program) (A : Ann) (call : CallF) (quiet : Bool) (ops : Array Oper) (sf : St) : Nat → Array Bool → St → Prop
  | 0, listed, s => Region.ready .any ops listed = [] ∧ s = sf
  | fuel + 1, listed, s => (Region.ready .any ops listed = [] → s = sf) ∧ ∀ i ∈ Region.ready .any ops listed, ∃ s', aOp P A call quiet ops i s = some s' ∧ aAny P A call quiet ops sf fuel (listed.setIfInBounds i true) s'
theorem any_ok {call : CallF} (hc : CallOk P call) (hN : Names P) {A : Ann} {quiet : Bool} {ops : Array Oper} {Q : Exit → Act → World → Prop} {n : Nat} {sf : St} :
    ∀ (fuel : Nat) (listed : Array Bool) (s : St) (w : World) (ρ : Pl) (a : Act), StOk X w s ρ a → aAny P A call quiet ops sf fuel listed s → n ≤ s.heap.length →
    (∀ w' ρ' a', Evo n w s.heap ρ w' sf.heap ρ' → StOk X w' sf ρ' a' → Q .normal a' w') → wpAny P .any ops Q fuel listed a w
  | 0, listed, s, w, ρ, a, hs, h, hn, hQ => by
    obtain ⟨h1, rfl⟩ := h
    exact ⟨h1, hQ w ρ a ((Evo.refl ..).mono hn) hs⟩
  | fuel + 1, listed, s, w, ρ, a, hs, h, hn, hQ => by
    refine ⟨fun h1 => ?_, fun i hi => ?_⟩
    · obtain rfl := h.1 h1
      exact hQ w ρ a ((Evo.refl ..).mono hn) hs
    · obtain ⟨s1, h1, h2⟩ := h.2 i hi
      unfold wpOp
      unfold aOp at h1
      cases ho : ops[i]? with
      | none =>
        simp only [ho, Option.some.injEq] at h1 ⊢
        subst h1
        exact any_ok hc hN fuel _ s w ρ a hs h2 hn hQ
      | some o =>
        simp only [ho] at h1 ⊢
        refine step_ok hc hN hs h1 (fun w1 ρ1 a1 he hs1 => ?_)
        exact any_ok hc hN fuel _ s1 w1 ρ1 a1 hs1 h2 (Nat.le_trans hn he.len') (fun w' ρ' a' he' hs' => hQ w' ρ' a' ((he.mono hn).trans he') hs')

/-! ### Two operations change places -/
theorem evalO_put {tm : List Dv} {dst : Option Tmp} {d : Dv} {x : Operand} (h : ∀ t, dst = some t → x ≠ .tmp t) : evalO (putD tm dst d) x = evalO tm x := by
  cases dst with
  | none => rfl
  | some t =>
    cases x with
    | tmp u =>
      have hne : t ≠ u := fun e => h t rfl (e ▸ rfl)
      simp [evalO, putD, List.getD, List.getElem?_set_ne hne]
    | _ => rfl
theorem looks_op {ops : Array Oper} {o : Oper} {t : Tmp} (h : t ∉ o.looksAt ops) : ∀ x ∈ o.op.operands, x ≠ .tmp t := by
  intro x hx e
  subst e
  apply h
  unfold Oper.looksAt
  rw [List.mem_append]
  left
  rw [List.mem_filterMap]
  exact ⟨.tmp t, by simpa using hx, rfl⟩
theorem looks_guard {ops : Array Oper} {o : Oper} {t : Tmp} (h : t ∉ o.looksAt ops) {j : Nat} {want : Bool} (hg : o.guard = some (j, want)) : (ops[j]?).bind (·.dst) ≠ some t := by
  intro e
  apply h
  unfold Oper.looksAt
  rw [List.mem_append]
  right
  simp [hg, e]
theorem wantD_put {ops : Array Oper} {o : Oper} {tm : List Dv} {dst : Option Tmp} {d : Dv} (h : ∀ t, dst = some t → t ∉ o.looksAt ops) : wantD ops (putD tm dst d) o = wantD ops tm o := by
  unfold wantD
  cases hg : o.guard with
  | none => rfl
  | some jw =>
    obtain ⟨j, want⟩ := jw
    simp only []
    cases hd : (ops[j]?).bind (·.dst) with
    | none => rfl
    | some u =>
      cases dst with
      | none => rfl
      | some t =>
        have hne : t ≠ u := fun e => looks_guard (h t rfl) hg (by rw [hd, e])
        simp [putD, List.getD, List.getElem?_set_ne hne]
theorem map_eval {tm tm' : List Dv} {l : Array Operand} (h : ∀ x ∈ l, evalO tm x = evalO tm' x) : l.toList.map (evalO tm) = l.toList.map (evalO tm') :=
  List.map_congr_left fun x hx => h x (by simpa using hx)
theorem parts_eval {tm tm' : List Dv} {l : Array (Nat × Operand)} (h : ∀ x ∈ l.toList.map (·.2), evalO tm x = evalO tm' x) :
    (l.toList.map fun (i, x) => (i, evalO tm x)) = l.toList.map fun (i, x) => (i, evalO tm' x) :=
  List.map_congr_left fun ⟨i, x⟩ hx => by
    simp only [Prod.mk.injEq, true_and]
    exact h x (List.mem_map.2 ⟨(i, x), hx, rfl⟩)
theorem opt_eval {tm tm' : List Dv} {l : Option Operand} (h : ∀ x ∈ l.toArray, evalO tm x = evalO tm' x) : l.map (evalO tm) = l.map (evalO tm') := by
  cases l with
  | none => rfl
  | some x => simp [h x (by simp)]
theorem opD_congr {A : Ann} {call : CallF} {tm tm' : List Dv} {H : List Ob} {o : Oper} (h : ∀ x ∈ o.op.operands, evalO tm x = evalO tm' x) : opD P A call tm H o = opD P A call tm' H o := by
  obtain ⟨dst, op, type, pos, after, guard⟩ := o
  simp only [] at h
  cases op with
  | build t parts =>
    have e := parts_eval (tm := tm) (tm' := tm') (l := parts) (fun x hx => h x (by simpa [Op.operands] using hx))
    simp only [opD, e]
  | buildSlice t len parts =>
    have e := parts_eval (tm := tm) (tm' := tm') (l := parts) (fun x hx => h x (by simpa [Op.operands] using hx))
    simp only [opD, e]
  | makeFunc fn first caps =>
    have e := map_eval (tm := tm) (tm' := tm') (l := caps) (fun x hx => h x (by simp [Op.operands, hx]))
    simp only [opD, e]
  | slice t x lo hi mx =>
    have e0 := h x (by simp [Op.operands])
    have e1 := opt_eval (tm := tm) (tm' := tm') (l := lo) (fun x hx => h x (by simp only [Op.operands, Array.mem_append]; exact .inl (.inl (.inr hx))))
    have e2 := opt_eval (tm := tm) (tm' := tm') (l := hi) (fun x hx => h x (by simp only [Op.operands, Array.mem_append]; exact .inl (.inr hx)))
    have e3 := opt_eval (tm := tm) (tm' := tm') (l := mx) (fun x hx => h x (by simp only [Op.operands, Array.mem_append]; exact .inr hx))
    simp only [opD, e0, e1, e2, e3]
  | call c =>
    obtain ⟨callee, args, ts⟩ := c
    have e := map_eval (tm := tm) (tm' := tm') (l := args) (fun x hx => h x (by cases callee <;> simp [Op.operands, Call.operands, hx]))
    cases callee with
    | builtin b => simp only [opD, e]
    | value f =>
      have e1 := h f (by simp [Op.operands, Call.operands])
      simp only [opD, e, e1]
    | invoke r m => rfl
  | move x => simp only [opD, h x (by simp [Op.operands])]
  | assign x => simp only [opD, h x (by simp [Op.operands])]
  | pick c x y => simp only [opD, h c (by simp [Op.operands]), h x (by simp [Op.operands]), h y (by simp [Op.operands])]
  | alloc e => rfl
  | box e x => simp only [opD, h x (by simp [Op.operands])]
  | load t x => simp only [opD, h x (by simp [Op.operands])]
  | store t x y => simp only [opD, h x (by simp [Op.operands]), h y (by simp [Op.operands])]
  | nilCheck x => simp only [opD, h x (by simp [Op.operands])]
  | binOp op t x y yt => simp only [opD, h x (by simp [Op.operands]), h y (by simp [Op.operands])]
  | unOp op t x => simp only [opD, h x (by simp [Op.operands])]
  | convert s d x => simp only [opD, h x (by simp [Op.operands])]
  | makeSlice t x y => simp only [opD, h x (by simp [Op.operands]), h y (by simp [Op.operands])]
  | fieldAddr t x i => simp only [opD, h x (by simp [Op.operands])]
  | field t x i => simp only [opD, h x (by simp [Op.operands])]
  | indexAddr t x y => simp only [opD, h x (by simp [Op.operands]), h y (by simp [Op.operands])]
  | index t x y => simp only [opD, h x (by simp [Op.operands]), h y (by simp [Op.operands])]
  | extract x i => simp only [opD, h x (by simp [Op.operands])]
  | _ => rfl
theorem opD_put {A : Ann} {call : CallF} {ops : Array Oper} {tm : List Dv} {H : List Ob} {o : Oper} {dst : Option Tmp} {d : Dv} (h : ∀ t, dst = some t → t ∉ o.looksAt ops) : opD P A call (putD tm dst d) H o = opD P A call tm H o :=
  opD_congr fun x hx => evalO_put fun t ht => looks_op (h t ht) x hx
theorem putD_comm {tm : List Dv} {x y : Option Tmp} {d e : Dv} (h : ∀ t, x = some t → y ≠ some t) : putD (putD tm x d) y e = putD (putD tm y e) x d := by
  cases x with
  | none => rfl
  | some t =>
    cases y with
    | none => rfl
    | some u =>
      have hne : t ≠ u := fun he => h t rfl (he ▸ rfl)
      simp only [putD]
      rw [List.set_comm _ _ hne]
/-- What does not look at the heap. -/
theorem cls_n {A : Ann} {call : CallF} {quiet : Bool} {tm : List Dv} {H H' : List Ob} {o : Oper} (hc : clsOf quiet o.op = .n) : opD P A call tm H o = opD P A call tm H' o ∧ ∀ d h, opD P A call tm H o = some (d, some h) → False := by
  obtain ⟨dst, op, type, pos, after, guard⟩ := o
  have no : ∀ {r : Option Dv} {d : Dv} {h : List Ob}, (r.map fun d => (d, (none : Option (List Ob)))) = some (d, some h) → False := by
    intro r d h hr
    simp at hr
  cases op with
  | call c =>
    obtain ⟨callee, args, ts⟩ := c
    cases callee with
    | builtin b =>
      cases b with
      | append => simp [clsOf] at hc
      | copy => simp [clsOf] at hc
      | _ => exact ⟨rfl, fun d h hh => by simp [opD, builtinD] at hh⟩
    | value f => cases quiet <;> simp [clsOf] at hc
    | invoke r m => cases quiet <;> simp [clsOf] at hc
  | load => simp [clsOf] at hc
  | slice => simp [clsOf] at hc
  | buildSlice => cases quiet <;> simp [clsOf] at hc
  | store => simp [clsOf] at hc
  | alloc => simp [clsOf] at hc
  | box => simp [clsOf] at hc
  | makeSlice => simp [clsOf] at hc
  | nilCheck x =>
    refine ⟨rfl, fun d h hh => ?_⟩
    simp only [opD] at hh
    split at hh <;> simp at hh
  | makeFunc fn first caps =>
    refine ⟨rfl, fun d h hh => ?_⟩
    simp only [opD] at hh
    split at hh <;> simp at hh
  | pick c x y => exact ⟨rfl, fun d h hh => by simp [opD] at hh⟩
  | move x => exact ⟨rfl, fun d h hh => by simp [opD] at hh⟩
  | assign x => exact ⟨rfl, fun d h hh => by simp [opD] at hh⟩
  | build => exact ⟨rfl, fun d h hh => no hh⟩
  | binOp => exact ⟨rfl, fun d h hh => no hh⟩
  | unOp => exact ⟨rfl, fun d h hh => no hh⟩
  | convert => exact ⟨rfl, fun d h hh => no hh⟩
  | fieldAddr => exact ⟨rfl, fun d h hh => no hh⟩
  | field => exact ⟨rfl, fun d h hh => no hh⟩
  | indexAddr => exact ⟨rfl, fun d h hh => no hh⟩
  | index => exact ⟨rfl, fun d h hh => no hh⟩
  | extract => exact ⟨rfl, fun d h hh => no hh⟩
  | _ => exact ⟨rfl, fun d h hh => by simp [opD] at hh⟩
/-- What leaves the heap as it is. -/
theorem cls_r {A : Ann} {call : CallF} {quiet : Bool} {ops : Array Oper} {o : Oper} {s s' : St} (hc : clsOf quiet o.op ≠ .w) (h : stepD P A call quiet ops o s = some s') : s'.heap = s.heap := by
  unfold stepD at h
  simp only [Option.bind_eq_some_iff] at h
  obtain ⟨b, hb, h⟩ := h
  cases b with
  | false => simp only [Bool.false_eq_true, if_false, Option.some.injEq] at h; subst h; rfl
  | true =>
    simp only [if_true, Option.bind_eq_some_iff] at h
    obtain ⟨⟨d, hh⟩, hop, h⟩ := h
    cases hh with
    | none => simp only [Option.some.injEq] at h; subst h; rfl
    | some H' =>
      simp only [] at h
      split at h
      · cases h
      · rename_i hq
        exfalso
        obtain ⟨dst, op, type, pos, after, guard⟩ := o
        cases hcn : clsOf quiet op with
        | n => exact (cls_n (H' := s.heap) hcn).2 _ _ hop
        | w => exact hc hcn
        | r =>
          cases op with
          | load t x => simp [opD] at hop
          | slice t x lo hi mx =>
            simp only [opD] at hop
            split at hop <;> simp at hop
          | buildSlice t l ps => cases quiet <;> simp_all [clsOf, wrOp]
          | call c =>
            obtain ⟨callee, args, ts⟩ := c
            cases callee with
            | builtin b => cases b <;> simp_all [clsOf]
            | value f => cases quiet <;> simp_all [clsOf, wrOp]
            | invoke r m => simp [opD] at hop
          | _ => simp_all [clsOf]
end
end Go.Ev
