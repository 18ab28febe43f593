/- A region whose order is drawn: the order of the text serves. -/
import Derived.Test.YtgjhagehbfhioaaEv16
set_option linter.unusedVariables false
set_option linter.unusedSimpArgs false
namespace Go.Ev
section
variable {P : Program} {X M : Nat → Prop} {w : World} {H : List Ob} {ρ : Pl}

theorem step_form {call : CallF} {A : Ann} {quiet : Bool} {ops : Array Oper} {o : Oper} {s s' : St} (h : stepD P A call quiet ops o s = some s') :
    ∃ d hh, s' = ⟨putD s.tmps o.dst d, Option.getD hh s.heap, s.nin⟩ ∧ (clsOf quiet o.op ≠ .w → hh = none ∨ s'.heap = s.heap) ∧
      ∀ tm H nin, wantD ops tm o = wantD ops s.tmps o → opD P A call tm H o = opD P A call s.tmps s.heap o → stepD P A call quiet ops o ⟨tm, H, nin⟩ = some ⟨putD tm o.dst d, Option.getD hh H, nin⟩ := by
  have h0 := h
  unfold stepD at h
  simp only [Option.bind_eq_some_iff] at h
  obtain ⟨b, hb, h⟩ := h
  cases b with
  | false =>
    simp only [Bool.false_eq_true, if_false, Option.some.injEq] at h
    subst h
    refine ⟨undefD, none, rfl, fun _ => .inl rfl, fun tm H nin h1 h2 => ?_⟩
    unfold stepD
    simp only [h1, hb, Option.bind_some, Bool.false_eq_true, if_false, Option.getD_none]
  | true =>
    simp only [if_true, Option.bind_eq_some_iff] at h
    obtain ⟨⟨d, hh⟩, hop, h⟩ := h
    cases hh with
    | none =>
      simp only [Option.some.injEq] at h
      subst h
      refine ⟨d, none, rfl, fun _ => .inl rfl, fun tm H nin h1 h2 => ?_⟩
      unfold stepD
      simp only [h1, hb, Option.bind_some, if_true, h2, hop, Option.getD_none]
    | some H' =>
      simp only [] at h
      split at h
      · cases h
      · rename_i hq
        simp only [Option.some.injEq] at h
        subst h
        refine ⟨d, some H', rfl, fun hc => .inr (cls_r hc h0), fun tm H nin h1 h2 => ?_⟩
        unfold stepD
        simp only [h1, hb, Option.bind_some, if_true, h2, hop, Option.getD_some]
        rw [if_neg hq]
theorem step_swap {call : CallF} {A : Ann} {quiet : Bool} {ops : Array Oper} {oi oj : Oper} {s s1 s2 : St} (hap : oi.apart ops oj = true) (hcp : compat (clsOf quiet oi.op) (clsOf quiet oj.op) = true)
    (h1 : stepD P A call quiet ops oi s = some s1) (h2 : stepD P A call quiet ops oj s1 = some s2) : ∃ t, stepD P A call quiet ops oj s = some t ∧ stepD P A call quiet ops oi t = some s2 := by
  obtain ⟨a1, a2, a3⟩ := Oper.apart_spec hap
  obtain ⟨di, hi, e1, c1, f1⟩ := step_form h1
  obtain ⟨dj, hj, e2, c2, f2⟩ := step_form h2
  have t1 : s1.tmps = putD s.tmps oi.dst di := by rw [e1]
  have t2 : s1.heap = Option.getD hi s.heap := by rw [e1]
  have t3 : s1.nin = s.nin := by rw [e1]
  have w1 : wantD ops s.tmps oj = wantD ops s1.tmps oj := by rw [t1, wantD_put (fun t ht => a1 t ht)]
  have heapi : clsOf quiet oi.op ≠ .w → s1.heap = s.heap := fun hc => cls_r hc h1
  have heapj : clsOf quiet oj.op ≠ .w → s2.heap = s1.heap := fun hc => cls_r hc h2
  have o1 : opD P A call s.tmps s.heap oj = opD P A call s1.tmps s1.heap oj := by
    rw [t1, opD_put (fun t ht => a1 t ht)]
    cases hc : clsOf quiet oi.op with
    | n => rw [heapi (by rw [hc]; simp)]
    | r => rw [heapi (by rw [hc]; simp)]
    | w =>
      have : clsOf quiet oj.op = .n := by cases hcj : clsOf quiet oj.op <;> simp_all [compat]
      exact (cls_n this).1
  have g1 := f2 s.tmps s.heap s.nin w1 o1
  refine ⟨_, g1, ?_⟩
  have w2 : wantD ops (putD s.tmps oj.dst dj) oi = wantD ops s.tmps oi := wantD_put (fun t ht => a3 t ht)
  -- the heap that j leaves, seen from i
  have o2 : opD P A call (putD s.tmps oj.dst dj) (Option.getD hj s.heap) oi = opD P A call s.tmps s.heap oi := by
    rw [opD_put (fun t ht => a3 t ht)]
    cases hc : clsOf quiet oi.op with
    | n => exact (cls_n hc).1
    | r =>
      have hcj : clsOf quiet oj.op ≠ .w := by intro e; rw [hc, e] at hcp; simp [compat] at hcp
      have : Option.getD hj s.heap = s.heap := by
        have := cls_r hcj g1
        simpa using this
      rw [this]
    | w =>
      have hcj : clsOf quiet oj.op ≠ .w := by intro e; rw [hc, e] at hcp; simp [compat] at hcp
      have : Option.getD hj s.heap = s.heap := by
        have := cls_r hcj g1
        simpa using this
      rw [this]
  have g2 := f1 (putD s.tmps oj.dst dj) (Option.getD hj s.heap) s.nin w2 o2
  rw [g2, e2, t1, t2, t3]
  congr 2
  · exact (putD_comm (fun t ht => a2 t ht)).symm
  · cases hc : clsOf quiet oi.op with
    | w =>
      have hcj : clsOf quiet oj.op ≠ .w := by intro e; rw [hc, e] at hcp; simp [compat] at hcp
      have x1 : Option.getD hj s.heap = s.heap := by
        have := cls_r hcj g1
        simpa using this
      have x2 : Option.getD hj s1.heap = s1.heap := by
        have := heapj hcj
        rw [e2] at this
        simpa using this
      rw [t2] at x2
      rw [x1, x2]
    | _ =>
      have hci : clsOf quiet oi.op ≠ .w := by rw [hc]; simp
      have x1 : Option.getD hi s.heap = s.heap := by rw [← t2]; exact heapi hci
      have x2 : Option.getD hi (Option.getD hj s.heap) = Option.getD hj s.heap := by
        have := cls_r hci g2
        simpa using this
      rw [x1, x2]

/-! ### What waits for what -/
inductive Chain (ops : Array Oper) : Nat → Nat → Prop
  | one {j : Nat} {o : Oper} {e : Edge} (hj : ops[j]? = some o) (he : e ∈ o.after) (hb : Region.binds .any e = true) : Chain ops j e.on
  | more {j i : Nat} {o : Oper} {e : Edge} (hj : ops[j]? = some o) (he : e ∈ o.after) (hb : Region.binds .any e = true) (h : Chain ops e.on i) : Chain ops j i
def Closed (ops : Array Oper) (listed : Array Bool) : Prop := ∀ (j : Nat) (o : Oper), ops[j]? = some o → listed.getD j false = true → ∀ e ∈ o.after, Region.binds .any e = true → listed.getD e.on false = true
theorem chain_listed {ops : Array Oper} {listed : Array Bool} (hcl : Closed ops listed) {j i : Nat} (h : Chain ops j i) : (listed.getD j false = true ∨ j ∈ Region.ready .any ops listed) → listed.getD i false = true := by
  induction h with
  | one hj he hb =>
    rintro (h | h)
    · exact hcl _ _ hj h _ he hb
    · obtain ⟨_, o', ho', hall⟩ := mem_ready.1 h
      rw [hj] at ho'
      obtain rfl := Option.some.inj ho'
      exact hall _ he hb
  | more hj he hb hch ih =>
    rintro (h | h)
    · exact ih (.inl (hcl _ _ hj h _ he hb))
    · obtain ⟨_, o', ho', hall⟩ := mem_ready.1 h
      rw [hj] at ho'
      obtain rfl := Option.some.inj ho'
      exact ih (.inl (hall _ he hb))
theorem maskOf_spec {acc : List Nat} : ∀ (l : List Edge) (s i : Nat), (maskOf acc l s).testBit i = true → s.testBit i = true ∨ ∃ e ∈ l, Region.binds .any e = true ∧ (e.on = i ∨ (acc.getD e.on 0).testBit i = true)
  | [], s, i, h => .inl h
  | e :: l, s, i, h => by
    simp only [maskOf] at h
    rcases maskOf_spec l _ i h with h1 | ⟨e', he', h1⟩
    · split at h1
      · rename_i hb
        simp only [Nat.testBit_or, Bool.or_eq_true, Nat.testBit_two_pow, decide_eq_true_eq] at h1
        rcases h1 with (h1 | h1) | h1
        · exact .inl h1
        · exact .inr ⟨e, by simp, hb, .inl h1⟩
        · exact .inr ⟨e, by simp, hb, .inr h1⟩
      · exact .inl h1
    · exact .inr ⟨e', by simp [he'], h1⟩
theorem waitsGo_spec {ops : Array Oper} : ∀ (l : List Oper) (acc : List Nat), (∀ j, l[j]? = ops[acc.length + j]?) → (∀ j i, (acc.getD j 0).testBit i = true → Chain ops j i) →
    ∀ j i, ((waitsGo l acc).getD j 0).testBit i = true → Chain ops j i
  | [], acc, _, h => h
  | o :: l, acc, hl, h => by
    simp only [waitsGo]
    have h0 : ops[acc.length]? = some o := by simpa using (hl 0).symm
    refine waitsGo_spec l _ (fun j => ?_) (fun j i hji => ?_)
    · have := hl (j + 1)
      simp only [List.getElem?_cons_succ] at this
      rw [this, List.length_append, List.length_singleton, Nat.add_assoc, Nat.add_comm 1 j]
    · by_cases hj : j < acc.length
      · apply h
        simpa [List.getD, List.getElem?_append_left hj] using hji
      · by_cases hj2 : j = acc.length
        · subst hj2
          have e : (acc ++ [maskOf acc o.after.toList 0]).getD acc.length 0 = maskOf acc o.after.toList 0 := by simp [List.getD]
          rw [e] at hji
          rcases maskOf_spec _ _ _ hji with h1 | ⟨e', he', hb, h1⟩
          · simp at h1
          · have he2 : e' ∈ o.after := by simpa using he'
            rcases h1 with rfl | h1
            · exact .one h0 he2 hb
            · exact .more h0 he2 hb (h _ _ h1)
        · have e : (acc ++ [maskOf acc o.after.toList 0]).getD j 0 = 0 := by
            simp only [List.getD]
            rw [List.getElem?_eq_none (by simp; omega)]
            rfl
          rw [e] at hji
          simp at hji
theorem waits_spec {ops : Array Oper} {j i : Nat} (h : ((waits ops.toList).getD j 0).testBit i = true) : Chain ops j i :=
  waitsGo_spec ops.toList [] (fun j => by simp) (fun j i h => by simp at h) j i h
theorem pairsOk_spec {quiet : Bool} {opsA : Array Oper} {ws : List Nat} : ∀ (l : List (Oper × Nat)), pairsOk quiet opsA ws l = true → ∀ (a b : Nat) (x y : Oper × Nat), a < b → l[a]? = some x → l[b]? = some y →
    (ws.getD y.2 0).testBit x.2 = true ∨ (x.1.apart opsA y.1 = true ∧ compat (clsOf quiet x.1.op) (clsOf quiet y.1.op) = true)
  | [], _, a, b, x, y, _, hx, _ => by simp at hx
  | (o, i) :: l, h, a, b, x, y, hab, hx, hy => by
    simp only [pairsOk, Bool.and_eq_true] at h
    cases a with
    | zero =>
      obtain ⟨b', rfl⟩ : ∃ b', b = b' + 1 := ⟨b - 1, by omega⟩
      simp only [List.getElem?_cons_zero, Option.some.injEq] at hx
      simp only [List.getElem?_cons_succ] at hy
      subst hx
      have := List.all_eq_true.1 h.1 y (List.mem_of_getElem? hy)
      simp only [Bool.or_eq_true, Bool.and_eq_true] at this
      exact this
    | succ a =>
      obtain ⟨b', rfl⟩ : ∃ b', b = b' + 1 := ⟨b - 1, by omega⟩
      exact pairsOk_spec l h.2 a b' x y (by omega) (by simpa using hx) (by simpa using hy)

/-- An operation that may come up now may be taken first. -/
theorem aAny_first {call : CallF} {A : Ann} {quiet : Bool} {ops : Array Oper} {sf : St} {i : Nat} {oi : Oper} (hi : ops[i]? = some oi) : ∀ (fuel : Nat) (listed : Array Bool) (s s1 : St), listed.size = ops.size → Closed ops listed →
    (∀ j oj, ops[j]? = some oj → j ≠ i → listed.getD j true = false → ¬ Chain ops j i → oi.apart ops oj = true ∧ compat (clsOf quiet oi.op) (clsOf quiet oj.op) = true) →
    i ∈ Region.ready .any ops listed → stepD P A call quiet ops oi s = some s1 → aAny P A call quiet ops sf fuel (listed.setIfInBounds i true) s1 → aAny P A call quiet ops sf (fuel + 1) listed s := by
  intro fuel
  induction fuel with
  | zero =>
    intro listed s s1 hsz hcl hfree hr hst H
    refine ⟨fun h => (by rw [h] at hr; cases hr), fun j hj => ?_⟩
    by_cases hji : j = i
    · subst hji
      exact ⟨s1, by simp [aOp, hi, hst], H⟩
    · have := ready_mono hj hji
      rw [H.1] at this
      cases this
  | succ fuel ih =>
    intro listed s s1 hsz hcl hfree hr hst H
    refine ⟨fun h => (by rw [h] at hr; cases hr), fun j hj => ?_⟩
    by_cases hji : j = i
    · subst hji
      exact ⟨s1, by simp [aOp, hi, hst], H⟩
    · obtain ⟨s2, h1, h2⟩ := H.2 j (ready_mono hj hji)
      obtain ⟨hjun, oj, hoj, hall⟩ := mem_ready.1 hj
      have hiun := (mem_ready.1 hr).1
      have hilt : i < ops.size := (Array.getElem?_eq_some_iff.1 hi).1
      have hnot : ¬ Chain ops j i := fun hc => by
        have := chain_listed hcl hc (.inr hj)
        simp [show i < listed.size from by omega] at this hiun
        rw [this] at hiun; cases hiun
      obtain ⟨hap, hcp⟩ := hfree j oj hoj hji hjun hnot
      simp only [aOp, hoj] at h1
      obtain ⟨t, g1, g2⟩ := step_swap hap hcp hst h1
      refine ⟨t, by simp [aOp, hoj, g1], ?_⟩
      refine ih (listed.setIfInBounds j true) t s2 (by simp [hsz]) (fun k ok hk hl e he hb => ?_) (fun k ok hk hki hun hno => ?_) (ready_mono hr (Ne.symm hji)) g2 ?_
      · by_cases hjk : j = k
        · subst hjk
          rw [hoj] at hk
          obtain rfl := Option.some.inj hk
          exact getD_set_true (hall e he hb)
        · rw [getD_set_ne false hjk] at hl
          exact getD_set_true (hcl k ok hk hl e he hb)
      · refine hfree k ok hk hki ?_ hno
        by_cases hjk : j = k
        · subst hjk; exact hjun
        · rw [getD_set_ne true hjk] at hun; exact hun
      · rw [Array.setIfInBounds_comm _ _ hji]
        exact h2
theorem ready_nil {ops : Array Oper} {listed : Array Bool} (h : ∀ j, j < ops.size → listed.getD j true = true) : Region.ready .any ops listed = [] := by
  rw [List.eq_nil_iff_forall_not_mem]
  intro j hj
  obtain ⟨h1, o, ho, _⟩ := mem_ready.1 hj
  rw [h j (Array.getElem?_eq_some_iff.1 ho).1] at h1
  cases h1
/-- The order of the text serves every order. -/
theorem aAny_lex {call : CallF} {A : Ann} {quiet : Bool} {ops : Array Oper} {sf : St} (hB : regB quiet ops = true) : ∀ (l : List Oper) (k : Nat) (listed : Array Bool) (s : St), (∀ j, l[j]? = ops[k + j]?) → listed.size = ops.size →
    (∀ j, j < ops.size → listed.getD j true = decide (j < k)) → k + l.length = ops.size → opsD P A call quiet ops l s = some sf → aAny P A call quiet ops sf l.length listed s
  | [], k, listed, s, hl, hsz, hlist, hk, h => by
    simp only [opsD, Option.some.injEq] at h
    subst h
    refine ⟨ready_nil (fun j hj => ?_), rfl⟩
    rw [hlist j hj]
    simp only [List.length_nil, Nat.add_zero] at hk
    simp; omega
  | o :: l, k, listed, s, hl, hsz, hlist, hk, h => by
    simp only [opsD, Option.bind_eq_some_iff] at h
    obtain ⟨s1, h1, h2⟩ := h
    have h0 : ops[k]? = some o := by simpa using (hl 0).symm
    have hklt : k < ops.size := (Array.getElem?_eq_some_iff.1 h0).1
    have hlist' : ∀ j, j < ops.size → listed.getD j false = decide (j < k) := by
      intro j hj
      have := hlist j hj
      simp [show j < listed.size from by omega] at this ⊢
      exact this
    simp only [regB, Bool.and_eq_true] at hB
    have hedge : ∀ (j : Nat) (oj : Oper), ops[j]? = some oj → ∀ e ∈ oj.after, Region.binds .any e = true → e.on < j := by
      intro j oj hj e he hb
      have hm : (oj, j) ∈ ops.toList.zipIdx := by
        rw [List.mem_zipIdx_iff_getElem?]
        simpa using hj
      have := List.all_eq_true.1 hB.1 (oj, j) hm
      have := List.all_eq_true.1 this e (by simpa using he)
      simp only [Bool.or_eq_true, Bool.not_eq_true', decide_eq_true_eq] at this
      rcases this with h3 | h3
      · rw [hb] at h3; cases h3
      · exact h3
    refine aAny_first h0 l.length listed s s1 hsz (fun j oj hj hl' e he hb => ?_) (fun j oj hj hjk hun hno => ?_) ?_ h1 ?_
    · have hjlt := (Array.getElem?_eq_some_iff.1 hj).1
      rw [hlist' j hjlt] at hl'
      have := hedge j oj hj e he hb
      rw [hlist' e.on (by omega)]
      simp only [decide_eq_true_eq] at hl' ⊢
      omega
    · have hjlt := (Array.getElem?_eq_some_iff.1 hj).1
      rw [hlist j hjlt] at hun
      simp only [decide_eq_false_iff_not] at hun
      have hkj : k < j := by omega
      have hz : ∀ (q : Nat) (oq : Oper), ops[q]? = some oq → ops.toList.zipIdx[q]? = some (oq, q) := by
        intro q oq hq
        rw [List.getElem?_zipIdx]
        simp [hq]
      rcases pairsOk_spec _ hB.2 k j (o, k) (oj, j) hkj (hz k o h0) (hz j oj hj) with h3 | h3
      · exact absurd (waits_spec h3) hno
      · exact h3
    · rw [mem_ready]
      refine ⟨by rw [hlist k hklt]; simp, o, h0, fun e he hb => ?_⟩
      have := hedge k o h0 e he hb
      rw [hlist' e.on (by omega)]
      simp [this]
    · refine aAny_lex (by simp only [regB, Bool.and_eq_true]; exact hB) l (k + 1) _ s1 (fun j => ?_) (by simp [hsz]) (fun j hj => ?_) (by simp only [List.length_cons] at hk; omega) h2
      · have := hl (j + 1)
        simp only [List.getElem?_cons_succ] at this
        rw [this, Nat.add_assoc, Nat.add_comm 1 j]
      · by_cases hjk : k = j
        · subst hjk
          simp [show k < listed.size from by omega]
        · rw [getD_set_ne true hjk, hlist j hj]
          simp only [decide_eq_decide]
          omega
theorem region_ok {call : CallF} (hc : CallOk P call) (hN : Names P) (hm : P.follows .mixedOrders = true) {A : Ann} {fid id : Nat} {ops : Array Oper} {draw : Bool} (hB : (!draw || regB (!A.loud fid id) ops) = true) {Q : Exit → Act → World → Prop} {n : Nat} {s s' : St} {a : Act}
    (hs : StOk X w s ρ a) (h : opsD P A call (draw && !A.loud fid id) ops ops.toList s = some s') (hn : n ≤ s.heap.length)
    (hQ : ∀ w' ρ' a', Evo n w s.heap ρ w' s'.heap ρ' → StOk X w' s' ρ' a' → Q .normal a' w') : (Code.region id ops draw).wp P Q a w := by
  cases draw with
  | false => exact wp_region_list (list_ok hc hN ops.toList s s' w ρ a hs h hn hQ)
  | true =>
    simp only [Bool.not_true, Bool.false_or, Bool.true_and] at hB h
    refine wp_region_any hm ?_
    have hs1 : StOk X { w with drawn := w.drawn + 1 } s ρ a := ⟨hs.sim.drew, hs.tok.evo (Evo.drew w s.heap ρ), hs.defers⟩
    have := aAny_lex (P := P) (A := A) (call := call) hB ops.toList 0 (Array.replicate ops.size false) s (fun j => by simp) (by simp) (fun j hj => by simp [hj]) (by simp) h
    simp only [Array.length_toList] at this
    exact any_ok hc hN _ _ s _ ρ a hs1 this hn (fun w' ρ' a' he hs' => hQ w' ρ' a' (((Evo.drew w s.heap ρ).mono hn).trans he) hs')
end
end Go.Ev
