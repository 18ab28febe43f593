/- Calls. -/
import Derived.Test.YtgjhagehbfhioaaEv13
set_option linter.unusedVariables false
set_option linter.unusedSimpArgs false
namespace Go.Ev
section
variable {P : Program} {X M : Nat → Prop} {w : World} {H : List Ob} {ρ : Pl}

/-- What a table of calls must be good for. -/
def CallOk (P : Program) (call : CallF) : Prop := ∀ (f : FuncId) (args : List Dv) (H : List Ob) (r : Dv) (H' : List Ob), call f args H = some (r, H') →
  (∃ fn c, P.funcs[f]? = some fn ∧ fn.body = some c) ∧
  ∀ (X : Nat → Prop) (w : World) (ρ : Pl) (vs : Array Value), Sim X w H ρ → TOk w (Mut X H ρ) H ρ vs args →
    Calls P f vs w fun e w' => ∃ v ρ', e = .returned v ∧ Fin X w H ρ w' H' ρ' v r

theorem RepD.heap {H' : List Ob} {ρ' : Pl} {v : Value} {d : Dv} (h : RepD w M H ρ v d) (hl : H.length ≤ H'.length) (ha : ∀ i, i < H.length → Alive H' i → Alive H i ∧ ρ' i = ρ i) : RepD w M H' ρ' v d := by
  induction h with
  | junk x => exact .junk x
  | p x y hp => exact .p x y hp
  | ref id off len esz A cap hid hn hal =>
    refine .ref id off len esz A cap (Nat.lt_of_lt_of_le hid hl) hn (fun hc => ?_)
    obtain ⟨a, ea, h1⟩ := hal hc
    refine ⟨a, ea, fun h2 => ?_⟩
    obtain ⟨h3, h4⟩ := ha id hid h2
    obtain ⟨b, bs, C, e, e2, hC, hsz⟩ := h1 h3
    exact ⟨b, bs, C, h4.trans e, e2, hC, hsz⟩
  | ptr id off a hid hal =>
    refine .ptr id off a (Nat.lt_of_lt_of_le hid hl) (fun h2 => ?_)
    obtain ⟨h3, h4⟩ := ha id hid h2
    obtain ⟨b, bs, e, e2⟩ := hal h3
    exact ⟨b, bs, h4.trans e, e2⟩
  | agg vs cs hl' h1 hr ih => exact .agg vs cs hl' h1 ih
  | tup vs cs hl' hr ih => exact .tup vs cs hl' ih
  | fn f vs cs hl' hr ih => exact .fn f vs cs hl' ih
theorem RepD.setM {M' : Nat → Prop} (hM : ∀ b, M' b → M b) {v : Value} {d : Dv} (h : RepD w M H ρ v d) : RepD w M' H ρ v d := by
  induction h with
  | junk x => exact .junk x
  | p x y hp => exact .p x y (hp.sub hM)
  | ref id off len esz A cap hid hn hal => exact .ref id off len esz A cap hid hn hal
  | ptr id off a hid hal => exact .ptr id off a hid hal
  | agg vs cs hl' h1 hr ih => exact .agg vs cs hl' h1 ih
  | tup vs cs hl' hr ih => exact .tup vs cs hl' ih
  | fn f vs cs hl' hr ih => exact .fn f vs cs hl' ih
theorem roOf_alive (o : Ob) : (roOf o).alive = o.alive := by cases o <;> rfl
theorem roOf_live (o : Ob) : (roOf o).live = false := by cases o <;> rfl
theorem ro_none (h : List Ob) (ρ : Pl) (b : Nat) : ¬ Live (h.map roOf) ρ b := by
  rintro ⟨i, x, bs, hi, hx, _⟩
  rw [List.getElem?_map] at hi
  cases ho : h[i]? with
  | none => rw [ho] at hi; cases hi
  | some o =>
    rw [ho] at hi
    simp only [Option.map_some, Option.some.injEq] at hi
    subst hi
    rw [roOf_live] at hx
    cases hx
theorem ro_alive {h : List Ob} {i : Nat} (ha : Alive (h.map roOf) i) : Alive h i := by
  obtain ⟨x, hi, hx⟩ := ha
  rw [List.getElem?_map] at hi
  cases ho : h[i]? with
  | none => rw [ho] at hi; cases hi
  | some o =>
    rw [ho] at hi
    simp only [Option.map_some, Option.some.injEq] at hi
    subst hi
    rw [roOf_alive] at hx
    exact ⟨o, ho, hx⟩
theorem ro_rep {v : Value} {d : Dv} (h : RepD w (Mut X H ρ) H ρ v d) : RepD w (Mut (Mut X H ρ) (H.map roOf) ρ) (H.map roOf) ρ v d :=
  (h.setM (fun b hb => by
    rcases hb with hb | hb
    · exact hb
    · exact absurd hb (ro_none _ _ _))).heap (by simp) (fun i _ ha => ⟨ro_alive ha, rfl⟩)
theorem ro_cells {C : Array Value} {bs : Nat} {ds : List Dv} (h : CellsD w (Mut X H ρ) H ρ C bs ds) : CellsD w (Mut (Mut X H ρ) (H.map roOf) ρ) (H.map roOf) ρ C bs ds :=
  ⟨h.1, fun j hj => ⟨(h.2 j hj).1, ro_rep (h.2 j hj).2⟩⟩
theorem ro_cellsP {C : Array Value} {bs : Nat} {ds : List Pv} (h : CellsP w (Mut X H ρ) C bs ds) : CellsP w (Mut (Mut X H ρ) (H.map roOf) ρ) C bs ds :=
  h.sub (fun b hb => by
    rcases hb with hb | hb
    · exact hb
    · exact absurd hb (ro_none _ _ _))
/-- All objects to be read only: their blocks are foreign. -/
theorem Sim.ro (hs : Sim X w H ρ) : Sim (Mut X H ρ) w (H.map roOf) ρ where
  xlt b hb := hs.mut_lt hb
  obs i x hi := by
    rw [List.getElem?_map] at hi
    cases ho : H[i]? with
    | none => rw [ho] at hi; cases hi
    | some o =>
      rw [ho] at hi
      simp only [Option.map_some, Option.some.injEq] at hi
      subst hi
      have hob := hs.obs i o ho
      cases o with
      | dead => trivial
      | var ds =>
        obtain ⟨b, bs, C, e, hx, hC, hcs⟩ := hob
        exact ⟨b, bs, C, e, ro_none _ _ _, hC.blk, ro_cells hcs⟩
      | arr cs =>
        rcases hob with ⟨h0, e⟩ | ⟨b, bs, C, e, hx, hC, hcs⟩
        · exact .inl ⟨h0, e⟩
        · exact .inr ⟨b, bs, C, e, ro_none _ _ _, hC.blk, ro_cellsP hcs⟩
      | frz cs =>
        rcases hob with ⟨h0, e⟩ | ⟨b, bs, C, e, hx, hC, hcs⟩
        · exact .inl ⟨h0, e⟩
        · refine .inr ⟨b, bs, C, e, fun hm => ?_, hC, ro_cellsP hcs⟩
          rcases hm with hm | hm
          · exact hx hm
          · exact absurd hm (ro_none _ _ _)
      | ro ds =>
        obtain ⟨b, bs, C, e, hx, hC, hcs⟩ := hob
        exact ⟨b, bs, C, e, ro_none _ _ _, hC, ro_cells hcs⟩
      | roa cs =>
        rcases hob with ⟨h0, e⟩ | ⟨b, bs, C, e, hx, hC, hcs⟩
        · exact .inl ⟨h0, e⟩
        · exact .inr ⟨b, bs, C, e, ro_none _ _ _, hC, ro_cellsP hcs⟩
  inj i j x y b bs bs' hi hj hx hy ei ej := by
    exact absurd ⟨i, x, bs, hi, hx, ei⟩ (ro_none H ρ b)

/-- A pure result of a callee that may write nothing. -/
theorem pure_fin {X' : Nat → Prop} {hin h : List Ob} {ρc ρ' : Pl} {w' : World} {v : Value} {x : Pv} (hs : Sim X w H ρ) (hn : ∀ b, ¬ Live hin ρc b) (hX : ∀ b, Mut X H ρ b → X' b) (hf : Fin X' w hin ρc w' h ρ' v (.p x)) :
    Fin X w H ρ w' H ρ v (.p x) :=
  have hb : ∀ b, b < w.heap.size → w'.heap[b]? = w.heap[b]? := fun b h1 => hf.evo.block b h1 (hn b)
  ⟨Evo.world hf.evo.os hf.evo.tape hf.evo.output hf.evo.size hb, hs.world hf.evo.os hf.evo.tape hf.evo.output hf.evo.size hb, .p _ _ (hf.rep.toP.sub fun b h1 => .inl (hX b h1))⟩

/-! ### Giving slices away -/
theorem giveD_ok (hs : Sim X w H ρ) (l' : List Nat) : ∀ (ds : List Dv), (∀ i ∈ (giveD H ds).2, i ∈ l') →
    (giveD H ds).1.length = ds.length ∧ ∀ j (h1 : j < ds.length) (h2 : j < (giveD H ds).1.length) (v : Value), RepD w (Mut X H ρ) H ρ v ds[j] → RepD w (Mut X (freezeAll H l') ρ) (freezeAll H l') ρ v (giveD H ds).1[j] := by
  obtain ⟨he, hs'⟩ := freeze_all l' hs
  intro ds
  induction ds with
  | nil => intro _; exact ⟨rfl, fun j h1 => absurd h1 (by simp)⟩
  | cons d ds ih =>
    intro hl
    have same : ∀ {r : List Dv × List Nat}, giveD H (d :: ds) = (d :: (giveD H ds).1, (giveD H ds).2) → (giveD H (d :: ds)).1.length = (d :: ds).length ∧ ∀ j (h1 : j < (d :: ds).length) (h2 : j < (giveD H (d :: ds)).1.length) (v : Value), RepD w (Mut X H ρ) H ρ v (d :: ds)[j] → RepD w (Mut X (freezeAll H l') ρ) (freezeAll H l') ρ v (giveD H (d :: ds)).1[j] := by
      intro _ e
      obtain ⟨h1, h2⟩ := ih (fun i hi => hl i (by rw [e]; exact hi))
      refine ⟨by rw [e]; simp [h1], fun j h3 h4 v hv => ?_⟩
      cases j with
      | zero => simp only [e, List.getElem_cons_zero]; exact hv.evo he
      | succ j =>
        simp only [e, List.getElem_cons_succ]
        exact h2 j (by simpa using h3) (by rw [h1]; simpa using h3) v hv
    have frz : ∀ (x : Pv) (m : List Nat), giveD H (d :: ds) = (.p x :: (giveD H ds).1, m) → (∀ i ∈ (giveD H ds).2, i ∈ m) → (∀ v, RepD w (Mut X H ρ) H ρ v d → RepP w (Mut X (freezeAll H l') ρ) v x) →
        (giveD H (d :: ds)).1.length = (d :: ds).length ∧ ∀ j (h1 : j < (d :: ds).length) (h2 : j < (giveD H (d :: ds)).1.length) (v : Value), RepD w (Mut X H ρ) H ρ v (d :: ds)[j] → RepD w (Mut X (freezeAll H l') ρ) (freezeAll H l') ρ v (giveD H (d :: ds)).1[j] := by
      intro x m e hm hx
      obtain ⟨h1, h2⟩ := ih (fun i hi => hl i (by rw [e]; exact hm i hi))
      refine ⟨by rw [e]; simp [h1], fun j h3 h4 v hv => ?_⟩
      cases j with
      | zero => simp only [e, List.getElem_cons_zero]; exact .p _ _ (hx v hv)
      | succ j =>
        simp only [e, List.getElem_cons_succ]
        exact h2 j (by simpa using h3) (by rw [h1]; simpa using h3) v hv
    cases d with
    | ref id off len esz =>
      cases hid : H[id]? with
      | none => exact same (r := ([], [])) (by simp only [giveD, hid])
      | some o =>
        cases o with
        | arr cs =>
          by_cases hsz : off + len * esz ≤ cs.length
          · have e : giveD H (.ref id off len esz :: ds) = (.p (.lst false len ((cs.drop off).take (len * esz))) :: (giveD H ds).1, id :: (giveD H ds).2) := by simp only [giveD, hid, if_pos hsz]
            refine frz _ _ e (fun i hi => by simp [hi]) (fun v hv => ?_)
            exact frz_slice hs' (freezeAll_get (.inr (.inl ⟨hl id (by rw [e]; simp), hid⟩))) (hv.evo he) hsz
          · exact same (r := ([], [])) (by simp only [giveD, hid, if_neg hsz])
        | frz cs =>
          by_cases hsz : off + len * esz ≤ cs.length
          · have e : giveD H (.ref id off len esz :: ds) = (.p (.lst false len ((cs.drop off).take (len * esz))) :: (giveD H ds).1, (giveD H ds).2) := by simp only [giveD, hid, if_pos hsz]
            refine frz _ _ e (fun i hi => hi) (fun v hv => ?_)
            exact frz_slice hs' (freezeAll_get (.inl hid)) (hv.evo he) hsz
          · exact same (r := ([], [])) (by simp only [giveD, hid, if_neg hsz])
        | dead => exact same (r := ([], [])) (by simp only [giveD, hid])
        | var ds => exact same (r := ([], [])) (by simp only [giveD, hid])
        | ro ds => exact same (r := ([], [])) (by simp only [giveD, hid])
        | roa ds => exact same (r := ([], [])) (by simp only [giveD, hid])
    | p x => exact frz (Go.Ev.wk x) (giveD H ds).2 (by simp only [giveD]) (fun i hi => hi) (fun v hv => (hv.evo he).toP.wk)
    | _ => exact same (r := ([], [])) (by simp only [giveD])
theorem giveD_tok (hs : Sim X w H ρ) {ds : List Dv} {vs : Array Value} (h : TOk w (Mut X H ρ) H ρ vs ds) : TOk w (Mut X (freezeAll H (giveD H ds).2) ρ) (freezeAll H (giveD H ds).2) ρ vs (giveD H ds).1 := by
  obtain ⟨h1, h2⟩ := giveD_ok hs (giveD H ds).2 ds (fun i hi => hi)
  exact ⟨by rw [h1]; exact h.1, fun j hj => h2 j (by rw [← h1]; exact hj) hj _ (h.2 j (by rw [← h1]; exact hj))⟩

theorem Fin.trans {w1 w2 : World} {H1 H2 : List Ob} {ρ1 ρ2 : Pl} {v : Value} {d : Dv} (he : Evo H.length w H ρ w1 H1 ρ1) (hl : H1.length = H.length) (hf : Fin X w1 H1 ρ1 w2 H2 ρ2 v d) : Fin X w H ρ w2 H2 ρ2 v d :=
  ⟨he.trans (hl ▸ hf.evo), hf.sim, hf.rep⟩
theorem someIf_getD {b : Bool} {H1 : List Ob} (h : b = false → H1 = H) : (someIf b H1).getD H = H1 := by
  cases b with
  | true => rfl
  | false => exact (h rfl).symm
theorem callD_ok {call : CallF} (hc : CallOk P call) {A : Ann} (hs : Sim X w H ρ) {f : FuncId} {args : List Dv} {vs : Array Value} (ht : TOk w (Mut X H ρ) H ρ vs args) {d : Dv} {hh : Option (List Ob)} (h : callD call A H f args = some (d, hh)) :
    (∃ fn c, P.funcs[f]? = some fn ∧ fn.body = some c) ∧ Calls P f vs w fun e w' => ∃ v ρ', e = .returned v ∧ Fin X w H ρ w' (hh.getD H) ρ' v d := by
  unfold callD at h
  simp only [] at h
  have hgv : ∃ gv : List Dv × List Nat, (if A.muts f || A.ros f then (args, []) else giveD H args) = gv ∧ TOk w (Mut X (freezeAll H gv.2) ρ) (freezeAll H gv.2) ρ vs gv.1 := by
    refine ⟨_, rfl, ?_⟩
    split
    · exact ht
    · exact giveD_tok hs ht
  obtain ⟨gv, egv, htv⟩ := hgv
  rw [egv] at h
  obtain ⟨he0, hs0⟩ := freeze_all gv.2 hs
  have hl0 := freezeAll_length H gv.2
  have hH1 : gv.2.isEmpty = true → freezeAll H gv.2 = H := by intro h0; rw [List.isEmpty_iff.1 h0]; rfl
  generalize freezeAll H gv.2 = H1 at *
  generalize hacc : collect H1 64 (refsOfs gv.1) [] = acc at *
  split at h
  · rename_i hok
    have ha := accOk_spec hok
    simp only [Option.bind_eq_some_iff] at h
    obtain ⟨⟨r, hp⟩, hcl, h⟩ := h
    simp only [] at h
    obtain ⟨hex, hcalls⟩ := hc _ _ _ _ _ hcl
    refine ⟨hex, ?_⟩
    have hst := lent_sim hs0 ha
    have htt := TOk.take (X' := lentX X H1 ρ acc) ha (fun b hb => (lentX_mut ha b).1 hb) htv
    have hgd : ∀ {H2 : List Ob}, (someIf (!gv.2.isEmpty) H1).getD H = H1 := by
      intro _
      refine someIf_getD (fun h0 => hH1 (by simpa using h0))
    have purec : ∀ {x : Pv}, r = .p x → (A.muts f = false ∨ acc = []) → Calls P f vs w fun e w' => ∃ v ρ', e = .returned v ∧ Fin X w H ρ w' H1 ρ' v (.p x) := by
      intro x hr hcase
      subst hr
      cases hm : A.muts f with
      | false =>
        have hin : lentD A f H1 acc = (takeAlong H1 acc).map roOf := by simp [lentD, hm]
        rw [hin] at hcl hcalls
        refine (hcalls (Mut (lentX X H1 ρ acc) (takeAlong H1 acc) (accPl ρ acc)) w (accPl ρ acc) vs hst.ro ⟨htt.1, fun j hj => ro_rep (htt.2 j hj)⟩).mono fun e w' ⟨v, ρ', he, hf⟩ => ⟨v, ρ, he, ?_⟩
        exact Fin.trans he0 hl0 (pure_fin hs0 (ro_none _ _) (fun b hb => (lentX_mut ha b).2 hb) hf)
      | true =>
        have hacc0 : acc = [] := by
          rcases hcase with h1 | h1
          · rw [hm] at h1; cases h1
          · exact h1
        subst hacc0
        have hin : lentD A f H1 [] = takeAlong H1 [] := by simp [lentD, hm]
        rw [hin] at hcl hcalls
        refine (hcalls (lentX X H1 ρ []) w (accPl ρ []) vs hst htt).mono fun e w' ⟨v, ρ', he, hf⟩ => ⟨v, ρ, he, ?_⟩
        have hnl : ∀ b, ¬ Live (takeAlong H1 []) (accPl ρ []) b := by
          rintro b ⟨i, x, bs, hi, _⟩
          simp [takeAlong] at hi
        refine Fin.trans he0 hl0 (pure_fin hs0 hnl (fun b hb => ?_) hf)
        rcases (lentX_mut ha b).2 hb with h1 | h1
        · exact h1
        · exact absurd h1 (hnl b)
    split at h
    · rename_i hm
      simp only [Option.some.injEq, Prod.mk.injEq] at h
      obtain ⟨rfl, rfl⟩ := h
      rw [hgd (H2 := H)]
      exact purec rfl (.inl hm)
    · rename_i hm hacc2
      simp only [Option.some.injEq, Prod.mk.injEq] at h
      obtain ⟨rfl, rfl⟩ := h
      rw [hgd (H2 := H)]
      exact purec rfl (.inr rfl)
    · rename_i acc hp r x0 acc2 hp2 r2 hno1 hno2
      split at h
      · rename_i hcond
        simp only [Bool.and_eq_true, decide_eq_true_eq, Bool.or_eq_true] at hcond
        obtain ⟨⟨h1, h2⟩, h3⟩ := hcond
        simp only [Option.some.injEq, Prod.mk.injEq] at h
        obtain ⟨rfl, rfl⟩ := h
        have hin : lentD A f H1 acc = takeAlong H1 acc := by
          rcases h1 with h1 | h1
          · simp [lentD, h1]
          · rw [List.isEmpty_iff.1 h1]; unfold lentD; split <;> rfl
        rw [hin] at hcl hcalls
        refine (hcalls (lentX X H1 ρ acc) w (accPl ρ acc) vs hst htt).mono fun e w' ⟨v, ρ', he, hf⟩ => ⟨v, backPl ρ ρ' H1.length acc.length, he, ?_⟩
        obtain ⟨h4, h5, h6⟩ := back_fin hs0 ha h2 h3 hf.evo hf.sim
        exact Fin.trans he0 hl0 ⟨h4, h5, h6 _ _ hf.rep⟩
      · cases h
  · cases h
end
end Go.Ev
