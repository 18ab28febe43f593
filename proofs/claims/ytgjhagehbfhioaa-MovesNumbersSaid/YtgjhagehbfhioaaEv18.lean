/- Ghosts, code, functions: a call that the abstract interpreter carries out is carried out by the model. -/
import Derived.Test.YtgjhagehbfhioaaEv17
import Derived.LoopN
set_option linter.unusedVariables false
set_option linter.unusedSimpArgs false
namespace Go.Ev
section
variable {P : Program} {X M : Nat → Prop} {w : World} {H : List Ob} {ρ : Pl}

theorem TOk.setD {vs : Array Value} {tm : List Dv} (h : TOk w M H ρ vs tm) {t : Nat} {d : Dv} (hd : t < tm.length → RepD w M H ρ (vs.getD t undef) d) : TOk w M H ρ vs (tm.set t d) := by
  refine ⟨by simp [h.1], fun j hj => ?_⟩
  simp only [List.length_set] at hj
  by_cases ht : t = j
  · subst ht
    have e : (tm.set t d)[t]'(by simpa using hj) = d := by simp
    rw [e]; exact hd hj
  · have e : (tm.set t d)[j]'(by simpa using hj) = tm[j] := by simp [List.getElem_set, ht]
    rw [e]; exact h.2 j hj
theorem kill_tok : ∀ (l : List Nat) {vs : Array Value} {tm : List Dv}, TOk w M H ρ vs tm → TOk w M H ρ vs (killD l tm)
  | [], _, _, h => h
  | i :: l, _, _, h => kill_tok l (h.setD (fun _ => .junk _))
theorem purifyT_ok (hs : Sim X w H ρ) : ∀ {ds : List Dv} {xs : List Pv} {l : List Nat}, purifyT H ds = some (xs, l) → ∀ (l' : List Nat), (∀ i ∈ l, i ∈ l') →
    xs.length = ds.length ∧ ∀ j (h1 : j < xs.length) (h2 : j < ds.length) (v : Value), RepD w (Mut X H ρ) H ρ v ds[j] → RepP w (Mut X (freezeAll H l') ρ) v xs[j]
  | [], xs, l, h, l', hl => by
    simp only [purifyT, Option.some.injEq, Prod.mk.injEq] at h
    obtain ⟨rfl, rfl⟩ := h
    exact ⟨rfl, fun j h1 => absurd h1 (by simp)⟩
  | d :: ds, xs, l, h, l', hl => by
    simp only [purifyT] at h
    split at h
    · rename_i x l1 ys l2 h1 h2
      simp only [Option.some.injEq, Prod.mk.injEq] at h
      obtain ⟨rfl, rfl⟩ := h
      obtain ⟨e, ih⟩ := purifyT_ok hs h2 l' (fun i hi => hl i (by simp [hi]))
      refine ⟨by simp [e], fun j h3 h4 v hv => ?_⟩
      cases j with
      | zero =>
        simp only [List.getElem_cons_zero] at hv ⊢
        have hl1 : ∀ i ∈ l1, i ∈ l' := fun i hi => hl i (by simp [hi])
        unfold purifyE at h1
        split at h1
        · rename_i es
          simp only [Option.map_eq_some_iff, Prod.mk.injEq] at h1
          obtain ⟨⟨zs, l3⟩, h5, rfl, rfl⟩ := h1
          cases hv with
          | agg vs cs hl2 h1' hr =>
            obtain ⟨e2, h6⟩ := purifys_ok hs (vs := vs) h5 l' hl1
            exact .agg vs zs (by rw [e2]; exact hl2) (fun j hj => h1' j (by rw [← e2]; exact hj)) (fun j hj => h6 j hj (by rw [← e2]; exact hj) _ (hr j (by rw [← e2]; exact hj)))
        · exact purify_ok hs hv h1 l' hl1
      | succ j => exact ih j (by simpa using h3) (by simpa using h4) v (by simpa using hv)
    · cases h
theorem purifyD_ok (hs : Sim X w H ρ) {v : Value} {d : Dv} {x : Pv} {l : List Nat} (hv : RepD w (Mut X H ρ) H ρ v d) (h : purifyD H d = some (x, l)) : RepP w (Mut X (freezeAll H l) ρ) v x := by
  unfold purifyD at h
  split at h
  · simp only [Option.map_eq_some_iff, Prod.mk.injEq] at h
    obtain ⟨⟨zs, l3⟩, h5, rfl, rfl⟩ := h
    cases hv with
    | agg vs cs hl2 h1' hr =>
      obtain ⟨e2, h6⟩ := purifys_ok hs (vs := vs) h5 l3 (fun i hi => hi)
      exact .agg vs zs (by rw [e2]; exact hl2) (fun j hj => h1' j (by rw [← e2]; exact hj)) (fun j hj => h6 j hj (by rw [← e2]; exact hj) _ (hr j (by rw [← e2]; exact hj)))
  · simp only [Option.map_eq_some_iff, Prod.mk.injEq] at h
    obtain ⟨⟨zs, l3⟩, h5, rfl, rfl⟩ := h
    cases hv with
    | tup vs cs hl2 hr =>
      obtain ⟨e2, h6⟩ := purifyT_ok hs h5 l3 (fun i hi => hi)
      exact .tup vs zs (by rw [e2]; exact hl2) (fun j hj => h6 j hj (by rw [← e2]; exact hj) _ (hr j (by rw [← e2]; exact hj)))
  · simp only [Option.map_eq_some_iff, Prod.mk.injEq] at h
    obtain ⟨⟨zs, l3⟩, h5, rfl, rfl⟩ := h
    cases hv with
    | fn f vs cs hl2 hr =>
      obtain ⟨e2, h6⟩ := purifys_ok hs (vs := vs) h5 l3 (fun i hi => hi)
      exact .fn _ vs zs (by rw [e2]; exact hl2) (fun j hj => h6 j hj (by rw [← e2]; exact hj) _ (hr j (by rw [← e2]; exact hj)))
  · exact purify_ok hs hv h l (fun i hi => hi)
theorem take_evo {acc refs : List Nat} {n : Nat} (hs : Sim X w H ρ) (ha : AccOk H acc refs) (hp : acc.take n = List.range n) : Evo n w H ρ w (takeAlong H acc) (accPl ρ acc) := by
  have hlen : n ≤ acc.length := by
    have := congrArg List.length hp
    simp at this
    omega
  have hget : ∀ i, i < n → acc.getD i 0 = i := by
    intro i hi
    rw [getD_el (by omega)]
    have h1 : (acc.take n)[i]? = (List.range n)[i]? := by rw [hp]
    rw [List.getElem?_take, if_pos hi, List.getElem?_range hi, List.getElem?_eq_getElem (by omega)] at h1
    exact Option.some.inj h1
  refine ⟨rfl, rfl, rfl, Nat.le_refl _, fun _ _ _ => rfl, fun b C h => ⟨C, h, rfl⟩, fun b hb => .inl (take_live ha hb), ?_, by rw [take_len]; exact hlen, fun i hi hal => ?_⟩
  · rcases Nat.eq_zero_or_pos n with h0 | h0
    · omega
    · have := hget (n - 1) (by omega)
      have := ha.lt _ (acc_mem (show n - 1 < acc.length by omega))
      omega
  · obtain ⟨x, hx, hxa⟩ := hal
    obtain ⟨h1, rfl⟩ := take_get hx
    rw [obMap_alive, hget i hi] at hxa
    refine ⟨⟨_, getD_get ?_, hxa⟩, ?_⟩
    · have := ha.lt _ (acc_mem h1)
      rwa [hget i hi] at this
    · simp only [accPl, h1, if_true, hget i hi]
theorem zipIdx_mask (tm : List Dv) (l : List Nat) : (tm.zipIdx.map fun (d, i) => if l.contains i then d else Dv.junk).length = tm.length ∧
    ∀ j (h : j < tm.length) (h' : j < (tm.zipIdx.map fun (d, i) => if l.contains i then d else Dv.junk).length), (tm.zipIdx.map fun (d, i) => if l.contains i then d else Dv.junk)[j] = if l.contains j then tm[j] else .junk := by
  refine ⟨by simp, fun j h h' => by simp⟩
theorem ghost_ok {g : Ghost} {s s' : St} {a : Act} (hs : StOk X w s ρ a) (hn : s.nin ≤ s.heap.length) (h : ghostD g s = some s') : ∃ ρ', StOk X w s' ρ' a ∧ Evo s.nin w s.heap ρ w s'.heap ρ' ∧ s'.nin = s.nin := by
  cases g with
  | keep l =>
    simp only [ghostD, keepD] at h
    obtain ⟨hml, hmask⟩ := zipIdx_mask s.tmps l
    generalize (s.tmps.zipIdx.map fun (d, i) => if l.contains i then d else Dv.junk) = tm at *
    generalize collect s.heap 256 (List.range s.nin ++ refsOfs tm) [] = acc at *
    split at h
    · rename_i hc
      simp only [Bool.and_eq_true, decide_eq_true_eq] at hc
      obtain ⟨h1, h2⟩ := hc
      have ha := accOk_spec h1
      simp only [Option.some.injEq] at h
      subst h
      have htm : TOk w (Mut X s.heap ρ) s.heap ρ a.tmps tm := by
        refine ⟨by rw [hml]; exact hs.tok.1, fun j hj => ?_⟩
        rw [hmask j (by rw [← hml]; exact hj) hj]
        split
        · exact hs.tok.2 j _
        · exact .junk _
      refine ⟨accPl ρ acc, ⟨hs.sim.take ha (fun b hb => .inl hb) (fun b hb hl => (hs.sim.live_blk (take_live ha hl)).1 hb), htm.take ha (fun b hb => ?_), hs.defers⟩, take_evo hs.sim ha h2, rfl⟩
      rcases hb with hb | hb
      · exact .inl hb
      · exact .inr (take_live ha hb)
    · cases h
  | own t esz =>
    simp only [ghostD] at h
    split at h
    · rename_i hnil
      simp only [Option.some.injEq] at h
      subst h
      obtain ⟨he, hs'⟩ := new_empty hs.sim
      refine ⟨updPl ρ s.heap.length none, ⟨hs', (hs.tok.evo he).setD (fun ht => ?_), hs.defers⟩, he.mono hn, rfl⟩
      have hv := hs.tok.get t
      unfold isNilP at hnil
      split at hnil
      · rename_i e
        rw [e] at hv
        obtain ⟨A, cap, us, ev, hle, hf, _⟩ := lst_at hv.toP
        rw [ev, hf rfl]
        exact .ref s.heap.length 0 0 esz A 0 (by simp) (Nat.le_refl _) (fun h => absurd h (by omega))
      · cases hnil
    · simp only [Option.some.injEq] at h
      subst h
      exact ⟨ρ, hs, (Evo.refl ..).mono hn, rfl⟩
  | freeze t =>
    simp only [ghostD] at h
    split at h
    · rename_i x l hp
      simp only [Option.some.injEq] at h
      subst h
      obtain ⟨he, hs'⟩ := freeze_all l hs.sim
      exact ⟨ρ, ⟨hs', (hs.tok.evo he).setD (fun ht => .p _ _ (purifyD_ok hs.sim (hs.tok.get t) hp)), hs.defers⟩, he.mono hn, rfl⟩
    · cases h
  | kill l =>
    simp only [ghostD, Option.some.injEq] at h
    subst h
    exact ⟨ρ, ⟨hs.sim, kill_tok l hs.tok, hs.defers⟩, (Evo.refl ..).mono hn, rfl⟩
theorem ghosts_ok : ∀ {l : List Ghost} {s s' : St} {ρ : Pl} {a : Act}, StOk X w s ρ a → s.nin ≤ s.heap.length → ghostsD l s = some s' → ∃ ρ', StOk X w s' ρ' a ∧ Evo s.nin w s.heap ρ w s'.heap ρ' ∧ s'.nin = s.nin
  | [], s, s', ρ, a, hs, hn, h => by
    simp only [ghostsD, Option.some.injEq] at h
    subst h
    exact ⟨ρ, hs, (Evo.refl ..).mono hn, rfl⟩
  | g :: l, s, s', ρ, a, hs, hn, h => by
    simp only [ghostsD, Option.bind_eq_some_iff] at h
    obtain ⟨s1, h1, h2⟩ := h
    obtain ⟨ρ1, k1, k2, k3⟩ := ghost_ok hs hn h1
    obtain ⟨ρ2, k4, k5, k6⟩ := ghosts_ok k1 (by rw [k3]; exact k2.len') h2
    rw [k3] at k5
    exact ⟨ρ2, k4, k2.trans k5, k6.trans k3⟩

/-! ### Code -/
def Ex.toExit : Ex → Exit
  | .normal => .normal
  | .exit id => .exit id
  | .ret => .ret
theorem ops_nin {call : CallF} (hc : CallOk P call) {A : Ann} {quiet : Bool} {ops : Array Oper} : ∀ {l : List Oper} {s s' : St}, opsD P A call quiet ops l s = some s' → s'.nin = s.nin
  | [], s, s', h => by simp only [opsD, Option.some.injEq] at h; subst h; rfl
  | o :: l, s, s', h => by
    simp only [opsD, Option.bind_eq_some_iff] at h
    obtain ⟨s1, h1, h2⟩ := h
    exact (ops_nin hc h2).trans (step_len hc h1)
theorem evC_ok {call : CallF} (hc : CallOk P call) (hN : Names P) (hm : P.follows .mixedOrders = true) {A : Ann} {k : Nat} {fid : FuncId} : ∀ (c : Code), codeOk A fid c = true →
    ∀ (s s' : St) (ex : Ex) (w : World) (ρ : Pl) (a : Act) (Q : Exit → Act → World → Prop), evC P A call k fid c s = some (ex, s') → StOk X w s ρ a → s.nin ≤ s.heap.length →
    (∀ w' ρ' a', Evo s.nin w s.heap ρ w' s'.heap ρ' → StOk X w' s' ρ' a' → s'.nin = s.nin → Q ex.toExit a' w') → c.wp P Q a w := by
  intro c
  induction c with
  | skip =>
    intro _ s s' ex w ρ a Q h hs hn hQ
    simp only [evC, Option.some.injEq, Prod.mk.injEq] at h
    obtain ⟨rfl, rfl⟩ := h
    exact wp_skip (hQ w ρ a ((Evo.refl ..).mono hn) hs rfl)
  | label l =>
    intro _ s s' ex w ρ a Q h hs hn hQ
    simp only [evC, Option.some.injEq, Prod.mk.injEq] at h
    obtain ⟨rfl, rfl⟩ := h
    exact wp_label (hQ w ρ a ((Evo.refl ..).mono hn) hs rfl)
  | ret =>
    intro _ s s' ex w ρ a Q h hs hn hQ
    simp only [evC, Option.some.injEq, Prod.mk.injEq] at h
    obtain ⟨rfl, rfl⟩ := h
    exact wp_ret (hQ w ρ a ((Evo.refl ..).mono hn) hs rfl)
  | exit id =>
    intro _ s s' ex w ρ a Q h hs hn hQ
    simp only [evC, Option.some.injEq, Prod.mk.injEq] at h
    obtain ⟨rfl, rfl⟩ := h
    exact wp_exit (hQ w ρ a ((Evo.refl ..).mono hn) hs rfl)
  | region id ops draw =>
    intro hB s s' ex w ρ a Q h hs hn hQ
    simp only [evC, Option.bind_eq_some_iff, Option.map_eq_some_iff, Prod.mk.injEq] at h
    obtain ⟨s1, h1, s2, h2, rfl, rfl⟩ := h
    obtain ⟨ρ1, k1, k2, k3⟩ := ghosts_ok hs hn h1
    refine region_ok hc hN hm hB k1 h2 (n := s.nin) k2.len' (fun w' ρ' a' he hs' => hQ w' ρ' a' (k2.trans he) hs' ((ops_nin hc h2).trans k3))
  | seq x y ihx ihy =>
    intro hB s s' ex w ρ a Q h hs hn hQ
    simp only [codeOk, Bool.and_eq_true] at hB
    simp only [evC] at h
    apply wp_seq
    split at h
    · rename_i s1 h1
      refine ihx hB.1 s s1 .normal w ρ a _ h1 hs hn (fun w1 ρ1 a1 he hs1 e1 => ?_)
      exact ihy hB.2 s1 s' ex w1 ρ1 a1 Q h hs1 (by rw [e1]; exact he.len') (fun w' ρ' a' he' hs' e2 => hQ w' ρ' a' (he.trans (e1 ▸ he')) hs' (e2.trans e1))
    · rename_i hne
      refine ihx hB.1 s s' ex w ρ a _ h hs hn (fun w1 ρ1 a1 he hs1 e1 => ?_)
      have := hQ w1 ρ1 a1 he hs1 e1
      cases ex with
      | normal => exact absurd h (hne s')
      | exit id => exact this
      | ret => exact this
  | cond c x y ihx ihy =>
    intro hB s s' ex w ρ a Q h hs hn hQ
    simp only [codeOk, Bool.and_eq_true] at hB
    simp only [evC] at h
    split at h
    · rename_i b hb
      refine wp_cond (boolD_ok (eval_ok hs.tok c) hb) ?_
      cases b with
      | true => exact ihx hB.1 s s' ex w ρ a Q (by simpa using h) hs hn hQ
      | false => exact ihy hB.2 s s' ex w ρ a Q (by simpa using h) hs hn hQ
    · cases h
  | block id x ih =>
    intro hB s s' ex w ρ a Q h hs hn hQ
    simp only [evC] at h
    apply wp_block
    split at h
    · rename_i id' s1 h1
      split at h
      · rename_i hid
        simp only [Option.some.injEq, Prod.mk.injEq] at h
        obtain ⟨rfl, rfl⟩ := h
        refine ih hB s s1 (.exit id') w ρ a _ h1 hs hn (fun w1 ρ1 a1 he hs1 e1 => ?_)
        simp only [Ex.toExit, Exit.inBlock, hid, if_true]
        exact hQ w1 ρ1 a1 he hs1 e1
      · rename_i hid
        simp only [Option.some.injEq, Prod.mk.injEq] at h
        obtain ⟨rfl, rfl⟩ := h
        refine ih hB s s1 (.exit id') w ρ a _ h1 hs hn (fun w1 ρ1 a1 he hs1 e1 => ?_)
        simp only [Ex.toExit, Exit.inBlock, hid, if_false]
        exact hQ w1 ρ1 a1 he hs1 e1
    · rename_i hne
      refine ih hB s s' ex w ρ a _ h hs hn (fun w1 ρ1 a1 he hs1 e1 => ?_)
      have := hQ w1 ρ1 a1 he hs1 e1
      cases ex with
      | normal => exact this
      | exit id' => exact absurd h (hne id' s')
      | ret => exact this
  | loop x ih =>
    intro hB s s' ex w ρ a Q h hs hn hQ
    simp only [evC] at h
    have key : ∀ (j : Nat) (s s' : St) (ex : Ex) (w : World) (ρ : Pl) (a : Act), loopD (evC P A call k fid x) j s = some (ex, s') → StOk X w s ρ a → s.nin ≤ s.heap.length →
        (∀ w' ρ' a', Evo s.nin w s.heap ρ w' s'.heap ρ' → StOk X w' s' ρ' a' → s'.nin = s.nin → Q ex.toExit a' w') → Code.rounds P x Q j a w := by
      intro j
      induction j with
      | zero => intro s s' ex w ρ a h; simp [loopD] at h
      | succ j ihj =>
        intro s s' ex w ρ a h hs hn hQ
        simp only [loopD] at h
        rw [rounds_succ]
        split at h
        · rename_i s1 h1
          refine ih hB s s1 .normal w ρ a _ h1 hs hn (fun w1 ρ1 a1 he hs1 e1 => ?_)
          exact ihj s1 s' ex w1 ρ1 a1 h hs1 (by rw [e1]; exact he.len') (fun w' ρ' a' he' hs' e2 => hQ w' ρ' a' (he.trans (e1 ▸ he')) hs' (e2.trans e1))
        · rename_i hne
          refine ih hB s s' ex w ρ a _ h hs hn (fun w1 ρ1 a1 he hs1 e1 => ?_)
          have := hQ w1 ρ1 a1 he hs1 e1
          cases ex with
          | normal => exact absurd h (hne s')
          | exit id => exact this
          | ret => exact this
    exact wp_loop_rounds k (key k s s' ex w ρ a h hs hn hQ)
  | _ => intro _ s s' ex w ρ a Q h; simp [evC] at h

/-! ### Functions -/
def resSem (tmps : Array Value) : ResultVar → Sem Value
  | .tmp t => pure (tmps.getD t undef)
  | .cell a t => do loadVar t (← asAddr (tmps.getD a undef))
def oneV : List Value → Value
  | [v] => v
  | vs => .tuple vs.toArray
theorem res_ok {s : St} {a : Act} (hst : StOk X w s ρ a) : ∀ {l : List ResultVar} {ds : List Dv}, resD P s l = some ds →
    ∃ vs : List Value, (l.mapM (resSem a.tmps)).run P w = .ok vs w ∧ vs.length = ds.length ∧ ∀ j (h1 : j < vs.length) (h2 : j < ds.length), RepD w (Mut X s.heap ρ) s.heap ρ vs[j] ds[j]
  | [], ds, h => by
    simp only [resD, Option.some.injEq] at h
    subst h
    exact ⟨[], rfl, rfl, fun j h1 => absurd h1 (by simp)⟩
  | .tmp t :: l, ds, h => by
    simp only [resD, Option.map_eq_some_iff] at h
    obtain ⟨ds', h1, rfl⟩ := h
    obtain ⟨vs, h2, h3, h4⟩ := res_ok hst h1
    refine ⟨a.tmps.getD t undef :: vs, ?_, by simp [h3], fun j h5 h6 => ?_⟩
    · simp only [List.mapM_cons, resSem, Sem.run_bind, Sem.run_pure, Result.andThen_ok, h2]
    · cases j with
      | zero => exact hst.tok.get t
      | succ j => exact h4 j (by simpa using h5) (by simpa using h6)
  | .cell c t :: l, ds, h => by
    simp only [resD] at h
    split at h
    · rename_i d ds' h1 h2
      simp only [Option.some.injEq] at h
      subst h
      obtain ⟨vs, h3, h4, h5⟩ := res_ok hst h2
      have hc := hst.tok.get c
      obtain ⟨v, h6, h7⟩ := load_ok hst.sim hc h1
      have hptr : ∃ ad, a.tmps.getD c undef = .pointer (some ad) := by
        unfold loadD at h1
        split at h1
        · cases h1
        · generalize hcd : s.tmps.getD c .junk = cd at *
          split at h1
          · exact ptr_val hc
          · exact iptr_val hc.toP
          · cases h1
      obtain ⟨ad, had⟩ := hptr
      rw [had, loadAt_run] at h6
      refine ⟨v :: vs, ?_, by simp [h4], fun j h8 h9 => ?_⟩
      · have e : (resSem a.tmps (.cell c t)).run P w = .ok v w := by
          show (asAddr (a.tmps.getD c undef) >>= fun x => loadVar t x : Sem Value).run P w = .ok v w
          rw [had]; simp only [asAddr, Sem.run_bind, Sem.run_pure, Result.andThen_ok, h6]
        rw [List.mapM_cons, Sem.run_bind, e]
        simp only [Result.andThen_ok, Sem.run_bind, h3, Sem.run_pure]
      · cases j with
        | zero => exact h7
        | succ j => exact h5 j (by simpa using h8) (by simpa using h9)
    · cases h
theorem results_eq (fn : Func) (tmps : Array Value) : results fn tmps = (fn.results.mapM (resSem tmps)) >>= fun vs => pure (if h : vs.size = 1 then vs[0] else .tuple vs) := by
  unfold results
  congr 1
theorem results_run {fn : Func} {a : Act} {vs : List Value} (h : (fn.results.toList.mapM (resSem a.tmps)).run P w = .ok vs w) : (results fn a.tmps).run P w = .ok (oneV vs) w := by
  rw [results_eq, Array.mapM_eq_mapM_toList]
  simp only [Sem.run_bind, Sem.run_map, h, Result.andThen_ok, Sem.run_pure]
  congr 1
  match vs with
  | [] => rfl
  | [v] => rfl
  | v :: u :: vs => simp [oneV]
theorem one_ok {vs : List Value} {ds : List Dv} (hl : vs.length = ds.length) (h : ∀ j (h1 : j < vs.length) (h2 : j < ds.length), RepD w M H ρ vs[j] ds[j]) :
    RepD w M H ρ (oneV vs) (oneD ds) := by
  match vs, ds, hl with
  | [], [], _ => exact RepD.mkTup (vs := #[]) (ds := []) ⟨rfl, fun j hj => absurd hj (by simp)⟩
  | [v], [d], _ => exact h 0 (by simp) (by simp)
  | v :: u :: vs, d :: e :: ds, hl =>
    refine RepD.mkTup (ds := d :: e :: ds) ⟨by simpa using hl, fun j hj => ?_⟩
    have h1 : j < (v :: u :: vs).length := by rw [hl]; exact hj
    have h2 := h j h1 hj
    have e : (v :: u :: vs).toArray.getD j undef = (v :: u :: vs)[j] := by
      rw [Array.getD_eq_getD_getElem?, List.getElem?_toArray, List.getElem?_eq_getElem h1]; rfl
    rw [e]; exact h2
theorem finish_ok {A : Ann} {f : FuncId} {fn : Func} {s : St} {a : Act} {r : Dv} {H' : List Ob} (hst : StOk X w s ρ a) (hn : s.nin ≤ s.heap.length) (h : finishD P A f fn s = some (r, H')) :
    ∃ v ρ', (results fn a.tmps).run P w = .ok v w ∧ Evo s.nin w s.heap ρ w H' ρ' ∧ Sim X w H' ρ' ∧ RepD w (Mut X H' ρ') H' ρ' v r := by
  unfold finishD at h
  simp only [Option.bind_eq_some_iff] at h
  obtain ⟨ds, h1, ⟨d, H1⟩, h5, h⟩ := h
  obtain ⟨vs, h2, h3, h4⟩ := res_ok hst h1
  have hr := results_run h2
  have hone := one_ok h3 h4
  generalize oneV vs = v at *
  simp only [] at h
  have hd : Evo s.heap.length w s.heap ρ w H1 ρ ∧ Sim X w H1 ρ ∧ RepD w (Mut X H1 ρ) H1 ρ v d ∧ H1.length = s.heap.length := by
    split at h5
    · simp only [Option.some.injEq, Prod.mk.injEq] at h5
      obtain ⟨rfl, rfl⟩ := h5
      exact ⟨Evo.refl .., hst.sim, hone, rfl⟩
    · simp only [Option.map_eq_some_iff, Prod.mk.injEq] at h5
      obtain ⟨⟨x, l⟩, h6, rfl, rfl⟩ := h5
      obtain ⟨he, hs'⟩ := freeze_all l hst.sim
      exact ⟨he, hs', .p _ _ (purifyD_ok hst.sim hone h6).wk, freezeAll_length _ _⟩
  obtain ⟨he, hs', hrep, hl1⟩ := hd
  generalize collect H1 256 (List.range s.nin ++ refsOf d) [] = acc at *
  split at h
  · rename_i hc
    simp only [Bool.and_eq_true, decide_eq_true_eq] at hc
    have ha := accOk_spec hc.1
    simp only [Option.some.injEq, Prod.mk.injEq] at h
    obtain ⟨rfl, rfl⟩ := h
    refine ⟨v, accPl ρ acc, hr, (he.mono hn).trans (take_evo hs' ha hc.2), hs'.take ha (fun b hb => .inl hb) (fun b hb hl => (hs'.live_blk (take_live ha hl)).1 hb), ?_⟩
    refine hrep.map (fun b hb => ?_) (fun i hi hlt => ⟨by rw [take_len]; exact idx_lt (ha.refs i hi), fun hal => take_alive ha (ha.refs i hi) hal⟩)
    rcases hb with hb | hb
    · exact .inl hb
    · exact .inr (take_live ha hb)
  · cases h

/-- All bodies that the interpreter may enter have regions whose order does not matter. -/
def BodiesOk (P : Program) (A : Ann) : Prop := ∀ (f : FuncId) (fn : Func) (c : Code), A.okf f = true → P.funcs[f]? = some fn → fn.body = some c → codeOk A f c = true
theorem callN_ok (hN : Names P) (hm : P.follows .mixedOrders = true) {A : Ann} (hB : BodiesOk P A) : ∀ k, CallOk P (callN P A k)
  | 0 => by intro f args H r H' h; simp [callN] at h
  | k + 1 => by
    intro f args H r H' h
    have hc := callN_ok hN hm hB k
    simp only [callN, runD] at h
    split at h
    · rename_i hok
      split at h
      · rename_i fn hf
        split at h
        · rename_i c hb
          refine ⟨⟨fn, c, hf, hb⟩, fun X w ρ vs hs ht => ?_⟩
          refine calls_of_wp hf hb ?_
          have hcode := hB f fn c hok hf hb
          generalize hs0 : ({ tmps := args ++ List.replicate (fn.ntmps - args.length) undefD, heap := H, nin := H.length } : St) = s0 at h
          have hst : StOk X w s0 ρ { tmps := vs ++ Array.replicate (fn.ntmps - vs.size) undef, defers := [] } := by
            subst hs0
            refine ⟨hs, ?_, rfl⟩
            refine ht.append ⟨by simp [ht.1], fun j hj => ?_⟩
            simp only [List.length_replicate] at hj
            have e1 : (Array.replicate (fn.ntmps - vs.size) undef).getD j undef = undef := by
              rw [Array.getD_eq_getD_getElem?, Array.getElem?_replicate]
              split <;> rfl
            rw [e1]
            simp only [List.getElem_replicate]
            exact .p _ _ (.v _)
          have hn0 : s0.nin ≤ s0.heap.length := by subst hs0; exact Nat.le_refl _
          have hfin : ∀ (ex : Ex) (s' : St), (ex = .normal ∨ ex = .ret) → evC P A (callN P A k) k f c s0 = some (ex, s') → finishD P A f fn s' = some (r, H') →
              c.wp P (bodyPost P fn fun e w' => ∃ v ρ', e = .returned v ∧ Fin X w H ρ w' H' ρ' v r) { tmps := vs ++ Array.replicate (fn.ntmps - vs.size) undef, defers := [] } w := by
            intro ex s' hex h1 h2
            refine evC_ok hc hN hm c hcode s0 s' ex w ρ _ _ h1 hst hn0 (fun w' ρ' a' he hs' e1 => ?_)
            obtain ⟨v, ρ2, hr, he2, hsim, hrep⟩ := finish_ok hs' (by rw [e1]; exact he.len') h2
            have hH : s0.heap = H := by subst hs0; rfl
            have hni : s0.nin = H.length := by subst hs0; rfl
            have hall : Evo H.length w H ρ w' H' ρ2 := by
              rw [hH, hni] at he
              rw [e1, hni] at he2
              exact he.trans he2
            rcases hex with rfl | rfl
            · exact ⟨hs'.defers, v, hr, v, ρ2, rfl, hall, hsim, hrep⟩
            · exact ⟨hs'.defers, v, hr, v, ρ2, rfl, hall, hsim, hrep⟩
          split at h
          · rename_i s' h1
            exact hfin .normal s' (.inl rfl) h1 h
          · rename_i s' h1
            exact hfin .ret s' (.inr rfl) h1 h
          · cases h
        · cases h
      · cases h
    · cases h
end
end Go.Ev
