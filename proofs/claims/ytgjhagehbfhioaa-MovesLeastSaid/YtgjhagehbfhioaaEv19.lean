/- More fuel keeps an answer; the interpreter without fuel, and its equations. -/
import Derived.Test.YtgjhagehbfhioaaEv18
set_option linter.unusedVariables false
set_option linter.unusedSimpArgs false
namespace Go.Ev

def CallLe (c c' : CallF) : Prop := ∀ f args H r, c f args H = some r → c' f args H = some r

theorem callD_mono {c c' : CallF} (hc : CallLe c c') {A : Ann} {H : List Ob} {f : FuncId} {args : List Dv} {r : Dv × Option (List Ob)} (h : callD c A H f args = some r) : callD c' A H f args = some r := by
  simp only [callD] at h ⊢
  generalize (if (A.muts f || A.ros f) = true then (args, []) else giveD H args) = gv at *
  split at h
  · rename_i ha
    rw [if_pos ha]
    rw [Option.bind_eq_some_iff] at h ⊢
    obtain ⟨x, h1, h2⟩ := h
    exact ⟨x, hc _ _ _ _ h1, h2⟩
  · cases h
theorem opD_mono {P : Program} {A : Ann} {c c' : CallF} (hc : CallLe c c') {tm : List Dv} {H : List Ob} {o : Oper} {r : Dv × Option (List Ob)} (h : opD P A c tm H o = some r) : opD P A c' tm H o = some r := by
  unfold opD at h ⊢
  split at h <;> first | exact h | skip
  rename_i cc _
  split at h
  · exact h
  · simp only [] at h ⊢
    split at h
    · exact callD_mono hc h
    · exact callD_mono hc h
    · cases h
  · cases h
theorem stepD_mono {P : Program} {A : Ann} {c c' : CallF} (hc : CallLe c c') {q : Bool} {ops : Array Oper} {o : Oper} {s s' : St} (h : stepD P A c q ops o s = some s') : stepD P A c' q ops o s = some s' := by
  unfold stepD at h ⊢
  rw [Option.bind_eq_some_iff] at h ⊢
  obtain ⟨w, h1, h2⟩ := h
  refine ⟨w, h1, ?_⟩
  split at h2
  · rename_i hw
    rw [if_pos hw]
    rw [Option.bind_eq_some_iff] at h2 ⊢
    obtain ⟨x, h3, h4⟩ := h2
    exact ⟨x, opD_mono hc h3, h4⟩
  · rename_i hw
    rw [if_neg hw]; exact h2
theorem opsD_mono {P : Program} {A : Ann} {c c' : CallF} (hc : CallLe c c') {q : Bool} {ops : Array Oper} : ∀ {l : List Oper} {s s' : St}, opsD P A c q ops l s = some s' → opsD P A c' q ops l s = some s'
  | [], _, _, h => h
  | o :: l, s, s', h => by
    simp only [opsD, Option.bind_eq_some_iff] at h ⊢
    obtain ⟨s1, h1, h2⟩ := h
    exact ⟨s1, stepD_mono hc h1, opsD_mono hc h2⟩
theorem loopD_mono {f g : St → Option (Ex × St)} (hfg : ∀ s r, f s = some r → g s = some r) : ∀ {k k' : Nat} {s : St} {r : Ex × St}, k ≤ k' → loopD f k s = some r → loopD g k' s = some r
  | 0, _, _, _, _, h => by simp [loopD] at h
  | k + 1, 0, _, _, hk, _ => by omega
  | k + 1, k' + 1, s, r, hk, h => by
    simp only [loopD] at h ⊢
    split at h
    · rename_i s1 h1
      rw [hfg _ _ h1]
      exact loopD_mono hfg (by omega) h
    · rename_i hne
      cases hf : f s with
      | none => rw [hf] at h; cases h
      | some x =>
        rw [hf] at h
        rw [hfg _ _ hf]
        obtain ⟨e, s1⟩ := x
        cases e with
        | normal => exact absurd hf (hne s1)
        | exit i => exact h
        | ret => exact h
theorem evC_mono {P : Program} {A : Ann} {c c' : CallF} (hc : CallLe c c') {k k' : Nat} (hk : k ≤ k') {f : FuncId} : ∀ (b : Code) {s : St} {r : Ex × St}, evC P A c k f b s = some r → evC P A c' k' f b s = some r
  | .region id ops draw, s, r, h => by
    simp only [evC, Option.bind_eq_some_iff, Option.map_eq_some_iff] at h ⊢
    obtain ⟨s1, h1, s2, h2, h3⟩ := h
    exact ⟨s1, h1, s2, opsD_mono hc h2, h3⟩
  | .seq a b, s, r, h => by
    simp only [evC] at h ⊢
    split at h
    · rename_i s1 h1
      rw [evC_mono hc hk a h1]
      exact evC_mono hc hk b h
    · rename_i hne
      rw [evC_mono hc hk a h]
      obtain ⟨e, s1⟩ := r
      cases e with
      | normal => exact absurd h (hne s1)
      | exit i => rfl
      | ret => rfl
  | .cond x t e, s, r, h => by
    simp only [evC] at h ⊢
    split at h
    · split at h
      · rename_i hb; rw [if_pos hb]; exact evC_mono hc hk t h
      · rename_i hb; rw [if_neg hb]; exact evC_mono hc hk e h
    · cases h
  | .block id b, s, r, h => by
    simp only [evC] at h ⊢
    split at h
    · rename_i i s1 h1
      rw [evC_mono hc hk b h1]
      exact h
    · rename_i hne
      rw [evC_mono hc hk b h]
      obtain ⟨e, s1⟩ := r
      cases e with
      | exit i => exact absurd h (hne i s1)
      | normal => rfl
      | ret => rfl
  | .loop b, s, r, h => by
    simp only [evC] at h ⊢
    exact loopD_mono (fun s r h => evC_mono hc hk b h) hk h
  | .skip, s, r, h => by simpa only [evC] using h
  | .label _, s, r, h => by simpa only [evC] using h
  | .exit _, s, r, h => by simpa only [evC] using h
  | .ret, s, r, h => by simpa only [evC] using h
  | .goto _, s, r, h => by simp only [evC] at h; cases h
  | .rangeFunc .., s, r, h => by simp only [evC] at h; cases h
  | .scope _, s, r, h => by simp only [evC] at h; cases h
  | .refuse _, s, r, h => by simp only [evC] at h; cases h
theorem runD_mono {P : Program} {A : Ann} {c c' : CallF} (hc : CallLe c c') {k k' : Nat} (hk : k ≤ k') {f : FuncId} {args : List Dv} {H : List Ob} {r : Dv × List Ob} (h : runD P A c k f args H = some r) : runD P A c' k' f args H = some r := by
  unfold runD at h ⊢
  split at h
  · rename_i ho
    rw [if_pos ho]
    split at h
    · split at h
      · split at h
        · rename_i s h1
          rw [evC_mono hc hk _ h1]; exact h
        · rename_i s h1
          rw [evC_mono hc hk _ h1]; exact h
        · cases h
      · cases h
    · cases h
  · cases h
theorem callN_succ {P : Program} {A : Ann} : ∀ k, CallLe (callN P A k) (callN P A (k + 1))
  | 0 => by intro f args H r h; simp [callN] at h
  | k + 1 => by
    intro f args H r h
    simp only [callN] at h ⊢
    exact runD_mono (callN_succ k) (Nat.le_succ k) h
theorem callN_mono {P : Program} {A : Ann} {k k' : Nat} (h : k ≤ k') : CallLe (callN P A k) (callN P A k') := by
  induction h with
  | refl => exact fun _ _ _ _ h => h
  | step _ ih => exact fun f args H r h => callN_succ _ f args H r (ih f args H r h)

/-! ### Limits -/
open Classical in
noncomputable def lim {α : Type} (F : Nat → Option α) : Option α := if h : ∃ r k, F k = some r then some h.choose else none
def Mono {α : Type} (F : Nat → Option α) : Prop := ∀ k k' r, k ≤ k' → F k = some r → F k' = some r
theorem lim_some {α : Type} {F : Nat → Option α} (hF : Mono F) {r : α} : lim F = some r ↔ ∃ k, F k = some r := by
  constructor
  · intro h
    unfold lim at h
    split at h
    · rename_i h1
      simp only [Option.some.injEq] at h
      subst h
      exact h1.choose_spec
    · cases h
  · intro ⟨k, h⟩
    have h1 : ∃ r k, F k = some r := ⟨r, k, h⟩
    unfold lim
    rw [dif_pos h1]
    obtain ⟨k', h'⟩ := h1.choose_spec
    have e1 := hF k (max k k') r (Nat.le_max_left ..) h
    have e2 := hF k' (max k k') _ (Nat.le_max_right ..) h'
    rw [e1] at e2
    exact e2.symm
theorem opt_ext {α : Type} {x y : Option α} (h : ∀ r, x = some r ↔ y = some r) : x = y := by
  cases x with
  | none =>
    cases y with
    | none => rfl
    | some b => exact absurd ((h b).2 rfl) (by simp)
  | some a => exact ((h a).1 rfl).symm

noncomputable def callW (P : Program) (A : Ann) : CallF := fun f args H => lim fun k => callN P A k f args H
noncomputable def evW (P : Program) (A : Ann) (f : FuncId) (c : Code) (s : St) : Option (Ex × St) := lim fun k => evC P A (callN P A k) k f c s

section
variable {P : Program} {A : Ann} {f : FuncId}
theorem callW_some {args : List Dv} {H : List Ob} {r : Dv × List Ob} : callW P A f args H = some r ↔ ∃ k, callN P A k f args H = some r :=
  lim_some (fun k k' r hk h => callN_mono hk _ _ _ _ h)
theorem evW_some {c : Code} {s : St} {r : Ex × St} : evW P A f c s = some r ↔ ∃ k, evC P A (callN P A k) k f c s = some r :=
  lim_some (fun k k' r hk h => evC_mono (callN_mono hk) hk _ h)
theorem callN_le_W {k : Nat} : CallLe (callN P A k) (callW P A) := fun f args H r h => callW_some.2 ⟨k, h⟩

theorem callD_lim {H : List Ob} {g : FuncId} {args : List Dv} {r : Dv × Option (List Ob)} (h : callD (callW P A) A H g args = some r) : ∃ k, callD (callN P A k) A H g args = some r := by
  simp only [callD] at h ⊢
  generalize (if (A.muts g || A.ros g) = true then (args, []) else giveD H args) = gv at *
  split at h
  · rename_i ha
    rw [Option.bind_eq_some_iff] at h
    obtain ⟨x, h1, h2⟩ := h
    obtain ⟨k, h1⟩ := callW_some.1 h1
    refine ⟨k, ?_⟩
    rw [if_pos ha, Option.bind_eq_some_iff]
    exact ⟨x, h1, h2⟩
  · cases h
theorem opD_lim {tm : List Dv} {H : List Ob} {o : Oper} {r : Dv × Option (List Ob)} (h : opD P A (callW P A) tm H o = some r) : ∃ k, opD P A (callN P A k) tm H o = some r := by
  unfold opD at h ⊢
  split at h <;> first | exact ⟨0, h⟩ | skip
  split at h
  · exact ⟨0, h⟩
  · simp only [] at h ⊢
    split at h
    · exact callD_lim h
    · exact callD_lim h
    · cases h
  · cases h
theorem stepD_lim {q : Bool} {ops : Array Oper} {o : Oper} {s s' : St} (h : stepD P A (callW P A) q ops o s = some s') : ∃ k, stepD P A (callN P A k) q ops o s = some s' := by
  unfold stepD at h ⊢
  rw [Option.bind_eq_some_iff] at h
  obtain ⟨w, h1, h2⟩ := h
  split at h2
  · rename_i hw
    rw [Option.bind_eq_some_iff] at h2
    obtain ⟨x, h3, h4⟩ := h2
    obtain ⟨k, h3⟩ := opD_lim h3
    refine ⟨k, ?_⟩
    rw [Option.bind_eq_some_iff]
    refine ⟨w, h1, ?_⟩
    rw [if_pos hw, Option.bind_eq_some_iff]
    exact ⟨x, h3, h4⟩
  · rename_i hw
    refine ⟨0, ?_⟩
    rw [Option.bind_eq_some_iff]
    refine ⟨w, h1, ?_⟩
    rw [if_neg hw]; exact h2
theorem opsD_lim {q : Bool} {ops : Array Oper} : ∀ {l : List Oper} {s s' : St}, opsD P A (callW P A) q ops l s = some s' → ∃ k, opsD P A (callN P A k) q ops l s = some s'
  | [], _, _, h => ⟨0, h⟩
  | o :: l, s, s', h => by
    simp only [opsD, Option.bind_eq_some_iff] at h ⊢
    obtain ⟨s1, h1, h2⟩ := h
    obtain ⟨k1, h1⟩ := stepD_lim h1
    obtain ⟨k2, h2⟩ := opsD_lim h2
    exact ⟨max k1 k2, s1, stepD_mono (callN_mono (Nat.le_max_left ..)) h1, opsD_mono (callN_mono (Nat.le_max_right ..)) h2⟩

theorem evW_skip {s : St} : evW P A f .skip s = some (.normal, s) := evW_some.2 ⟨0, rfl⟩
theorem evW_label {i : Nat} {s : St} : evW P A f (.label i) s = some (.normal, s) := evW_some.2 ⟨0, rfl⟩
theorem evW_exit {i : Nat} {s : St} : evW P A f (.exit i) s = some (.exit i, s) := evW_some.2 ⟨0, rfl⟩
theorem evW_ret {s : St} : evW P A f .ret s = some (.ret, s) := evW_some.2 ⟨0, rfl⟩
theorem evW_region {id : Nat} {ops : Array Oper} {draw : Bool} {s : St} : evW P A f (.region id ops draw) s = (ghostsD (A.pre f id) s).bind fun s => (opsD P A (callW P A) (draw && !A.loud f id) ops ops.toList s).map fun s => (.normal, s) := by
  apply opt_ext
  intro r
  rw [evW_some]
  simp only [evC, Option.bind_eq_some_iff, Option.map_eq_some_iff]
  constructor
  · intro ⟨k, s1, h1, s2, h2, h3⟩
    exact ⟨s1, h1, s2, opsD_mono callN_le_W h2, h3⟩
  · intro ⟨s1, h1, s2, h2, h3⟩
    obtain ⟨k, h2⟩ := opsD_lim h2
    exact ⟨k, s1, h1, s2, h2, h3⟩
theorem evW_seq {a b : Code} {s : St} : evW P A f (.seq a b) s = match evW P A f a s with | some (.normal, s') => evW P A f b s' | r => r := by
  apply opt_ext
  intro r
  rw [evW_some]
  simp only [evC]
  constructor
  · intro ⟨k, h⟩
    split at h
    · rename_i s1 h1
      rw [evW_some.2 ⟨k, h1⟩]
      exact evW_some.2 ⟨k, h⟩
    · rename_i hne
      rw [evW_some.2 ⟨k, h⟩]
      obtain ⟨e, s1⟩ := r
      cases e with
      | normal => exact absurd h (hne s1)
      | exit i => rfl
      | ret => rfl
  · intro h
    split at h
    · rename_i s1 h1
      obtain ⟨k1, h1⟩ := evW_some.1 h1
      obtain ⟨k2, h2⟩ := evW_some.1 h
      refine ⟨max k1 k2, ?_⟩
      rw [evC_mono (callN_mono (Nat.le_max_left k1 k2)) (Nat.le_max_left ..) a h1]
      exact evC_mono (callN_mono (Nat.le_max_right k1 k2)) (Nat.le_max_right ..) b h2
    · rename_i hne
      obtain ⟨k1, h1⟩ := evW_some.1 h
      refine ⟨k1, ?_⟩
      rw [h1]
      obtain ⟨e, s1⟩ := r
      cases e with
      | normal => exact absurd h (hne s1)
      | exit i => rfl
      | ret => rfl
theorem evW_cond {x : Operand} {t e : Code} {s : St} : evW P A f (.cond x t e) s = match boolD (evalO s.tmps x) with | some b => if b then evW P A f t s else evW P A f e s | none => none := by
  apply opt_ext
  intro r
  rw [evW_some]
  simp only [evC]
  cases boolD (evalO s.tmps x) with
  | none => simp
  | some b =>
    cases b
    · simp only [Bool.false_eq_true, if_false]; rw [evW_some]
    · simp only [if_true]; rw [evW_some]
theorem evW_block {id : Nat} {b : Code} {s : St} : evW P A f (.block id b) s = match evW P A f b s with | some (.exit id', s') => if id' = id then some (.normal, s') else some (.exit id', s') | r => r := by
  apply opt_ext
  intro r
  rw [evW_some]
  simp only [evC]
  constructor
  · intro ⟨k, h⟩
    split at h
    · rename_i i s1 h1
      rw [evW_some.2 ⟨k, h1⟩]
      exact h
    · rename_i hne
      rw [evW_some.2 ⟨k, h⟩]
      obtain ⟨e, s1⟩ := r
      cases e with
      | exit i => exact absurd h (hne i s1)
      | normal => rfl
      | ret => rfl
  · intro h
    split at h
    · rename_i i s1 h1
      obtain ⟨k1, h1⟩ := evW_some.1 h1
      exact ⟨k1, by rw [h1]; exact h⟩
    · rename_i hne
      obtain ⟨k1, h1⟩ := evW_some.1 h
      refine ⟨k1, ?_⟩
      rw [h1]
      obtain ⟨e, s1⟩ := r
      cases e with
      | exit i => exact absurd h (hne i s1)
      | normal => rfl
      | ret => rfl
theorem evW_loop {b : Code} {s : St} : evW P A f (.loop b) s = match evW P A f b s with | some (.normal, s') => evW P A f (.loop b) s' | r => r := by
  apply opt_ext
  intro r
  rw [evW_some]
  simp only [evC]
  constructor
  · intro ⟨k, h⟩
    cases k with
    | zero => simp [loopD] at h
    | succ k =>
      simp only [loopD] at h
      split at h
      · rename_i s1 h1
        rw [evW_some.2 ⟨k + 1, h1⟩]
        refine evW_some.2 ⟨k + 1, ?_⟩
        simp only [evC]
        exact loopD_mono (fun s r h => h) (Nat.le_succ k) h
      · rename_i hne
        rw [evW_some.2 ⟨k + 1, h⟩]
        obtain ⟨e, s1⟩ := r
        cases e with
        | normal => exact absurd h (hne s1)
        | exit i => rfl
        | ret => rfl
  · intro h
    split at h
    · rename_i s1 h1
      obtain ⟨k1, h1⟩ := evW_some.1 h1
      obtain ⟨k2, h2⟩ := evW_some.1 h
      simp only [evC] at h2
      refine ⟨max k1 k2 + 1, ?_⟩
      simp only [loopD]
      rw [evC_mono (callN_mono (show k1 ≤ max k1 k2 + 1 by omega)) (by omega) b h1]
      exact loopD_mono (fun s r h => evC_mono (callN_mono (show k2 ≤ max k1 k2 + 1 by omega)) (by omega) b h) (by omega) h2
    · rename_i hne
      obtain ⟨k1, h1⟩ := evW_some.1 h
      refine ⟨k1 + 1, ?_⟩
      simp only [loopD]
      rw [evC_mono (callN_mono (Nat.le_succ k1)) (Nat.le_succ k1) b h1]
      obtain ⟨e, s1⟩ := r
      cases e with
      | normal => exact absurd h (hne s1)
      | exit i => rfl
      | ret => rfl
/-- The first state of a body. -/
def initS (fn : Func) (args : List Dv) (H : List Ob) : St := { tmps := args ++ List.replicate (fn.ntmps - args.length) undefD, heap := H, nin := H.length }
theorem callW_eq {args : List Dv} {H : List Ob} (ho : A.okf f = true) {fn : Func} (hf : P.funcs[f]? = some fn) {c : Code} (hb : fn.body = some c) : callW P A f args H =
    match evW P A f c (initS fn args H) with
      | some (.normal, s) => finishD P A f fn s
      | some (.ret, s) => finishD P A f fn s
      | _ => none := by
  apply opt_ext
  intro r
  rw [callW_some]
  constructor
  · intro ⟨k, h⟩
    cases k with
    | zero => simp [callN] at h
    | succ k =>
      simp only [callN, runD, ho, if_true, hf, hb] at h
      change (match evC P A (callN P A k) k f c (initS fn args H) with
        | some (.normal, s) => finishD P A f fn s
        | some (.ret, s) => finishD P A f fn s
        | _ => none) = some r at h
      split at h
      · rename_i s h1; rw [evW_some.2 ⟨k, h1⟩]; exact h
      · rename_i s h1; rw [evW_some.2 ⟨k, h1⟩]; exact h
      · cases h
  · intro h
    split at h
    · rename_i s h1
      obtain ⟨k, h1⟩ := evW_some.1 h1
      refine ⟨k + 1, ?_⟩
      simp only [callN, runD, ho, if_true, hf, hb]
      change (match evC P A (callN P A k) k f c (initS fn args H) with
        | some (.normal, s) => finishD P A f fn s
        | some (.ret, s) => finishD P A f fn s
        | _ => none) = some r
      rw [h1]; exact h
    · rename_i s h1
      obtain ⟨k, h1⟩ := evW_some.1 h1
      refine ⟨k + 1, ?_⟩
      simp only [callN, runD, ho, if_true, hf, hb]
      change (match evC P A (callN P A k) k f c (initS fn args H) with
        | some (.normal, s) => finishD P A f fn s
        | some (.ret, s) => finishD P A f fn s
        | _ => none) = some r
      rw [h1]; exact h
    · cases h
end
end Go.Ev
