/- Slices of slices, of arrays and of strings; lengths; aggregates that are built. -/
import Derived.Test.YtgjhagehbfhioaaEv5
set_option linter.unusedVariables false
set_option linter.unusedSimpArgs false
namespace Go.Ev
section
variable {P : Program} {X M : Nat → Prop} {w : World} {H : List Ob} {ρ : Pl}

theorem sliceAt_slice {t e : TypeId} (hu : P.underlying t = some (.slice e)) {sz : Nat} (hsz : szOf P e = some sz) (A : Option Addr) (len cap l h m : Nat) (lo hi mx : Option Value)
    (hb : (Instr.sliceBounds true len cap lo hi mx).run P w = .ok (l, h, m) w) :
    (Instr.sliceAt t (.slice A len cap) lo hi mx).run P w = .ok (.slice (if m = l then A else A.map (·.add (l * sz))) (h - l) (m - l)) w := by
  simp [Instr.sliceAt, und_run hu, Instr.slice, hb, szOf_run hsz]
theorem sliceAt_arr {t e : TypeId} {n : Nat} (hu : P.underlying t = some (.array n e)) {sz : Nat} (hsz : szOf P e = some sz) (a : Addr) (l h m : Nat) (lo hi mx : Option Value)
    (hb : (Instr.sliceBounds false n n lo hi mx).run P w = .ok (l, h, m) w) :
    (Instr.sliceAt t (.pointer (some a)) lo hi mx).run P w = .ok (.slice (some (if m = l then a else a.add (l * sz))) (h - l) (m - l)) w := by
  simp [Instr.sliceAt, und_run hu, Instr.sureAddr, hb, szOf_run hsz]
/-- A part of cells that nobody writes. -/
theorem lst_sub {A : Option Addr} {us : Nat → Value} {cells : List Pv} (ha : cells ≠ [] → ∃ b o, A = some ⟨b, o, none⟩ ∧ ¬ M b ∧ ∀ j, j < cells.length → w.cell? ⟨b, o + j, none⟩ = some (us j))
    (h1 : ∀ j, j < cells.length → (us j).oneCell' = true) (hr : ∀ j (h : j < cells.length), RepP w M (us j) cells[j])
    (off len n cap : Nat) (full : Bool) (A' : Option Addr) (hle : n ≤ cap) (hfull : full = true → cap = n) (hlen : off + len ≤ cells.length)
    (hA : len ≠ 0 → ∀ b o, A = some ⟨b, o, none⟩ → A' = some ⟨b, o + off, none⟩) :
    RepP w M (.slice A' n cap) (.lst full n ((cells.drop off).take len)) := by
  have hl : ((cells.drop off).take len).length = len := by simp; omega
  refine .lst full n _ A' cap (fun j => us (off + j)) hle hfull (fun hne => ?_) (fun j hj => h1 _ (by omega)) (fun j hj => ?_)
  · have hpos : len ≠ 0 := by intro e; subst e; simp at hne
    obtain ⟨b, o, e, hm, hc⟩ := ha (by intro e; subst e; simp at hlen; omega)
    exact ⟨b, o + off, hA hpos b o e, hm, fun j hj => by rw [Nat.add_assoc]; exact hc _ (by omega)⟩
  · have := hr (off + j) (by omega)
    simpa using this
theorem slice_ok (hs : Sim X w H ρ) {a : Act} {tm : List Dv} (ht : TOk w (Mut X H ρ) H ρ a.tmps tm) {t : TypeId} {x : Operand} {lo hi mx : Option Operand} {d : Dv} (hmx : mx.isSome = true → hi.isSome = true)
    (h : sliceD P H t (evalO tm x) (lo.map (evalO tm)) (hi.map (evalO tm)) (mx.map (evalO tm)) = some d) :
    ∃ v, (Instr.sliceAt t (a.eval x) (lo.map a.eval) (hi.map a.eval) (mx.map a.eval)).run P w = .ok v w ∧ RepD w (Mut X H ρ) H ρ v d := by
  have hx := eval_ok ht x
  generalize hxd : evalO tm x = xd at *
  generalize hxv : a.eval x = xv at *
  unfold sliceD at h
  split at h
  · rename_i e hu
    simp only [Option.bind_eq_some_iff] at h
    obtain ⟨sz, hsz, h⟩ := h
    split at h
    · cases h
    · rename_i hz
      split at h
      · rename_i full n cells
        split at h
        · rename_i hcl
          simp only [Option.bind_eq_some_iff] at h
          obtain ⟨m, hm, hh, hhh, l, hl, h⟩ := h
          simp only [Option.some.injEq] at h
          subst h
          obtain ⟨A, cap, us, rfl, hn, hf, ha, h1, hr⟩ := lst_at hx.toP
          have hm' : mx.isSome = false → m = n := by
            intro h0
            have : mx = none := by cases mx <;> simp_all
            subst this
            simpa [boundD] using hm.symm
          obtain ⟨hrun, hlh, hhm, hmn⟩ := sliceBounds_run (P := P) ht true n cap n m hh l lo hi mx hn hm (by
            cases hq : mx.isSome with
            | true => simpa [hq] using hhh
            | false => rw [hm' hq] at hhh; simpa [hq] using hhh) hl hmx (Nat.le_refl _)
          refine ⟨_, sliceAt_slice hu hsz A n cap l hh _ _ _ _ hrun, ?_⟩
          have hhn : hh ≤ n := by
            cases hq : mx.isSome with
            | true => simp [hq] at hhm; omega
            | false => simp [hq] at hhm; omega
          have hmul : l * sz + (hh - l) * sz ≤ cells.length := by
            rw [hcl, ← Nat.add_mul]
            exact Nat.mul_le_mul_right _ (by omega)
          refine .p _ _ (lst_sub ha h1 hr (l * sz) ((hh - l) * sz) (hh - l) _ _ _ ?_ ?_ hmul ?_)
          · cases hq : mx.isSome with
            | true => simp [hq] at hhm ⊢; omega
            | false => simp [hq] at hhm ⊢; omega
          · intro hfl
            simp only [Option.isSome_map, Bool.or_eq_true, Bool.and_eq_true, decide_eq_true_eq] at hfl
            rcases hfl with ⟨h2, h3⟩ | ⟨h2, h3⟩
            · simp [h2]; omega
            · have := hf h2
              cases hq : mx.isSome with
              | true => simp [hq] at hhm ⊢; omega
              | false => simp [hq] at hhm ⊢; omega
          · intro hne b o e
            have hlt : l < hh := by
              rcases Nat.lt_or_ge l hh with h2 | h2
              · exact h2
              · exfalso; apply hne; rw [show hh - l = 0 from by omega]; simp
            rw [if_neg ?_, e]
            · simp [add_cell]
            · cases hq : mx.isSome with
              | true => simp [hq] at hhm ⊢; omega
              | false => simp [hq] at hhm ⊢; omega
        · cases h
      · rename_i id off len esz
        split at h
        · cases h
        · rename_i hc
          simp only [Bool.or_eq_true, decide_eq_true_eq, not_or, Bool.not_eq_true, ne_eq, Decidable.not_not, Option.isSome_map] at hc
          obtain ⟨hc1, rfl⟩ := hc
          simp only [Option.bind_eq_some_iff] at h
          obtain ⟨hh, hhh, l, hl, h⟩ := h
          simp only [Option.some.injEq] at h
          subst h
          have hmx0 : mx = none := by cases mx <;> simp_all
          subst hmx0
          obtain ⟨A, cap, rfl, hid, hn, ha⟩ := ref_at hx
          obtain ⟨hrun, hlh, hhm, _⟩ := sliceBounds_run (P := P) ht true len cap len len hh l lo hi none hn (by simp [boundD]) (by simpa using hhh) hl (by simp) (Nat.le_refl _)
          simp only [Option.isSome_none, Bool.false_eq_true, if_false] at hrun hhm
          refine ⟨_, sliceAt_slice hu hsz A len cap l hh _ _ _ _ hrun, ?_⟩
          refine .ref id _ _ _ _ _ hid (by omega) (fun hcap => ?_)
          obtain ⟨a', rfl, hal⟩ := ha (by omega)
          refine ⟨a'.add (l * esz), by simp; omega, fun hl' => ?_⟩
          obtain ⟨b, bs, C, e1, rfl, hC, hsz'⟩ := hal hl'
          refine ⟨b, bs, C, e1, by rw [add_cell, Nat.add_assoc], hC, ?_⟩
          have : bs + (off + l * esz) + (cap - l) * esz = bs + off + cap * esz := by
            rw [← Nat.add_assoc, Nat.add_assoc (bs + off), ← Nat.add_mul]; congr 2; omega
          omega
      · cases h
  · rename_i n e hu
    simp only [Option.bind_eq_some_iff] at h
    obtain ⟨sz, hsz, h⟩ := h
    split at h
    · cases h
    · rename_i hz
      simp only [Bool.or_eq_true, decide_eq_true_eq, not_or, Bool.not_eq_true, Option.isSome_map] at hz
      have hmx0 : mx = none := by cases mx <;> simp_all
      subst hmx0
      split at h
      · rename_i id off
        split at h
        · rename_i hfit
          simp only [Option.bind_eq_some_iff] at h
          obtain ⟨hh, hhh, l, hl, h⟩ := h
          simp only [Option.some.injEq] at h
          subst h
          obtain ⟨a', rfl⟩ := ptr_val hx
          obtain ⟨hrun, hlh, hhm, _⟩ := sliceBounds_run (P := P) ht false n n n n hh l lo hi none (Nat.le_refl _) (by simp [boundD]) (by simpa using hhh) hl (by simp) (Nat.le_refl _)
          simp only [Option.isSome_none, Bool.false_eq_true, if_false] at hrun hhm
          refine ⟨_, sliceAt_arr hu hsz a' l hh _ _ _ _ hrun, ?_⟩
          cases hx with
          | ptr _ _ _ hid hal =>
            refine .ref id _ _ _ _ _ hid (by omega) (fun hcap => ⟨_, rfl, fun hl' => ?_⟩)
            obtain ⟨b, bs, e1, rfl⟩ := hal hl'
            obtain ⟨o, ho, _⟩ := hl'
            simp only [fitB, ho, decide_eq_true_eq] at hfit
            have hnpos : 0 < n * sz := Nat.mul_pos (by omega) (Nat.pos_of_ne_zero hz.2)
            obtain ⟨b', bs', C, ds, e2, hC, hcs, hld, _, _⟩ := hs.cells ho (by omega)
            rw [e1] at e2
            simp only [Option.some.injEq, Prod.mk.injEq] at e2
            obtain ⟨rfl, rfl⟩ := e2
            refine ⟨b, bs, C, e1, by rw [if_neg (by omega), add_cell, Nat.add_assoc], hC, ?_⟩
            have : bs + (off + l * sz) + (n - l) * sz = bs + off + n * sz := by
              rw [← Nat.add_assoc, Nat.add_assoc (bs + off), ← Nat.add_mul]; congr 2; omega
            have := hcs.1
            omega
        · cases h
      · rename_i cells off
        simp only [Option.bind_eq_some_iff] at h
        obtain ⟨hh, hhh, l, hl, h⟩ := h
        split at h
        · rename_i hfit
          simp only [Option.some.injEq] at h
          subst h
          obtain ⟨hrun, hlh, hhm, _⟩ := sliceBounds_run (P := P) ht false n n n n hh l lo hi none (Nat.le_refl _) (by simp [boundD]) (by simpa using hhh) hl (by simp) (Nat.le_refl _)
          simp only [Option.isSome_none, Bool.false_eq_true, if_false] at hrun hhm
          cases hx.toP with
          | iptr _ _ b o us ha h1 hr =>
            refine ⟨_, sliceAt_arr hu hsz _ l hh _ _ _ _ hrun, ?_⟩
            have hmul : off + l * sz + (hh - l) * sz ≤ cells.length := by
              have : l * sz + (hh - l) * sz = hh * sz := by rw [← Nat.add_mul]; congr 1; omega
              have := Nat.mul_le_mul_right sz hhm
              omega
            refine .p _ _ (lst_sub (A := some ⟨b, o, none⟩) (fun hne => ⟨b, o, rfl, (ha hne).1, (ha hne).2⟩) h1 hr (off + l * sz) ((hh - l) * sz) (hh - l) _ false _ (by omega) (fun h => by cases h) hmul ?_)
            intro hne b' o' e
            simp only [Option.some.injEq, Addr.mk.injEq] at e
            obtain ⟨rfl, rfl, _⟩ := e
            have hlt : l < hh := by
              rcases Nat.lt_or_ge l hh with h2 | h2
              · exact h2
              · exfalso; apply hne; rw [show hh - l = 0 from by omega]; simp
            rw [if_neg (by omega), add_cell, Nat.add_assoc]
        · cases h
      · cases h
  · rename_i hu
    simp only [Option.bind_eq_some_iff] at h
    obtain ⟨u, hux, h⟩ := h
    have := concD_ok hx hux
    subst this
    have hopt : ∀ (z : Option Operand) (q : Option (Option Value)), (z.map (evalO tm)).map concD = q → (q = none → z = none) ∧ (∀ u, q = some (some u) → z.map a.eval = some u) := by
      intro z q hq
      subst hq
      cases z with
      | none => simp
      | some o =>
        simp only [Option.map_some, reduceCtorEq, false_implies, Option.some.injEq, true_and]
        intro u hu
        exact concD_ok (eval_ok ht o) hu
    split at h
    · rename_i e1 e2 e3
      obtain rfl := (hopt lo _ e1).1 rfl
      obtain rfl := (hopt hi _ e2).1 rfl
      have : mx = none := by cases mx <;> simp_all
      subst this
      simp only [Option.map_eq_some_iff] at h
      obtain ⟨r, hr, rfl⟩ := h
      exact ⟨r, pureRun_run w hr, .p _ _ (.v r)⟩
    · rename_i u1 e1 e2 e3
      have e4 := (hopt lo _ e1).2 u1 rfl
      obtain rfl := (hopt hi _ e2).1 rfl
      have : mx = none := by cases mx <;> simp_all
      subst this
      simp only [Option.map_eq_some_iff] at h
      obtain ⟨r, hr, rfl⟩ := h
      rw [e4]
      exact ⟨r, pureRun_run w hr, .p _ _ (.v r)⟩
    · rename_i u2 e1 e2 e3
      obtain rfl := (hopt lo _ e1).1 rfl
      have e4 := (hopt hi _ e2).2 u2 rfl
      have : mx = none := by cases mx <;> simp_all
      subst this
      simp only [Option.map_eq_some_iff] at h
      obtain ⟨r, hr, rfl⟩ := h
      rw [e4]
      exact ⟨r, pureRun_run w hr, .p _ _ (.v r)⟩
    · rename_i u1 u2 e1 e2 e3
      have e4 := (hopt lo _ e1).2 u1 rfl
      have e5 := (hopt hi _ e2).2 u2 rfl
      have : mx = none := by cases mx <;> simp_all
      subst this
      simp only [Option.map_eq_some_iff] at h
      obtain ⟨r, hr, rfl⟩ := h
      rw [e4, e5]
      exact ⟨r, pureRun_run w hr, .p _ _ (.v r)⟩
    · cases h
  · cases h

theorem len_ok {ts : Array TypeId} {ty : TypeId} {xv : Value} {x d : Dv} (hx : RepD w M H ρ xv x) (h : lenD P (ts.getD 0 0) x = some d) (ht : 0 < ts.size) :
    ∃ v, (Builtin.len_ ts ty #[xv]).run P w = .ok v w ∧ RepD w M H ρ v d := by
  have e0 : ts[0]? = some (ts.getD 0 0) := by simp [ht]
  generalize ts.getD 0 0 = t0 at *
  unfold lenD at h
  split at h
  · rename_i e full n cells hu
    simp only [Option.some.injEq] at h
    subst h
    obtain ⟨A, cap, us, rfl, _⟩ := lst_at hx.toP
    exact ⟨_, by simp [Builtin.len_, e0, und_run hu], .p _ _ (.v _)⟩
  · rename_i e id off n esz hu
    simp only [Option.some.injEq] at h
    subst h
    obtain ⟨A, cap, rfl, _⟩ := ref_at hx
    exact ⟨_, by simp [Builtin.len_, e0, und_run hu], .p _ _ (.v _)⟩
  · rename_i s hu
    simp only [Option.some.injEq] at h
    subst h
    have := hx.toP.v_eq
    subst this
    exact ⟨_, by simp [Builtin.len_, e0, und_run hu], .p _ _ (.v _)⟩
  · rename_i n e hu
    simp only [Option.some.injEq] at h
    subst h
    exact ⟨_, by simp [Builtin.len_, e0, und_run hu], .p _ _ (.v _)⟩
  · cases h
end
end Go.Ev
