/- Operations that leave the world alone, continued: addresses, slices, lengths, aggregates. -/
import Derived.Test.YtgjhagehbfhioaaEv4
set_option linter.unusedVariables false
set_option linter.unusedSimpArgs false
namespace Go.Ev
section
variable {P : Program} {X M : Nat → Prop} {w : World} {H : List Ob} {ρ : Pl}

theorem fieldOf_spec {t : TypeId} {i : Nat} {f : Field} (h : fieldOf P t i = some f) : ∃ fs, P.underlying t = some (.struct fs) ∧ fs[i]? = some f := by
  unfold fieldOf at h
  split at h
  · rename_i fs hu; exact ⟨fs, hu, h⟩
  · cases h
theorem fieldAt_run {t : TypeId} {i : Nat} {f : Field} (h : fieldOf P t i = some f) {n : Nat} (hn : szOf P f.type = some n) (h0 : n ≠ 0) (a : Addr) (w : World) :
    (Instr.fieldAt t (.pointer (some a)) i).run P w = .ok (.pointer (some (a.add f.offset))) w := by
  obtain ⟨fs, hu, hf⟩ := fieldOf_spec h
  simp [Instr.fieldAt, und_run hu, hf, Instr.sureAddr, fieldPlace, szOf_run hn, h0]
theorem field_run {t : TypeId} {i : Nat} {f : Field} (h : fieldOf P t i = some f) (vs : Array Value) (w : World) :
    (Instr.field t (.agg vs) i).run P w = (part f.type vs f.offset).run P w := by
  obtain ⟨fs, hu, hf⟩ := fieldOf_spec h
  simp [Instr.field, und_run hu, hf, asAgg]
theorem ptr_add {id off k : Nat} {a : Addr} (h : RepD w M H ρ (.pointer (some a)) (.ptr id off)) : RepD w M H ρ (.pointer (some (a.add k))) (.ptr id (off + k)) := by
  cases h with
  | ptr _ _ _ hid ha =>
    refine .ptr id (off + k) _ hid (fun hl => ?_)
    obtain ⟨b, bs, e, rfl⟩ := ha hl
    exact ⟨b, bs, e, by rw [add_cell, Nat.add_assoc]⟩
theorem iptr_add {cs : List Pv} {off k : Nat} {a : Addr} (h : RepP w M (.pointer (some a)) (.iptr cs off)) : RepP w M (.pointer (some (a.add k))) (.iptr cs (off + k)) := by
  cases h with
  | iptr _ _ b o us ha h1 hr =>
    rw [add_cell, Nat.add_assoc]
    exact .iptr cs (off + k) b o us ha h1 hr
theorem ptr_val {v : Value} {id off : Nat} (h : RepD w M H ρ v (.ptr id off)) : ∃ a, v = .pointer (some a) := by
  cases h; exact ⟨_, rfl⟩
theorem iptr_val {v : Value} {cs : List Pv} {off : Nat} (h : RepP w M v (.iptr cs off)) : ∃ a, v = .pointer (some a) := by
  cases h; exact ⟨_, rfl⟩

/-- What a slice is, cells and all. -/
theorem lst_at {v : Value} {full : Bool} {n : Nat} {cells : List Pv} (h : RepP w M v (.lst full n cells)) : ∃ (A : Option Addr) (cap : Nat) (us : Nat → Value), v = .slice A n cap ∧ n ≤ cap ∧ (full = true → cap = n) ∧
    (cells ≠ [] → ∃ b o, A = some ⟨b, o, none⟩ ∧ ¬ M b ∧ ∀ j, j < cells.length → w.cell? ⟨b, o + j, none⟩ = some (us j)) ∧
    (∀ j, j < cells.length → (us j).oneCell' = true) ∧ (∀ j (h : j < cells.length), RepP w M (us j) cells[j]) := by
  cases h with
  | lst _ _ _ A cap us hn hf ha h1 hr => exact ⟨A, cap, us, rfl, hn, hf, ha, h1, hr⟩
theorem ref_at {v : Value} {id off len esz : Nat} (h : RepD w M H ρ v (.ref id off len esz)) : ∃ A cap, v = .slice A len cap ∧ id < H.length ∧ len ≤ cap ∧
    (0 < cap → ∃ a, A = some a ∧ (Alive H id → ∃ b bs C, ρ id = some (b, bs) ∧ a = ⟨b, bs + off, none⟩ ∧ Blk w b C ∧ bs + off + cap * esz ≤ C.size)) := by
  cases h with
  | ref _ _ _ _ A cap hid hn ha => exact ⟨A, cap, rfl, hid, hn, ha⟩

/-- An index in a slice. -/
theorem indexAt_slice {t e : TypeId} (hu : P.underlying t = some (.slice e)) {sz : Nat} (hsz : szOf P e = some sz) {k : IntKind} {i : Int} {len cap : Nat} (h0 : 0 ≤ i) (h1 : i < len) (a : Addr) (w : World) :
    (Instr.indexAt t (.slice (some a) len cap) (.int k i)).run P w = .ok (.pointer (some (a.add (i.toNat * sz)))) w := by
  simp [Instr.indexAt, asIntOf, und_run hu, h0, h1, szOf_run hsz]
theorem indexAt_arr {t e : TypeId} {n : Nat} (hu : P.underlying t = some (.array n e)) {sz : Nat} (hsz : szOf P e = some sz) {k : IntKind} {i : Int} (h0 : 0 ≤ i) (h1 : i < n) (a : Addr) (w : World) :
    (Instr.indexAt t (.pointer (some a)) (.int k i)).run P w = .ok (.pointer (some (a.add (i.toNat * sz)))) w := by
  simp [Instr.indexAt, asIntOf, und_run hu, h0, h1, szOf_run hsz, Instr.sureAddr]
theorem mul_lt_len {i : Int} {n sz : Nat} (h0 : 0 ≤ i) (h1 : i < n) : i.toNat < n := by omega

theorem indexAddr_ok {t : TypeId} {xv iv : Value} {x ix d : Dv} (hx : RepD w (Mut X H ρ) H ρ xv x) (hix : RepD w (Mut X H ρ) H ρ iv ix)
    (h : ((intD ix).bind fun i =>
      match P.underlying t, x with
      | some (.slice e), .p (.lst _ n cells) => (szOf P e).bind fun sz => if 0 ≤ i ∧ i < n ∧ sz ≠ 0 ∧ cells.length = n * sz then some (Dv.p (.iptr cells (i.toNat * sz))) else none
      | some (.slice e), .ref id off n esz => (szOf P e).bind fun sz => if 0 ≤ i ∧ i < n ∧ sz = esz ∧ sz ≠ 0 then some (.ptr id (off + i.toNat * sz)) else none
      | some (.array n e), .ptr id off => (szOf P e).bind fun sz => if 0 ≤ i ∧ i < n ∧ sz ≠ 0 then some (.ptr id (off + i.toNat * sz)) else none
      | some (.array n e), .p (.iptr cells off) => (szOf P e).bind fun sz => if 0 ≤ i ∧ i < n ∧ sz ≠ 0 then some (.p (.iptr cells (off + i.toNat * sz))) else none
      | _, _ => none) = some d) :
    ∃ v, (Instr.indexAt t xv iv).run P w = .ok v w ∧ RepD w (Mut X H ρ) H ρ v d := by
  simp only [Option.bind_eq_some_iff] at h
  obtain ⟨i, hi, h⟩ := h
  obtain ⟨k, rfl⟩ := intD_ok hix hi
  split at h
  · rename_i e full n cells hu
    simp only [Option.bind_eq_some_iff] at h
    obtain ⟨sz, hsz, h⟩ := h
    split at h
    · rename_i hc
      simp only [Option.some.injEq] at h
      subst h
      obtain ⟨A, cap, us, rfl, hn, hf, ha, h1, hr⟩ := lst_at hx.toP
      have hne : cells ≠ [] := by
        intro e0; subst e0
        have h2 := hc.2.2.2
        simp only [List.length_nil] at h2
        have h3 : n = 0 := by
          rcases Nat.eq_zero_or_pos n with h4 | h4
          · exact h4
          · have := Nat.mul_pos h4 (Nat.pos_of_ne_zero hc.2.2.1); omega
        have := hc.1; have := hc.2.1; omega
      obtain ⟨b, o, rfl, hm, hcell⟩ := ha hne
      refine ⟨_, indexAt_slice hu hsz hc.1 hc.2.1 _ w, ?_⟩
      rw [add_cell]
      exact .p _ _ (.iptr cells (i.toNat * sz) b o us (fun _ => ⟨hm, hcell⟩) h1 hr)
    · cases h
  · rename_i e id off n esz hu
    simp only [Option.bind_eq_some_iff] at h
    obtain ⟨sz, hsz, h⟩ := h
    split at h
    · rename_i hc
      simp only [Option.some.injEq] at h
      subst h
      obtain ⟨A, cap, rfl, hid, hn, ha⟩ := ref_at hx
      obtain ⟨a, rfl, hal⟩ := ha (by have := hc.1; have := hc.2.1; omega)
      refine ⟨_, indexAt_slice hu hsz hc.1 hc.2.1 _ w, ?_⟩
      refine .ptr id _ _ hid (fun hl => ?_)
      obtain ⟨b, bs, C, e1, rfl, _, _⟩ := hal hl
      exact ⟨b, bs, e1, by rw [add_cell, Nat.add_assoc]⟩
    · cases h
  · rename_i n e id off hu
    simp only [Option.bind_eq_some_iff] at h
    obtain ⟨sz, hsz, h⟩ := h
    split at h
    · rename_i hc
      simp only [Option.some.injEq] at h
      subst h
      obtain ⟨a, rfl⟩ := ptr_val hx
      exact ⟨_, indexAt_arr hu hsz hc.1 hc.2.1 _ w, ptr_add hx⟩
    · cases h
  · rename_i n e cells off hu
    simp only [Option.bind_eq_some_iff] at h
    obtain ⟨sz, hsz, h⟩ := h
    split at h
    · rename_i hc
      simp only [Option.some.injEq] at h
      subst h
      obtain ⟨a, rfl⟩ := iptr_val hx.toP
      exact ⟨_, indexAt_arr hu hsz hc.1 hc.2.1 _ w, .p _ _ (iptr_add hx.toP)⟩
    · cases h
  · cases h

/-! ### Slices -/
theorem boundD_spec {x : Option Dv} {dflt lim b : Nat} (h : boundD x dflt lim = some b) : (x = none ∧ b = dflt) ∨ ∃ d i, x = some d ∧ intD d = some i ∧ 0 ≤ i ∧ i ≤ lim ∧ b = i.toNat := by
  unfold boundD at h
  cases x with
  | none => simp at h; exact .inl ⟨rfl, h.symm⟩
  | some d =>
    simp only [Option.bind_eq_some_iff] at h
    obtain ⟨i, hi, h⟩ := h
    split at h
    · rename_i hc; simp at h; exact .inr ⟨d, i, rfl, hi, hc.1, hc.2, h.symm⟩
    · cases h
theorem sliceBound_run {k : IntKind} {i : Int} {y : Nat} {c : BoundsCode} (h0 : 0 ≤ i) (h1 : i ≤ y) : (Instr.sliceBound (.int k i) y c) = pure i.toNat := by
  simp [Instr.sliceBound, asIntOf, h0, h1]
/-- The three bounds, as the model reckons them: 'mc' is the capacity where no maximum is given. -/
theorem sliceBounds_run {a : Act} {tm : List Dv} (ht : TOk w M H ρ a.tmps tm) (isS : Bool) (len cap n m h l : Nat) (lo hi mx : Option Operand) (hnc : n ≤ cap)
    (hm : boundD (mx.map (evalO tm)) n n = some m) (hh : boundD (hi.map (evalO tm)) len (if mx.isSome then m else len) = some h) (hl : boundD (lo.map (evalO tm)) 0 h = some l)
    (hmx : mx.isSome = true → hi.isSome = true) (hlc : len ≤ n) :
    (Instr.sliceBounds isS len cap (lo.map a.eval) (hi.map a.eval) (mx.map a.eval)).run P w = .ok (l, h, if mx.isSome then m else cap) w ∧ l ≤ h ∧ h ≤ (if mx.isSome then m else len) ∧ m ≤ n := by
  have vlo : ∀ (x : Operand) (i : Int), intD (evalO tm x) = some i → ∃ k, a.eval x = .int k i := fun x i hi => intD_ok (eval_ok ht x) hi
  cases mx with
  | none =>
    simp only [Option.map_none, Option.isSome_none, Bool.false_eq_true, if_false] at hm hh ⊢
    have hm' : m = n := by simpa [boundD] using hm.symm
    rcases boundD_spec hh with ⟨eh, rfl⟩ | ⟨d, i, eh, ei, h0, h1, rfl⟩
    · have : hi = none := by cases hi <;> simp_all
      subst this
      rcases boundD_spec hl with ⟨el, rfl⟩ | ⟨d, i, el, ei, h0, h1, rfl⟩
      · have : lo = none := by cases lo <;> simp_all
        subst this
        exact ⟨by simp [Instr.sliceBounds], by omega, by omega, by omega⟩
      · cases lo with
        | none => simp at el
        | some x =>
          simp only [Option.map_some, Option.some.injEq] at el
          subst el
          obtain ⟨k, e⟩ := vlo x i ei
          exact ⟨by simp [Instr.sliceBounds, e, sliceBound_run h0 h1], by omega, by omega, by omega⟩
    · cases hi with
      | none => simp at eh
      | some y =>
        simp only [Option.map_some, Option.some.injEq] at eh
        subst eh
        obtain ⟨k, e⟩ := vlo y i ei
        have h1' : i ≤ (cap : Int) := by omega
        rcases boundD_spec hl with ⟨el, rfl⟩ | ⟨d, i', el, ei', h0', h1'', rfl⟩
        · have : lo = none := by cases lo <;> simp_all
          subst this
          exact ⟨by simp [Instr.sliceBounds, e, sliceBound_run h0 h1'], by omega, by omega, by omega⟩
        · cases lo with
          | none => simp at el
          | some x =>
            simp only [Option.map_some, Option.some.injEq] at el
            subst el
            obtain ⟨k', e'⟩ := vlo x i' ei'
            exact ⟨by simp [Instr.sliceBounds, e, sliceBound_run h0 h1', e', sliceBound_run h0' h1''], by omega, by omega, by omega⟩
  | some z =>
    simp only [Option.map_some, Option.isSome_some, if_true] at hm hh hmx ⊢
    rcases boundD_spec hm with ⟨em, _⟩ | ⟨d, iz, em, eiz, hz0, hz1, rfl⟩
    · cases em
    · simp only [Option.some.injEq] at em
      subst em
      obtain ⟨kz, ez⟩ := vlo z iz eiz
      have hz2 : iz ≤ (cap : Int) := by omega
      cases hi with
      | none => simp at hmx
      | some y =>
        rcases boundD_spec hh with ⟨eh, _⟩ | ⟨d, i, eh, ei, h0, h1, rfl⟩
        · simp at eh
        · simp only [Option.map_some, Option.some.injEq] at eh
          subst eh
          obtain ⟨k, e⟩ := vlo y i ei
          rcases boundD_spec hl with ⟨el, rfl⟩ | ⟨d, i', el, ei', h0', h1'', rfl⟩
          · have : lo = none := by cases lo <;> simp_all
            subst this
            exact ⟨by simp [Instr.sliceBounds, ez, sliceBound_run hz0 hz2, e, sliceBound_run h0 h1], by omega, by omega, by omega⟩
          · cases lo with
            | none => simp at el
            | some x =>
              simp only [Option.map_some, Option.some.injEq] at el
              subst el
              obtain ⟨k', e'⟩ := vlo x i' ei'
              exact ⟨by simp [Instr.sliceBounds, ez, sliceBound_run hz0 hz2, e, sliceBound_run h0 h1, e', sliceBound_run h0' h1''], by omega, by omega, by omega⟩
end
end Go.Ev
