/- Operations that write: variables, stores, aggregates, slices that are written out. -/
import Derived.Test.YtgjhagehbfhioaaEv6
import Derived.Laws.Tables
set_option linter.unusedVariables false
set_option linter.unusedSimpArgs false
namespace Go.Ev
section
variable {P : Program} {X M : Nat → Prop} {w : World} {H : List Ob} {ρ : Pl}

/-! ### Lists of cells -/
theorem setAt_length {α : Type} : ∀ (es : List α) (cs : List α) (off : Nat), (setAt cs off es).length = cs.length
  | [], cs, off => rfl
  | e :: es, cs, off => by simp [setAt, setAt_length es]
theorem setAt_get {α : Type} : ∀ (es : List α) (cs : List α) (off j : Nat), off + es.length ≤ cs.length →
    (setAt cs off es)[j]? = if off ≤ j ∧ j < off + es.length then es[j - off]? else cs[j]?
  | [], cs, off, j, _ => by
    rw [if_neg (by simp only [List.length_nil]; omega)]; rfl
  | e :: es, cs, off, j, h => by
    simp only [List.length_cons] at h
    simp only [setAt]
    rw [setAt_get es (cs.set off e) (off + 1) j (by simp; omega)]
    by_cases hj : j = off
    · subst hj
      rw [if_neg (by omega), if_pos (by simp), List.getElem?_set_self (by omega)]
      simp
    · by_cases h2 : off + 1 ≤ j ∧ j < off + 1 + es.length
      · rw [if_pos h2, if_pos (by simp; omega)]
        obtain ⟨k, hk⟩ : ∃ k, j - off = k + 1 := ⟨j - off - 1, by omega⟩
        rw [hk, show j - (off + 1) = k from by omega]
        simp
      · rw [if_neg h2, if_neg (by simp; omega), List.getElem?_set_ne (by omega)]

/-! ### Writing into a block that lives -/
theorem setRow_other (w : World) (g b : Nat) (C : Array Value) (h : b ≠ g) : (w.setRow g C).heap[b]? = w.heap[b]? := by
  simp only [World.setRow, Array.getElem?_modify]
  rw [if_neg (by omega)]
theorem setRow_shape {w : World} {g : Nat} {C C' : Array Value} (hg : Blk w g C) (hl : C'.size = C.size) : ∀ b D, Blk w b D → ∃ D', Blk (w.setRow g C') b D' ∧ D'.size = D.size := by
  intro b D hD
  by_cases hb : b = g
  · subst hb
    obtain ⟨T, fr, h⟩ := hg
    refine ⟨C', ⟨T, fr, setRow_heap w b C C' T fr h⟩, ?_⟩
    rw [hl]
    exact congrArg Array.size (Blk.unique ⟨T, fr, h⟩ hD)
  · obtain ⟨T, fr, h⟩ := hD
    exact ⟨D, ⟨T, fr, by rw [setRow_other _ _ _ _ hb]; exact h⟩, rfl⟩
/-- The cells of a block behind a store. -/
def rowOf (C : Array Value) (o : Nat) (vs : Array Value) : Array Value := (C.toList.take o ++ vs.toList ++ C.toList.drop (o + vs.size)).toArray
theorem rowOf_size {C : Array Value} {o : Nat} {vs : Array Value} (h : o + vs.size ≤ C.size) : (rowOf C o vs).size = C.size := by
  simp [rowOf]; omega
theorem rowOf_get {C : Array Value} {o : Nat} {vs : Array Value} (h : o + vs.size ≤ C.size) (j : Nat) : (rowOf C o vs)[j]? = if o ≤ j ∧ j < o + vs.size then vs[j - o]? else C[j]? := by
  have e : (rowOf C o vs)[j]? = (C.toList.take o ++ vs.toList ++ C.toList.drop (o + vs.size))[j]? := by simp [rowOf]
  rw [e]
  by_cases h1 : j < o
  · rw [List.append_assoc, List.getElem?_append_left (by simp; omega), if_neg (by omega)]
    simp [List.getElem?_take, h1]
  · by_cases h2 : j < o + vs.size
    · rw [List.getElem?_append_left (by simp; omega), List.getElem?_append_right (by simp; omega), if_pos (by omega)]
      simp
      congr 1
      omega
    · rw [List.getElem?_append_right (by simp; omega), if_neg (by omega)]
      simp only [List.getElem?_drop, List.length_append, List.length_take, Array.length_toList]
      rw [show o + vs.size + (j - (min o C.size + vs.size)) = j from by omega]
      simp
theorem rowOf_getD {C : Array Value} {o : Nat} {vs : Array Value} (h : o + vs.size ≤ C.size) (j : Nat) : (rowOf C o vs).getD j undef = if o ≤ j ∧ j < o + vs.size then vs.getD (j - o) undef else C.getD j undef := by
  rw [Array.getD_eq_getD_getElem?, rowOf_get h, Array.getD_eq_getD_getElem?, Array.getD_eq_getD_getElem?]
  split <;> rfl
theorem storeCells_run {b o : Nat} {C : Array Value} {T : TypeId} {vs : Array Value} (hC : w.heap[b]? = some (.cells C T (0, 0))) (hf : o + vs.size ≤ C.size) (h1 : ∀ j, j < vs.size → (vs.getD j undef).oneCell' = true) :
    (storeCells ⟨b, o, none⟩ vs.toList).run P w = .ok () (w.setRow b (rowOf C o vs)) := by
  have := run_storeCells_at P b o T vs.toList 0 C w hC (by simpa using hf) (by
    intro v hv
    obtain ⟨j, hj, e⟩ := List.getElem_of_mem hv
    have h2 := h1 j (by simpa using hj)
    have h3 : vs.getD j undef = v := by
      rw [Array.getD_eq_getD_getElem?]
      simp at hj
      simp [hj]
      simpa using e
    rw [h3] at h2; exact h2)
  simpa [rowOf] using this

/-- A store into a live object. -/
theorem write_ob {k : Nat} {o o' : Ob} (hs : Sim X w H ρ) (hk : H[k]? = some o) (hol : o.live = true) (hol' : o'.live = true) {b bs : Nat} {C : Array Value} (e : ρ k = some (b, bs)) (hx : ¬ X b) (hC : Own w b C)
    {at_ : Nat} {vs : Array Value} (hf : at_ + vs.size ≤ C.size)
    (hob : Evo H.length w H ρ (w.setRow b (rowOf C at_ vs)) (H.set k o') ρ → Own (w.setRow b (rowOf C at_ vs)) b (rowOf C at_ vs) → ObOk (w.setRow b (rowOf C at_ vs)) X (H.set k o') ρ k o') :
    Evo H.length w H ρ (w.setRow b (rowOf C at_ vs)) (H.set k o') ρ ∧ Sim X (w.setRow b (rowOf C at_ vs)) (H.set k o') ρ := by
  have h5 : ∀ b', ¬ (∃ x bs', H[k]? = some x ∧ x.live = true ∧ ρ k = some (b', bs')) → (w.setRow b (rowOf C at_ vs)).heap[b']? = w.heap[b']? := by
    intro b' hb'
    apply setRow_other
    rintro rfl
    exact hb' ⟨o, bs, hk, hol, e⟩
  have h6 := setRow_shape hC.blk (rowOf_size hf)
  have hsz : (w.setRow b (rowOf C at_ vs)).heap.size = w.heap.size := by simp [World.setRow]
  have he : Evo H.length w H ρ (w.setRow b (rowOf C at_ vs)) (H.set k o') ρ := Evo.setOb rfl rfl rfl hsz h5 h6 (fun _ => ⟨o, hk, hol⟩) (fun _ => ⟨o, hk, by cases o <;> simp_all [Ob.live, Ob.alive]⟩)
  refine ⟨he, hs.setOb rfl rfl rfl hsz h5 h6 (fun _ => ⟨o, hk, hol⟩) (fun _ => ⟨o, hk, by cases o <;> simp_all [Ob.live, Ob.alive]⟩) (fun _ => hob he ?_)⟩
  obtain ⟨T, hT⟩ := hC
  exact ⟨T, setRow_heap w b C _ T _ hT⟩
theorem CellsD.write {C : Array Value} {bs : Nat} {ds es : List Dv} {vs : Array Value} (h : CellsD w M H ρ C bs ds) (hv : COk w M H ρ vs es) {off : Nat} (hf : off + es.length ≤ ds.length) :
    CellsD w M H ρ (rowOf C (bs + off) vs) bs (setAt ds off es) := by
  have hsz : bs + off + vs.size ≤ C.size := by have := h.1; have := hv.1; omega
  refine ⟨by rw [setAt_length, rowOf_size hsz]; exact h.1, fun j hj => ?_⟩
  rw [setAt_length] at hj
  have e1 := setAt_get es ds off j hf
  rw [rowOf_getD hsz, hv.1]
  by_cases hc : off ≤ j ∧ j < off + es.length
  · rw [if_pos hc] at e1
    rw [if_pos (by omega)]
    have e2 : (setAt ds off es)[j]'(by rw [setAt_length]; exact hj) = es[j - off]'(by omega) := by
      rw [List.getElem?_eq_getElem (by rw [setAt_length]; exact hj), List.getElem?_eq_getElem (by omega)] at e1
      exact Option.some.inj e1
    rw [e2, show bs + j - (bs + off) = j - off from by omega]
    exact hv.2 (j - off) (by omega)
  · rw [if_neg hc] at e1
    rw [if_neg (by omega)]
    have e2 : (setAt ds off es)[j]'(by rw [setAt_length]; exact hj) = ds[j] := by
      rw [List.getElem?_eq_getElem (by rw [setAt_length]; exact hj), List.getElem?_eq_getElem hj] at e1
      exact Option.some.inj e1
    rw [e2]
    exact h.2 j hj
theorem setAt_map {α β : Type} (f : α → β) : ∀ (es cs : List α) (off : Nat), (setAt cs off es).map f = setAt (cs.map f) off (es.map f)
  | [], cs, off => rfl
  | e :: es, cs, off => by simp [setAt, setAt_map f es]
theorem CellsP.write {C : Array Value} {bs : Nat} {ds es : List Pv} {vs : Array Value} (h : CellsP w M C bs ds) (hv : COk w M H ρ vs (es.map .p)) {off : Nat} (hf : off + es.length ≤ ds.length) :
    CellsP w M (rowOf C (bs + off) vs) bs (setAt ds off es) := by
  have := CellsD.write (H := H) (ρ := ρ) h.dyn hv (off := off) (by simpa using hf)
  rw [← setAt_map] at this
  exact this.pure

/-! ### What is given away -/
theorem freezeAll_get {l : List Nat} : ∀ {H : List Ob} {id : Nat} {cs : List Pv}, (H[id]? = some (.frz cs) ∨ (id ∈ l ∧ H[id]? = some (.arr cs)) ∨ (id ∈ l ∧ H[id]? = some (.var (cs.map .p)))) → (freezeAll H l)[id]? = some (.frz cs) := by
  have allPmap : ∀ cs : List Pv, allP (cs.map Dv.p) = some cs := by
    intro cs; induction cs with
    | nil => rfl
    | cons a l ih => simp [allP, ih]
  induction l with
  | nil => intro H id cs h; simpa [freezeAll] using h
  | cons i l ih =>
    intro H id cs h
    simp only [freezeAll]
    apply ih
    by_cases hi : i = id
    · subst hi
      left
      unfold frzAt
      rcases h with h | ⟨_, h⟩ | ⟨_, h⟩ <;> simp only [h]
      · simp [frzOb, (List.getElem?_eq_some_iff.1 h).1]
      · simp [frzOb, (List.getElem?_eq_some_iff.1 h).1]
      · simp [frzOb, (List.getElem?_eq_some_iff.1 h).1, allPmap]
    · have e : (frzAt H i)[id]? = H[id]? := by
        unfold frzAt
        split
        · rw [List.getElem?_set_ne hi]
        · rfl
      rw [e]
      rcases h with h | ⟨hm, h⟩ | ⟨hm, h⟩
      · exact .inl h
      · refine .inr (.inl ⟨?_, h⟩)
        rcases List.mem_cons.1 hm with h' | h'
        · exact absurd h'.symm hi
        · exact h'
      · refine .inr (.inr ⟨?_, h⟩)
        rcases List.mem_cons.1 hm with h' | h'
        · exact absurd h'.symm hi
        · exact h'
theorem allP_map (cs : List Pv) : allP (cs.map Dv.p) = some cs := by
  induction cs with
  | nil => rfl
  | cons a l ih => simp [allP, ih]
/-- A slice into a frozen object. -/
theorem frz_slice (hs : Sim X w H ρ) {id off len esz : Nat} {cs : List Pv} (hid : H[id]? = some (.frz cs)) {v : Value} (hv : RepD w (Mut X H ρ) H ρ v (.ref id off len esz)) (hsz : off + len * esz ≤ cs.length) :
    RepP w (Mut X H ρ) v (.lst false len ((cs.drop off).take (len * esz))) := by
  obtain ⟨A, cap, rfl, hlt, hn, ha⟩ := ref_at hv
  have hl : ((cs.drop off).take (len * esz)).length = len * esz := by simp; omega
  rcases hs.obs id _ hid with ⟨h0, e⟩ | ⟨b, bs, C, e, hx, hC, hcs⟩
  · subst h0
    have h2 : len * esz = 0 := by simp at hsz; omega
    rw [h2]
    exact .lst false len _ A cap (fun _ => undef) hn (fun h => by cases h) (fun h => absurd rfl h) (fun j hj => absurd hj (by simp)) (fun j hj => absurd hj (by simp))
  · refine .lst false len _ A cap (fun j => C.getD (bs + (off + j)) undef) hn (fun h => by cases h) (fun hne => ?_) (fun j hj => ?_) (fun j hj => ?_)
    · have hpos : 0 < len * esz := by
        rcases Nat.eq_zero_or_pos (len * esz) with h2 | h2
        · rw [h2] at hne; simp at hne
        · exact h2
      have hlen : 0 < len := by
        rcases Nat.eq_zero_or_pos len with h2 | h2
        · subst h2; simp at hpos
        · exact h2
      obtain ⟨a, rfl, hal⟩ := ha (by omega)
      obtain ⟨b', bs', C', e1, rfl, hC', _⟩ := hal ⟨_, hid, rfl⟩
      rw [e] at e1
      simp only [Option.some.injEq, Prod.mk.injEq] at e1
      obtain ⟨rfl, rfl⟩ := e1
      refine ⟨b, bs + off, rfl, hx, fun j hj => ?_⟩
      rw [hC.cell, Nat.add_assoc]
      have := hcs.1
      exact getD_some (by omega)
    · exact (hcs.2 (off + j) (by omega)).1
    · have := (hcs.2 (off + j) (by omega)).2
      simpa using this
theorem frz_ptr (hs : Sim X w H ρ) {id off : Nat} {cs : List Pv} (hid : H[id]? = some (.frz cs)) {v : Value} (hv : RepD w (Mut X H ρ) H ρ v (.ptr id off)) (hne : cs ≠ []) :
    RepP w (Mut X H ρ) v (.iptr cs off) := by
  cases hv with
  | ptr _ _ a hlt hal =>
    rcases hs.obs id _ hid with ⟨h0, e⟩ | ⟨b, bs, C, e, hx, hC, hcs⟩
    · exact absurd h0 hne
    · obtain ⟨b', bs', e1, rfl⟩ := hal ⟨_, hid, rfl⟩
      rw [e] at e1
      simp only [Option.some.injEq, Prod.mk.injEq] at e1
      obtain ⟨rfl, rfl⟩ := e1
      refine .iptr cs off b bs (fun j => C.getD (bs + j) undef) (fun _ => ⟨hx, fun j hj => ?_⟩) (fun j hj => (hcs.2 j hj).1) (fun j hj => (hcs.2 j hj).2)
      rw [hC.cell]
      have := hcs.1
      exact getD_some (by omega)
theorem purify_ok (hs : Sim X w H ρ) {v : Value} {d : Dv} {x : Pv} {l : List Nat} (hv : RepD w (Mut X H ρ) H ρ v d) (h : purify H d = some (x, l)) (l' : List Nat) (hl : ∀ i ∈ l, i ∈ l') :
    RepP w (Mut X (freezeAll H l') ρ) v x := by
  obtain ⟨he, hs'⟩ := freeze_all l' hs
  have hv' := hv.evo he
  unfold purify at h
  split at h
  · simp only [Option.some.injEq, Prod.mk.injEq] at h
    obtain ⟨rfl, rfl⟩ := h
    exact hv'.toP
  · rename_i id off len esz
    split at h
    · rename_i cs hid
      split at h
      · rename_i hsz
        simp only [Option.some.injEq, Prod.mk.injEq] at h
        obtain ⟨rfl, rfl⟩ := h
        exact frz_slice hs' (freezeAll_get (.inr (.inl ⟨hl id (by simp), hid⟩))) hv' hsz
      · cases h
    · rename_i cs hid
      split at h
      · rename_i hsz
        simp only [Option.some.injEq, Prod.mk.injEq] at h
        obtain ⟨rfl, rfl⟩ := h
        exact frz_slice hs' (freezeAll_get (.inl hid)) hv' hsz
      · cases h
    · cases h
  · rename_i id off
    split at h
    · rename_i cs hid
      split at h
      · cases h
      · rename_i hne
        simp only [Option.some.injEq, Prod.mk.injEq] at h
        obtain ⟨rfl, rfl⟩ := h
        exact frz_ptr hs' (freezeAll_get (.inr (.inl ⟨hl id (by simp), hid⟩))) hv' (by simpa using hne)
    · rename_i cs hid
      split at h
      · cases h
      · rename_i hne
        simp only [Option.some.injEq, Prod.mk.injEq] at h
        obtain ⟨rfl, rfl⟩ := h
        exact frz_ptr hs' (freezeAll_get (.inl hid)) hv' (by simpa using hne)
    · rename_i ds hid
      split at h
      · cases h
      · rename_i hne
        simp only [Option.map_eq_some_iff, Prod.mk.injEq] at h
        obtain ⟨cs, h1, rfl, rfl⟩ := h
        have := allP_spec h1
        subst this
        exact frz_ptr hs' (freezeAll_get (.inr (.inr ⟨hl id (by simp), hid⟩))) hv' (by simpa using hne)
    · cases h
  · cases h
theorem purifys_ok (hs : Sim X w H ρ) {vs : Array Value} : ∀ {ds : List Dv} {xs : List Pv} {l : List Nat}, purifys H ds = some (xs, l) → ∀ (l' : List Nat), (∀ i ∈ l, i ∈ l') →
    xs.length = ds.length ∧ ∀ j (h1 : j < xs.length) (h2 : j < ds.length) (v : Value), RepD w (Mut X H ρ) H ρ v ds[j] → RepP w (Mut X (freezeAll H l') ρ) v xs[j]
  | [], xs, l, h, l', hl => by
    simp only [purifys, Option.some.injEq, Prod.mk.injEq] at h
    obtain ⟨rfl, rfl⟩ := h
    exact ⟨rfl, fun j h1 => absurd h1 (by simp)⟩
  | d :: ds, xs, l, h, l', hl => by
    simp only [purifys] at h
    split at h
    · rename_i x l1 ys l2 h1 h2
      simp only [Option.some.injEq, Prod.mk.injEq] at h
      obtain ⟨rfl, rfl⟩ := h
      obtain ⟨e, ih⟩ := purifys_ok hs (vs := vs) h2 l' (fun i hi => hl i (by simp [hi]))
      refine ⟨by simp [e], fun j h3 h4 v hv => ?_⟩
      cases j with
      | zero => exact purify_ok hs hv h1 l' (fun i hi => hl i (by simp [hi]))
      | succ j => exact ih j (by simpa using h3) (by simpa using h4) v hv
    · cases h
end
end Go.Ev
