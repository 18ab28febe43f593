/- Steps of heap and world: a new block, a write to a block of a live object, an object that dies or is frozen. -/
import Derived.Test.YtgjhagehbfhioaaEv1
set_option linter.unusedVariables false
set_option linter.unusedSimpArgs false
namespace Go.Ev

def updPl (ρ : Pl) (n : Nat) (x : Option (Nat × Nat)) : Pl := fun i => if i = n then x else ρ i
theorem updPl_same (ρ : Pl) (n : Nat) (x : Option (Nat × Nat)) : updPl ρ n x n = x := by simp [updPl]
theorem updPl_ne {ρ : Pl} {n i : Nat} {x : Option (Nat × Nat)} (h : i ≠ n) : updPl ρ n x i = ρ i := by simp [updPl, h]

theorem Sim.step {X : Nat → Prop} {w w' : World} {H H' : List Ob} {ρ ρ' : Pl} (hs : Sim X w H ρ) (he : Evo H.length w H ρ w' H' ρ')
    (hob : ∀ i o, H'[i]? = some o → (H[i]? = some o ∧ (∀ b bs, ρ i = some (b, bs) → o.live = true → w'.heap[b]? = w.heap[b]?)) ∨ ObOk w' X H' ρ' i o)
    (hinj : ∀ i j o o' b bs bs', H'[i]? = some o → H'[j]? = some o' → o.live = true → o'.live = true → ρ' i = some (b, bs) → ρ' j = some (b, bs') → i = j) : Sim X w' H' ρ' where
  xlt b hb := Nat.lt_of_lt_of_le (hs.xlt b hb) he.size
  obs i o hi := by
    rcases hob i o hi with ⟨h1, h2⟩ | h
    · exact ObOk.keep hs he h1 hi h2
    · exact h
  inj := hinj

/-! ### The world alone: a draw, a new block that nobody writes -/
theorem Evo.world {w w' : World} {H : List Ob} {ρ : Pl} (h1 : w'.os = w.os) (h2 : w'.tape = w.tape) (h3 : w'.output = w.output) (h4 : w.heap.size ≤ w'.heap.size)
    (h5 : ∀ b, b < w.heap.size → w'.heap[b]? = w.heap[b]?) : Evo H.length w H ρ w' H ρ where
  os := h1
  tape := h2
  output := h3
  size := h4
  block b hb _ := h5 b hb
  shape b C hC := by
    have hlt := hC.lt
    obtain ⟨T, fr, e⟩ := hC
    exact ⟨C, ⟨T, fr, (h5 b hlt).trans e⟩, rfl⟩
  live b hb := .inl hb
  len := Nat.le_refl _
  len' := Nat.le_refl _
  alive i hi ha := ⟨ha, rfl⟩
theorem Sim.world {X : Nat → Prop} {w w' : World} {H : List Ob} {ρ : Pl} (hs : Sim X w H ρ) (h1 : w'.os = w.os) (h2 : w'.tape = w.tape) (h3 : w'.output = w.output) (h4 : w.heap.size ≤ w'.heap.size)
    (h5 : ∀ b, b < w.heap.size → w'.heap[b]? = w.heap[b]?) : Sim X w' H ρ :=
  hs.step (Evo.world h1 h2 h3 h4 h5) (fun i o hi => .inl ⟨hi, fun b bs e ho => h5 b (hs.live_lt ⟨i, o, bs, hi, ho, e⟩)⟩) hs.inj

theorem push_old (w : World) (o : Obj) (b : Nat) (hb : b < w.heap.size) : ({ w with heap := w.heap.push o } : World).heap[b]? = w.heap[b]? := by
  show (w.heap.push o)[b]? = _
  rw [Array.getElem?_push, if_neg (by omega)]
theorem push_new (w : World) (o : Obj) : ({ w with heap := w.heap.push o } : World).heap[w.heap.size]? = some o := by
  show (w.heap.push o)[w.heap.size]? = _
  simp
theorem Evo.push (w : World) (o : Obj) (H : List Ob) (ρ : Pl) : Evo H.length w H ρ { w with heap := w.heap.push o } H ρ :=
  Evo.world rfl rfl rfl (by simp) (fun b hb => push_old w o b hb)
theorem Sim.push {X : Nat → Prop} {w : World} {H : List Ob} {ρ : Pl} (hs : Sim X w H ρ) (o : Obj) : Sim X { w with heap := w.heap.push o } H ρ :=
  hs.world rfl rfl rfl (by simp) (fun b hb => push_old w o b hb)
theorem Evo.drew (w : World) (H : List Ob) (ρ : Pl) : Evo H.length w H ρ { w with drawn := w.drawn + 1 } H ρ :=
  Evo.world rfl rfl rfl (Nat.le_refl _) (fun _ _ => rfl)
theorem Sim.drew {X : Nat → Prop} {w : World} {H : List Ob} {ρ : Pl} (hs : Sim X w H ρ) : Sim X { w with drawn := w.drawn + 1 } H ρ :=
  hs.world rfl rfl rfl (Nat.le_refl _) (fun _ _ => rfl)

/-! ### A new object -/
theorem get_append_left {H : List Ob} {o : Ob} {i : Nat} (h : i < H.length) : (H ++ [o])[i]? = H[i]? := by
  rw [List.getElem?_append_left h]
theorem get_append_cases {H : List Ob} {o x : Ob} {i : Nat} (h : (H ++ [o])[i]? = some x) : (i < H.length ∧ H[i]? = some x) ∨ (i = H.length ∧ x = o) := by
  by_cases hi : i < H.length
  · rw [List.getElem?_append_left hi] at h; exact .inl ⟨hi, h⟩
  · rw [List.getElem?_append_right (by omega)] at h
    have h' : i - H.length = 0 := by
      rcases Nat.eq_zero_or_pos (i - H.length) with h0 | h0
      · exact h0
      · rw [List.getElem?_eq_none (by simp; omega)] at h; cases h
    rw [h'] at h
    simp at h
    exact .inr ⟨by omega, h.symm⟩
/-- The world changes outside the blocks that live; an object is added. -/
theorem Evo.addOb {w w' : World} {H : List Ob} {ρ : Pl} {o : Ob} {pl : Option (Nat × Nat)} (h1 : w'.os = w.os) (h2 : w'.tape = w.tape) (h3 : w'.output = w.output) (h4 : w.heap.size ≤ w'.heap.size)
    (h5 : ∀ b, b < w.heap.size → w'.heap[b]? = w.heap[b]?) (hpl : ∀ b bs, pl = some (b, bs) → o.live = true → w.heap.size ≤ b) : Evo H.length w H ρ w' (H ++ [o]) (updPl ρ H.length pl) where
  os := h1
  tape := h2
  output := h3
  size := h4
  block b hb _ := h5 b hb
  shape b C hC := by
    have hlt := hC.lt
    obtain ⟨T, fr, e⟩ := hC
    exact ⟨C, ⟨T, fr, (h5 b hlt).trans e⟩, rfl⟩
  live b hb := by
    obtain ⟨i, x, bs, hi, hx, e⟩ := hb
    rcases get_append_cases hi with ⟨hlt, h⟩ | ⟨rfl, rfl⟩
    · rw [updPl_ne (by omega)] at e
      exact .inl ⟨i, x, bs, h, hx, e⟩
    · rw [updPl_same] at e
      exact .inr (hpl b bs e hx)
  len := Nat.le_refl _
  len' := by simp
  alive i hi ha := by
    obtain ⟨x, h, hx⟩ := ha
    rw [get_append_left hi] at h
    exact ⟨⟨x, h, hx⟩, updPl_ne (by omega)⟩
theorem Sim.addOb {X : Nat → Prop} {w w' : World} {H : List Ob} {ρ : Pl} {o : Ob} {pl : Option (Nat × Nat)} (hs : Sim X w H ρ) (h1 : w'.os = w.os) (h2 : w'.tape = w.tape) (h3 : w'.output = w.output) (h4 : w.heap.size ≤ w'.heap.size)
    (h5 : ∀ b, b < w.heap.size → w'.heap[b]? = w.heap[b]?) (hpl : ∀ b bs, pl = some (b, bs) → o.live = true → w.heap.size ≤ b)
    (hob : ObOk w' X (H ++ [o]) (updPl ρ H.length pl) H.length o) : Sim X w' (H ++ [o]) (updPl ρ H.length pl) := by
  refine hs.step (Evo.addOb h1 h2 h3 h4 h5 hpl) (fun i x hi => ?_) (fun i j x y b bs bs' hi hj hx hy ei ej => ?_)
  · rcases get_append_cases hi with ⟨hlt, h⟩ | ⟨rfl, rfl⟩
    · exact .inl ⟨h, fun b bs e ho => h5 b (hs.live_lt ⟨i, x, bs, h, ho, e⟩)⟩
    · exact .inr hob
  · rcases get_append_cases hi with ⟨hlt, h⟩ | ⟨rfl, rfl⟩ <;> rcases get_append_cases hj with ⟨hlt', h'⟩ | ⟨rfl, rfl⟩
    · rw [updPl_ne (by omega)] at ei ej
      exact hs.inj i j x y b bs bs' h h' hx hy ei ej
    · rw [updPl_ne (by omega)] at ei
      rw [updPl_same] at ej
      have := hs.live_lt ⟨i, x, bs, h, hx, ei⟩
      have := hpl b bs' ej hy
      omega
    · rw [updPl_ne (by omega)] at ej
      rw [updPl_same] at ei
      have := hs.live_lt ⟨j, y, bs', h', hy, ej⟩
      have := hpl b bs ei hx
      omega
    · rfl

/-- A new block with a live object. -/
theorem new_arr {X : Nat → Prop} {w : World} {H : List Ob} {ρ : Pl} (hs : Sim X w H ρ) (C : Array Value) (T : TypeId) (cs : List Pv) (hc : CellsP w (Mut X H ρ) C 0 cs) :
    Evo H.length w H ρ { w with heap := w.heap.push (.cells C T) } (H ++ [.arr cs]) (updPl ρ H.length (some (w.heap.size, 0))) ∧
    Sim X { w with heap := w.heap.push (.cells C T) } (H ++ [.arr cs]) (updPl ρ H.length (some (w.heap.size, 0))) := by
  have he : Evo H.length w H ρ { w with heap := w.heap.push (.cells C T) } (H ++ [.arr cs]) (updPl ρ H.length (some (w.heap.size, 0))) :=
    Evo.addOb rfl rfl rfl (by simp) (fun b hb => push_old w _ b hb) (fun b bs e _ => by simp at e; omega)
  refine ⟨he, hs.addOb rfl rfl rfl (by simp) (fun b hb => push_old w _ b hb) (fun b bs e _ => by simp at e; omega) ?_⟩
  refine .inr ⟨w.heap.size, 0, C, updPl_same .., fun hx => ?_, ⟨T, push_new w _⟩, hc.evo he⟩
  have := hs.xlt _ hx
  omega
theorem new_var {X : Nat → Prop} {w : World} {H : List Ob} {ρ : Pl} (hs : Sim X w H ρ) (C : Array Value) (T : TypeId) (ds : List Dv) (hc : CellsD w (Mut X H ρ) H ρ C 0 ds) :
    Evo H.length w H ρ { w with heap := w.heap.push (.cells C T) } (H ++ [.var ds]) (updPl ρ H.length (some (w.heap.size, 0))) ∧
    Sim X { w with heap := w.heap.push (.cells C T) } (H ++ [.var ds]) (updPl ρ H.length (some (w.heap.size, 0))) := by
  have he : Evo H.length w H ρ { w with heap := w.heap.push (.cells C T) } (H ++ [.var ds]) (updPl ρ H.length (some (w.heap.size, 0))) :=
    Evo.addOb rfl rfl rfl (by simp) (fun b hb => push_old w _ b hb) (fun b bs e _ => by simp at e; omega)
  refine ⟨he, hs.addOb rfl rfl rfl (by simp) (fun b hb => push_old w _ b hb) (fun b bs e _ => by simp at e; omega) ?_⟩
  refine ⟨w.heap.size, 0, C, updPl_same .., fun hx => ?_, ⟨T, push_new w _⟩, hc.evo he⟩
  have := hs.xlt _ hx
  omega
theorem new_empty {X : Nat → Prop} {w : World} {H : List Ob} {ρ : Pl} (hs : Sim X w H ρ) :
    Evo H.length w H ρ w (H ++ [.arr []]) (updPl ρ H.length none) ∧ Sim X w (H ++ [.arr []]) (updPl ρ H.length none) := by
  refine ⟨Evo.addOb rfl rfl rfl (Nat.le_refl _) (fun _ _ => rfl) (fun b bs e _ => by simp at e), hs.addOb rfl rfl rfl (Nat.le_refl _) (fun _ _ => rfl) (fun b bs e _ => by simp at e) ?_⟩
  exact .inl ⟨rfl, updPl_same ..⟩

/-! ### An object changes; the world may change in its block -/
theorem get_set_cases {H : List Ob} {k i : Nat} {o x : Ob} (h : (H.set k o)[i]? = some x) : (i ≠ k ∧ H[i]? = some x) ∨ (i = k ∧ x = o ∧ k < H.length) := by
  by_cases hi : k = i
  · subst hi
    rw [List.getElem?_set_self'] at h
    cases hk : H[k]? with
    | none => rw [hk] at h; cases h
    | some y =>
      rw [hk] at h
      simp at h
      exact .inr ⟨rfl, h.symm, (List.getElem?_eq_some_iff.1 hk).1⟩
  · rw [List.getElem?_set_ne hi] at h
    exact .inl ⟨fun e => hi e.symm, h⟩
/-- The object k becomes o (dead, frozen, or with other cells); the world changes at most in the block of k, which lived. -/
theorem Evo.setOb {w w' : World} {H : List Ob} {ρ : Pl} {k : Nat} {o : Ob} (h1 : w'.os = w.os) (h2 : w'.tape = w.tape) (h3 : w'.output = w.output) (h4 : w'.heap.size = w.heap.size)
    (h5 : ∀ b, ¬ (∃ x bs, H[k]? = some x ∧ x.live = true ∧ ρ k = some (b, bs)) → w'.heap[b]? = w.heap[b]?) (h6 : ∀ b C, Blk w b C → ∃ C', Blk w' b C' ∧ C'.size = C.size)
    (hl : o.live = true → ∃ x, H[k]? = some x ∧ x.live = true) (ha : o.alive = true → Alive H k) : Evo H.length w H ρ w' (H.set k o) ρ where
  os := h1
  tape := h2
  output := h3
  size := by omega
  block b hb hn := h5 b fun ⟨x, bs, hx, hxl, e⟩ => hn ⟨k, x, bs, hx, hxl, e⟩
  shape := h6
  live b hb := by
    obtain ⟨i, x, bs, hi, hx, e⟩ := hb
    rcases get_set_cases hi with ⟨hne, h⟩ | ⟨rfl, rfl, hk⟩
    · exact .inl ⟨i, x, bs, h, hx, e⟩
    · obtain ⟨y, hy, hyl⟩ := hl hx
      exact .inl ⟨i, y, bs, hy, hyl, e⟩
  len := Nat.le_refl _
  len' := by simp
  alive i hi ha' := by
    obtain ⟨x, h, hx⟩ := ha'
    rcases get_set_cases h with ⟨hne, h⟩ | ⟨rfl, rfl, hk⟩
    · exact ⟨⟨x, h, hx⟩, rfl⟩
    · exact ⟨ha hx, rfl⟩
theorem Sim.setOb {X : Nat → Prop} {w w' : World} {H : List Ob} {ρ : Pl} {k : Nat} {o : Ob} (hs : Sim X w H ρ) (h1 : w'.os = w.os) (h2 : w'.tape = w.tape) (h3 : w'.output = w.output) (h4 : w'.heap.size = w.heap.size)
    (h5 : ∀ b, ¬ (∃ x bs, H[k]? = some x ∧ x.live = true ∧ ρ k = some (b, bs)) → w'.heap[b]? = w.heap[b]?) (h6 : ∀ b C, Blk w b C → ∃ C', Blk w' b C' ∧ C'.size = C.size)
    (hl : o.live = true → ∃ x, H[k]? = some x ∧ x.live = true) (ha : o.alive = true → Alive H k) (hob : k < H.length → ObOk w' X (H.set k o) ρ k o) : Sim X w' (H.set k o) ρ := by
  refine hs.step (Evo.setOb h1 h2 h3 h4 h5 h6 hl ha) (fun i x hi => ?_) (fun i j x y b bs bs' hi hj hx hy ei ej => ?_)
  · rcases get_set_cases hi with ⟨hne, h⟩ | ⟨rfl, rfl, hk⟩
    · refine .inl ⟨h, fun b bs e ho => h5 b fun ⟨y, bs', hy, hyl, e'⟩ => hne ?_⟩
      exact hs.inj i k x y b bs bs' h hy ho hyl e e'
    · exact .inr (hob hk)
  · rcases get_set_cases hi with ⟨hne, h⟩ | ⟨rfl, rfl, hk⟩ <;> rcases get_set_cases hj with ⟨hne', h'⟩ | ⟨rfl, rfl, hk'⟩
    · exact hs.inj i j x y b bs bs' h h' hx hy ei ej
    · obtain ⟨z, hz, hzl⟩ := hl hy
      exact hs.inj i j x z b bs bs' h hz hx hzl ei ej
    · obtain ⟨z, hz, hzl⟩ := hl hx
      exact hs.inj i j z y b bs bs' hz h' hzl hy ei ej
    · rfl

/-- An object dies. -/
theorem kill_ob {X : Nat → Prop} {w : World} {H : List Ob} {ρ : Pl} (hs : Sim X w H ρ) (k : Nat) : Evo H.length w H ρ w (H.set k .dead) ρ ∧ Sim X w (H.set k .dead) ρ :=
  ⟨Evo.setOb rfl rfl rfl rfl (fun _ _ => rfl) (fun b C h => ⟨C, h, rfl⟩) (fun h => by cases h) (fun h => by cases h),
   hs.setOb rfl rfl rfl rfl (fun _ _ => rfl) (fun b C h => ⟨C, h, rfl⟩) (fun h => by cases h) (fun h => by cases h) (fun _ => trivial)⟩
/-- An array is frozen. -/
theorem freeze_arr {X : Nat → Prop} {w : World} {H : List Ob} {ρ : Pl} (hs : Sim X w H ρ) (k : Nat) (cs : List Pv) (hk : H[k]? = some (.arr cs)) : Evo H.length w H ρ w (H.set k (.frz cs)) ρ ∧ Sim X w (H.set k (.frz cs)) ρ := by
  have he : Evo H.length w H ρ w (H.set k (.frz cs)) ρ := Evo.setOb rfl rfl rfl rfl (fun _ _ => rfl) (fun b C h => ⟨C, h, rfl⟩) (fun h => by cases h) (fun _ => ⟨_, hk, rfl⟩)
  refine ⟨he, hs.setOb rfl rfl rfl rfl (fun _ _ => rfl) (fun b C h => ⟨C, h, rfl⟩) (fun h => by cases h) (fun _ => ⟨_, hk, rfl⟩) (fun hlt => ?_)⟩
  rcases hs.obs k _ hk with ⟨h0, e⟩ | ⟨b, bs, C, e, hx, hC, hcs⟩
  · exact .inl ⟨h0, e⟩
  · refine .inr ⟨b, bs, C, e, fun hm => ?_, hC.blk, hcs.evo he⟩
    rcases hm with hm | ⟨i, x, bs', hi, hxl, e'⟩
    · exact hx hm
    · rcases get_set_cases hi with ⟨hne, h⟩ | ⟨rfl, rfl, _⟩
      · exact hne (hs.inj i k x _ b bs' bs h hk hxl rfl e' e)
      · cases hxl
theorem allP_spec : ∀ {ds : List Dv} {cs : List Pv}, allP ds = some cs → ds = cs.map .p
  | [], cs, h => by simp [allP] at h; subst h; rfl
  | .p x :: ds, cs, h => by
    simp only [allP, Option.map_eq_some_iff] at h
    obtain ⟨xs, h1, rfl⟩ := h
    rw [allP_spec h1]; rfl
  | .junk :: _, _, h => by simp [allP] at h
  | .ref .. :: _, _, h => by simp [allP] at h
  | .ptr .. :: _, _, h => by simp [allP] at h
  | .agg .. :: _, _, h => by simp [allP] at h
  | .tup .. :: _, _, h => by simp [allP] at h
  | .fn .. :: _, _, h => by simp [allP] at h
theorem RepD.toP {w : World} {M : Nat → Prop} {H : List Ob} {ρ : Pl} {x : Value} {y : Pv} (h : RepD w M H ρ x (.p y)) : RepP w M x y := by
  cases h with
  | p x y h => exact h
theorem CellsD.pure {w : World} {M : Nat → Prop} {H : List Ob} {ρ : Pl} {C : Array Value} {bs : Nat} {cs : List Pv} (h : CellsD w M H ρ C bs (cs.map .p)) : CellsP w M C bs cs := by
  obtain ⟨h1, h2⟩ := h
  refine ⟨by simpa using h1, fun j hj => ?_⟩
  have := h2 j (by simpa using hj)
  refine ⟨this.1, ?_⟩
  have h3 := this.2
  simp only [List.getElem_map] at h3
  exact h3.toP
theorem CellsP.dyn {w : World} {M : Nat → Prop} {H : List Ob} {ρ : Pl} {C : Array Value} {bs : Nat} {cs : List Pv} (h : CellsP w M C bs cs) : CellsD w M H ρ C bs (cs.map .p) := by
  obtain ⟨h1, h2⟩ := h
  refine ⟨by simpa using h1, fun j hj => ?_⟩
  have := h2 j (by simpa using hj)
  exact ⟨this.1, by simp only [List.getElem_map]; exact .p _ _ this.2⟩
theorem freeze_var {X : Nat → Prop} {w : World} {H : List Ob} {ρ : Pl} (hs : Sim X w H ρ) (k : Nat) (cs : List Pv) (hk : H[k]? = some (.var (cs.map .p))) : Evo H.length w H ρ w (H.set k (.frz cs)) ρ ∧ Sim X w (H.set k (.frz cs)) ρ := by
  have he : Evo H.length w H ρ w (H.set k (.frz cs)) ρ := Evo.setOb rfl rfl rfl rfl (fun _ _ => rfl) (fun b C h => ⟨C, h, rfl⟩) (fun h => by cases h) (fun _ => ⟨_, hk, rfl⟩)
  refine ⟨he, hs.setOb rfl rfl rfl rfl (fun _ _ => rfl) (fun b C h => ⟨C, h, rfl⟩) (fun h => by cases h) (fun _ => ⟨_, hk, rfl⟩) (fun hlt => ?_)⟩
  obtain ⟨b, bs, C, e, hx, hC, hcs⟩ := hs.obs k _ hk
  refine .inr ⟨b, bs, C, e, fun hm => ?_, hC.blk, hcs.pure.evo he⟩
  rcases hm with hm | ⟨i, x, bs', hi, hxl, e'⟩
  · exact hx hm
  · rcases get_set_cases hi with ⟨hne, h⟩ | ⟨rfl, rfl, _⟩
    · exact hne (hs.inj i k x _ b bs' bs h hk hxl rfl e' e)
    · cases hxl
theorem freeze_one {X : Nat → Prop} {w : World} {H : List Ob} {ρ : Pl} (hs : Sim X w H ρ) (k : Nat) {o : Ob} (hk : H[k]? = some o) : Evo H.length w H ρ w (H.set k (frzOb o)) ρ ∧ Sim X w (H.set k (frzOb o)) ρ := by
  have same : ∀ {x : Ob}, H[k]? = some x → H.set k x = H := by
    intro x hx
    apply List.ext_getElem?
    intro i
    by_cases hi : k = i
    · subst hi; rw [List.getElem?_set_self', hx]; rfl
    · rw [List.getElem?_set_ne hi]
  cases o with
  | arr cs => exact freeze_arr hs k cs hk
  | var ds =>
    simp only [frzOb]
    cases h : allP ds with
    | none => exact kill_ob hs k
    | some cs => rw [allP_spec h] at hk; exact freeze_var hs k cs hk
  | dead => simp only [frzOb]; rw [same hk]; exact ⟨Evo.refl .., hs⟩
  | frz cs => simp only [frzOb]; rw [same hk]; exact ⟨Evo.refl .., hs⟩
  | ro ds => simp only [frzOb]; rw [same hk]; exact ⟨Evo.refl .., hs⟩
  | roa cs => simp only [frzOb]; rw [same hk]; exact ⟨Evo.refl .., hs⟩
theorem freezeAll_length (H : List Ob) (l : List Nat) : (freezeAll H l).length = H.length := by
  induction l generalizing H with
  | nil => rfl
  | cons i l ih =>
    simp only [freezeAll]
    rw [ih]
    unfold frzAt
    split <;> simp
theorem freeze_all {X : Nat → Prop} {w : World} {ρ : Pl} : ∀ (l : List Nat) {H : List Ob}, Sim X w H ρ → Evo H.length w H ρ w (freezeAll H l) ρ ∧ Sim X w (freezeAll H l) ρ
  | [], H, hs => ⟨Evo.refl .., hs⟩
  | i :: l, H, hs => by
    simp only [freezeAll, frzAt]
    cases hi : H[i]? with
    | none => exact freeze_all l hs
    | some o =>
      simp only []
      obtain ⟨h1, h2⟩ := freeze_one hs i hi
      obtain ⟨h3, h4⟩ := freeze_all l h2
      refine ⟨h1.trans ?_, h4⟩
      rw [List.length_set] at h3
      exact h3
end Go.Ev
