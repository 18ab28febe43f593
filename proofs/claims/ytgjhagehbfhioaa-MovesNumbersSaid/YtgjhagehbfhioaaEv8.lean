/- alloc, box, build, buildSlice, store, makeSlice. -/
import Derived.Test.YtgjhagehbfhioaaEv7
set_option linter.unusedVariables false
set_option linter.unusedSimpArgs false
namespace Go.Ev
section
variable {P : Program} {X M : Nat → Prop} {w : World} {H : List Ob} {ρ : Pl}

theorem ptr_new {w' : World} {ob : Ob} {b bs : Nat} : RepD w' (Mut X (H ++ [ob]) (updPl ρ H.length (some (b, bs)))) (H ++ [ob]) (updPl ρ H.length (some (b, bs))) (.pointer (some ⟨b, bs, none⟩)) (.ptr H.length 0) :=
  .ptr H.length 0 _ (by simp) (fun _ => ⟨b, bs, updPl_same .., rfl⟩)
theorem zeroCs_run {t : TypeId} {cs : List Pv} (h : zeroCs P t = some cs) (w : World) : ∃ z, (zeroValue t).run P w = .ok z w ∧ ∀ M H ρ, COk w M H ρ z.cells (cs.map .p) := by
  unfold zeroCs at h
  simp only [Option.bind_eq_some_iff] at h
  obtain ⟨y, h1, h2⟩ := h
  obtain ⟨z, h3, rfl⟩ := zeroP_run h1 w
  exact ⟨z, h3, fun M H ρ => cellsP_ok (ofVal_ok z) h2⟩
theorem alloc_ok (hs : Sim X w H ρ) {e : TypeId} {cs : List Pv} (h : zeroCs P e = some cs) :
    ∃ v w' ρ', (Instr.alloc e true (.tuple #[])).run P w = .ok v w' ∧ Fin X w H ρ w' (H ++ [.var (cs.map .p)]) ρ' v (.ptr H.length 0) := by
  obtain ⟨z, hz, hc⟩ := zeroCs_run h w
  obtain ⟨he, hs'⟩ := new_var hs z.cells e (cs.map .p) (hc _ _ _).cellsD
  exact ⟨_, _, _, by simp only [Instr.alloc, Sem.run_bind, hz, Result.andThen_ok, newVar, newRow, run_newObj, Sem.run_pure], he, hs', ptr_new⟩
theorem box_ok (hs : Sim X w H ρ) {e : TypeId} {v : Value} {d : Dv} (hv : RepD w (Mut X H ρ) H ρ v d) {ds : List Dv} (h : cellsD d = some ds) :
    ∃ r w' ρ', (Instr.box e v).run P w = .ok r w' ∧ Fin X w H ρ w' (H ++ [.var ds]) ρ' r (.ptr H.length 0) := by
  obtain ⟨he, hs'⟩ := new_var hs v.cells e ds (cellsD_ok hv h).cellsD
  exact ⟨_, _, _, by simp only [Instr.box, Sem.run_bind, newVar, newRow, run_newObj, Result.andThen_ok, Sem.run_pure], he, hs', ptr_new⟩

/-! ### Filling -/
theorem COk.set {vs : Array Value} {ds : List Dv} (h : COk w M H ρ vs ds) {v : Value} {d : Dv} (h1 : v.oneCell' = true) (hv : RepD w M H ρ v d) (k : Nat) : COk w M H ρ (vs.setIfInBounds k v) (ds.set k d) := by
  refine ⟨by simp [h.1], fun j hj => ?_⟩
  simp only [List.length_set] at hj
  have hj' : j < vs.size := by rw [h.1]; exact hj
  by_cases hk : k = j
  · subst hk
    have e1 : (vs.setIfInBounds k v).getD k undef = v := by simp [hj']
    rw [e1]
    simpa using ⟨h1, hv⟩
  · have e1 : (vs.setIfInBounds k v).getD j undef = vs.getD j undef := by simp [hj', Array.getElem_setIfInBounds, hk]
    have e2 : (ds.set k d)[j]'(by simpa using hj) = ds[j] := by simp [List.getElem_set, hk]
    rw [e1, e2]; exact h.2 j hj
theorem fill_set : ∀ (l : List Value) (es : List Dv) (k off : Nat) (cells : Array Value) (ds : List Dv), COk w M H ρ cells ds → l.length = es.length →
    (∀ j (h1 : j < l.length) (h2 : j < es.length), l[j].oneCell' = true ∧ RepD w M H ρ l[j] es[j]) →
    COk w M H ρ ((l.zipIdx k).foldl (fun cs (c, j) => cs.setIfInBounds (off + j) c) cells) (setAt ds (off + k) es)
  | [], [], k, off, cells, ds, h, _, _ => h
  | v :: l, d :: es, k, off, cells, ds, h, hl, hv => by
    simp only [List.zipIdx_cons, List.foldl_cons, setAt]
    have h0 := hv 0 (by simp) (by simp)
    have := fill_set l es (k + 1) off _ _ (h.set h0.1 h0.2 (off + k)) (by simpa using hl) (fun j h1 h2 => hv (j + 1) (by simpa using h1) (by simpa using h2))
    rwa [show off + (k + 1) = off + k + 1 from by omega] at this
  | [], _ :: _, _, _, _, _, _, hl, _ => by simp at hl
  | _ :: _, [], _, _, _, _, _, hl, _ => by simp at hl
theorem fill_one {cells vs : Array Value} {ds es : List Dv} (h : COk w M H ρ cells ds) (hv : COk w M H ρ vs es) (off : Nat) :
    COk w M H ρ (vs.zipIdx.foldl (fun cs (c, j) => cs.setIfInBounds (off + j) c) cells) (setAt ds off es) := by
  rw [← Array.foldl_toList]
  have := fill_set vs.toList es 0 off cells ds h (by simpa using hv.1) (fun j h1 h2 => by
    have := hv.2 j h2
    have e : vs.getD j undef = vs.toList[j] := by simp at h1; simp [h1]
    rw [e] at this
    exact this)
  simpa using this
theorem fill_ok {place : Nat → Option (Nat × Nat)} {parts : List (Nat × Value)} : ∀ {dparts : List (Nat × Dv)} {cells : Array Value} {ds rs : List Dv},
    parts.length = dparts.length → (∀ j (h1 : j < parts.length) (h2 : j < dparts.length), (parts[j]).1 = (dparts[j]).1 ∧ RepD w M H ρ (parts[j]).2 (dparts[j]).2) →
    COk w M H ρ cells ds → fillD place ds dparts = some rs → ∃ cells', Instr.fill place cells parts = some cells' ∧ COk w M H ρ cells' rs := by
  induction parts with
  | nil =>
    intro dparts cells ds rs hl hp h hf
    cases dparts with
    | nil => simp only [fillD, Option.some.injEq] at hf; subst hf; exact ⟨cells, rfl, h⟩
    | cons => simp at hl
  | cons p parts ih =>
    intro dparts cells ds rs hl hp h hf
    cases dparts with
    | nil => simp at hl
    | cons q dparts =>
      obtain ⟨i, v⟩ := p
      obtain ⟨i', d⟩ := q
      have h0 := hp 0 (by simp) (by simp)
      simp only [List.getElem_cons_zero] at h0
      obtain ⟨rfl, hv⟩ := h0
      simp only [fillD] at hf
      split at hf
      · rename_i off size es hpl hes
        split at hf
        · rename_i hc
          have hcv := cellsD_ok hv hes
          have hcond : ¬ (v.cells.size ≠ size || off + v.cells.size > cells.size) = true := by
            rw [hcv.1, h.1]
            simp only [ne_eq, Bool.or_eq_true, decide_eq_true_eq, not_or, Decidable.not_not]
            exact ⟨hc.1, by omega⟩
          obtain ⟨cells', h1, h2⟩ := ih (by simpa using hl) (fun j h1 h2 => hp (j + 1) (by simpa using h1) (by simpa using h2)) (fill_one h hcv off) hf
          refine ⟨cells', ?_, h2⟩
          simp only [Instr.fill, hpl]
          rw [if_neg hcond]
          exact h1
        · cases hf
      · cases hf
theorem mapM_fields {fs : List Field} : ∀ {l : List (Nat × Nat)}, placesL P fs = some l → (fs.mapM (m := Sem) fun f => do pure (f.offset, ← sizeOf f.type)).run P w = .ok l w := by
  induction fs with
  | nil => intro l h; simp only [placesL, Option.some.injEq] at h; subst h; rfl
  | cons f fs ih =>
    intro l h
    simp only [placesL] at h
    split at h
    · rename_i n l' hn hl
      simp only [Option.some.injEq] at h
      subst h
      have := ih hl
      simp only [List.mapM_cons, Sem.run_bind, szOf_run hn, Result.andThen_ok, Sem.run_pure, this]
    · cases h
theorem build_ok {t : TypeId} {pl : Nat → Option (Nat × Nat)} {z : List Pv} {rs : List Dv} {parts : Array (Nat × Value)} {dparts : List (Nat × Dv)} (hpl : places P t = some pl) (hz : zeroCs P t = some z)
    (hl : parts.size = dparts.length) (hp : ∀ j (h1 : j < parts.size) (h2 : j < dparts.length), (parts[j]).1 = (dparts[j]).1 ∧ RepD w M H ρ (parts[j]).2 (dparts[j]).2)
    (hf : fillD pl (z.map .p) dparts = some rs) : ∃ v, (Instr.build t parts).run P w = .ok v w ∧ RepD w M H ρ v (mkAgg rs) := by
  obtain ⟨zv, hzv, hc⟩ := zeroCs_run hz w
  unfold places at hpl
  split at hpl
  · rename_i fs hu
    simp only [Option.map_eq_some_iff] at hpl
    obtain ⟨l, h1, rfl⟩ := hpl
    obtain ⟨cells', h2, h3⟩ := fill_ok (place := fun i => l[i]?) (parts := parts.toList) (by simpa using hl) (fun j h1 h2 => by simpa using hp j (by simpa using h1) h2) (hc M H ρ) hf
    refine ⟨.agg cells', ?_, RepD.mkAgg h3⟩
    have hm := mapM_fields (w := w) h1
    have h2' : Instr.fill (fun i => l.toArray[i]?) zv.cells parts.toList = some cells' := by simpa using h2
    simp only [Instr.build, Sem.run_bind, hzv, Result.andThen_ok, und_run hu]
    rw [Array.mapM_eq_mapM_toList]
    simp only [Sem.run_map, hm, Result.andThen_ok, h2', Sem.run_pure]
  · rename_i n e hu
    simp only [Option.map_eq_some_iff] at hpl
    obtain ⟨sz, h1, rfl⟩ := hpl
    obtain ⟨cells', h2, h3⟩ := fill_ok (place := fun i => some (i * sz, sz)) (parts := parts.toList) (by simpa using hl) (fun j h1 h2 => by simpa using hp j (by simpa using h1) h2) (hc M H ρ) hf
    refine ⟨.agg cells', ?_, RepD.mkAgg h3⟩
    simp only [Instr.build, Sem.run_bind, hzv, Result.andThen_ok, und_run hu, szOf_run h1, h2, Sem.run_pure]
  · cases hpl

/-! ### Repeated zeros -/
theorem repl_length {α : Type} (z : List α) : ∀ n, (repl n z).length = n * z.length
  | 0 => by simp [repl]
  | n + 1 => by rw [repl, List.length_append, repl_length z n, Nat.succ_mul, Nat.add_comm]
theorem repl_get {α : Type} (z : List α) : ∀ n j (h : j < (repl n z).length), ∃ h' : j % z.length < z.length, (repl n z)[j] = z[j % z.length]
  | 0, j, h => by simp [repl] at h
  | n + 1, j, h => by
    by_cases hj : j < z.length
    · refine ⟨Nat.mod_lt _ (by omega), ?_⟩
      simp only [repl]
      rw [List.getElem_append_left hj]
      simp [Nat.mod_eq_of_lt hj]
    · have hlen := repl_length z (n + 1)
      have hlen' := repl_length z n
      have h2 : j - z.length < (repl n z).length := by rw [Nat.succ_mul] at hlen; omega
      obtain ⟨h3, h4⟩ := repl_get z n (j - z.length) h2
      have hpos : 0 < z.length := by
        rcases Nat.eq_zero_or_pos z.length with h5 | h5
        · rw [hlen', h5] at h2; simp at h2
        · exact h5
      have e : (j - z.length) % z.length = j % z.length := by
        conv => rhs; rw [show j = (j - z.length) + z.length from by omega, Nat.add_mod_right]
      refine ⟨Nat.mod_lt _ hpos, ?_⟩
      simp only [repl]
      rw [List.getElem_append_right (by omega), h4]
      simp [e]
/-- A row of zeros, as the model makes it. -/
theorem zeros_cok {z : Array Value} {zs : List Pv} (hz : COk w M H ρ z (zs.map .p)) (hpos : 0 < zs.length) (n : Nat) :
    COk w M H ρ ((Array.range (n * zs.length)).map (fun i => z[i % z.size]!)) ((repl n zs).map .p) := by
  have hzl : z.size = zs.length := by simpa using hz.1
  refine ⟨by simp [repl_length], fun j hj => ?_⟩
  simp only [List.length_map] at hj
  obtain ⟨h1, h2⟩ := repl_get zs n j hj
  rw [repl_length] at hj
  have h3 := hz.2 (j % zs.length) (by simpa using h1)
  have e : ((Array.range (n * zs.length)).map (fun i => z[i % z.size]!)).getD j undef = z.getD (j % zs.length) undef := by
    have h4 : j % zs.length < z.size := by omega
    have h5 : z[j % zs.length]! = z[j % zs.length]'h4 := getElem!_pos z _ h4
    simp [hj, hzl, h4, h5]
    rw [Array.getElem?_eq_getElem h4]; rfl
  rw [e]
  simp only [List.getElem_map] at h3 ⊢
  rw [h2]
  exact h3

/-! ### A slice that is written out -/
theorem rep_new {C : Array Value} {T : TypeId} {cs : List Pv} {n : Nat} (hs : Sim X w H ρ) (hl : C.size = cs.length) (hc : ∀ j (h : j < cs.length), (C.getD j undef).oneCell' = true ∧ RepP w (Mut X H ρ) (C.getD j undef) cs[j]) :
    RepP { w with heap := w.heap.push (.cells C T) } (Mut X H ρ) (.slice (some ⟨w.heap.size, 0, none⟩) n n) (.lst true n cs) := by
  have he := Evo.push w (.cells C T) H ρ
  refine .lst true n cs _ n (fun j => C.getD j undef) (Nat.le_refl _) (fun _ => rfl) (fun hne => ⟨w.heap.size, 0, rfl, fun hm => ?_, fun j hj => ?_⟩) (fun j hj => (hc j hj).1) (fun j hj => (hc j hj).2.evo he)
  · have := hs.mut_lt hm
    omega
  · have hb : Blk { w with heap := w.heap.push (.cells C T) } w.heap.size C := ⟨T, (0, 0), push_new w _⟩
    rw [hb.cell, Nat.zero_add]
    exact getD_some (by omega)
theorem buildSlice_ok (hs : Sim X w H ρ) {t e : TypeId} {len sz : Nat} {z : List Pv} {ds : List Dv} {cs : List Pv} {l : List Nat} {parts : Array (Nat × Value)} {dparts : List (Nat × Dv)}
    (hu : P.underlying t = some (.slice e)) (hsz : szOf P e = some sz) (hz : zeroCs P e = some z) (h0 : sz ≠ 0) (hzl : z.length = sz) (hbig : ¬ len * sz > 2 ^ 24)
    (hl : parts.size = dparts.length) (hp : ∀ j (h1 : j < parts.size) (h2 : j < dparts.length), (parts[j]).1 = (dparts[j]).1 ∧ RepD w (Mut X H ρ) H ρ (parts[j]).2 (dparts[j]).2)
    (hf : fillD (fun i => some (i * sz, sz)) ((repl len z).map .p) dparts = some ds) (hpu : purifys H ds = some (cs, l)) :
    ∃ v w', (Instr.buildSlice t len parts).run P w = .ok v w' ∧ Fin X w H ρ w' (freezeAll H l) ρ v (.p (.lst true len cs)) := by
  obtain ⟨zv, hzv, hc⟩ := zeroCs_run hz w
  have hz1 := hc (Mut X H ρ) H ρ
  have hzv' : zv.cells.size = z.length := by simpa using hz1.1
  have hrow := zeros_cok hz1 (by omega) len
  rw [hzl] at hrow
  obtain ⟨cells', h2, h3⟩ := fill_ok (place := fun i => some (i * sz, sz)) (parts := parts.toList) (by simpa using hl) (fun j h1 h2 => by simpa using hp j (by simpa using h1) h2)
    (cells := if len * sz = 0 then #[] else (Array.range (len * sz)).map (fun i => zv.cells[i % zv.cells.size]!)) (ds := (repl len z).map .p) (by
      split
      · rename_i h5
        rw [h5] at hrow
        have : ((repl len z).map Dv.p).length = 0 := by rw [List.length_map, repl_length, hzl]; exact h5
        have h6 : (repl len z).map Dv.p = [] := List.eq_nil_of_length_eq_zero this
        rw [h6]
        exact ⟨rfl, fun j hj => absurd hj (by simp)⟩
      · exact hrow) hf
  have h4 := purifys_ok hs (vs := cells') hpu l (fun i hi => hi)
  obtain ⟨he, hs'⟩ := freeze_all l hs
  have hrep := rep_new (C := cells') (T := e) (n := len) hs' (by rw [h3.1, h4.1]) (fun j hj => by
    have hj' : j < ds.length := by rw [← h4.1]; exact hj
    exact ⟨(h3.2 j hj').1, h4.2 j hj hj' _ (h3.2 j hj').2⟩)
  have hE := Evo.push w (.cells cells' e) (freezeAll H l) ρ
  rw [freezeAll_length] at hE
  refine ⟨_, _, ?_, he.trans hE, hs'.push (.cells cells' e), .p _ _ hrep⟩
  simp only [Instr.buildSlice, Sem.run_bind, und_run hu, Result.andThen_ok, szOf_run hsz]
  rw [if_neg hbig]
  by_cases h5 : len * sz = 0
  · rw [if_pos h5]
    rw [if_pos h5] at h2
    have h2' : Instr.fill (fun i => some (i * sz, sz)) ((Array.range (len * sz)).map (fun i => (#[] : Array Value)[i % (#[] : Array Value).size]!)) parts.toList = some cells' := by
      rw [h5, show ((Array.range 0).map (fun i => (#[] : Array Value)[i % (#[] : Array Value).size]!)) = #[] from by simp]; exact h2
    simp only [Sem.run_pure, Result.andThen_ok, h2', newRow, Sem.run_bind, run_newObj]
  · rw [if_neg h5]
    rw [if_neg h5] at h2
    simp only [Sem.run_bind, hzv, Result.andThen_ok, Sem.run_pure, h2, newRow, run_newObj]

/-! ### Stores -/
theorem storeVar_run {t : TypeId} {n b o : Nat} {C : Array Value} {T : TypeId} {v : Value} (hn : szOf P t = some n) (hC : w.heap[b]? = some (.cells C T (0, 0))) (hv : v.cells.size = n) (hf : o + v.cells.size ≤ C.size)
    (h1 : ∀ j, j < v.cells.size → (v.cells.getD j undef).oneCell' = true) :
    (Instr.storeAt t (.pointer (some ⟨b, o, none⟩)) v).run P w = .ok () (w.setRow b (rowOf C o v.cells)) := by
  simp only [Instr.storeAt, Instr.sureAddr, storeVar, Sem.run_bind, Sem.run_pure, Result.andThen_ok, szOf_run hn, hv, ne_eq, not_true, if_false]
  exact storeCells_run hC hf h1
theorem store_ok (hs : Sim X w H ρ) {t : TypeId} {av v : Value} {a d : Dv} (ha : RepD w (Mut X H ρ) H ρ av a) (hv : RepD w (Mut X H ρ) H ρ v d) {H' : List Ob} (h : storeD P H t a d = some H') :
    ∃ w', (Instr.storeAt t av v).run P w = .ok () w' ∧ Evo H.length w H ρ w' H' ρ ∧ Sim X w' H' ρ := by
  unfold storeD at h
  split at h
  · rename_i id off n hn
    split at h
    · rename_i cs ds hid hds
      split at h
      · rename_i hc
        simp only [Option.some.injEq] at h
        subst h
        have hcv := cellsD_ok hv hds
        obtain ⟨b, bs, C, e, hx, hC, hcs⟩ := hs.obs id _ hid
        cases ha with
        | ptr _ _ a' hlt hal =>
          obtain ⟨b', bs', e1, rfl⟩ := hal ⟨_, hid, rfl⟩
          rw [e] at e1
          simp only [Option.some.injEq, Prod.mk.injEq] at e1
          obtain ⟨rfl, rfl⟩ := e1
          have hf : bs + off + v.cells.size ≤ C.size := by have := hcs.1; have := hcv.1; omega
          have hC2 := hC
          obtain ⟨T, hT⟩ := hC2
          refine ⟨_, storeVar_run hn hT (by rw [hcv.1]; exact hc.1) hf (fun j hj => (hcv.2 j (by rw [← hcv.1]; exact hj)).1), ?_⟩
          exact write_ob hs hid rfl rfl e hx hC hf (fun he hO => ⟨b, bs, _, e, hx, hO, (hcs.write hcv (by omega)).evo he⟩)
      · cases h
    · rename_i cs ds hid hds
      split at h
      · rename_i xs l hpu
        split at h
        · rename_i hc
          simp only [Option.some.injEq] at h
          subst h
          have hcv := cellsD_ok hv hds
          have h4 := purifys_ok hs (vs := v.cells) hpu l (fun i hi => hi)
          obtain ⟨he0, hs0⟩ := freeze_all l hs
          have hid0 : (freezeAll H l)[id]? = some (.arr cs) := by
            have : ∀ (l : List Nat) (H : List Ob), ¬ id ∈ l → (freezeAll H l)[id]? = H[id]? := by
              intro l
              induction l with
              | nil => intro H _; rfl
              | cons i l ih =>
                intro H hn
                simp only [freezeAll]
                rw [ih _ (fun h => hn (by simp [h]))]
                unfold frzAt
                split
                · rw [List.getElem?_set_ne (by intro h; exact hn (by simp [h]))]
                · rfl
            rw [this l H hc.2.2]; exact hid
          rcases hs0.obs id _ hid0 with ⟨h6, e⟩ | ⟨b, bs, C, e, hx, hC, hcs⟩
          · subst h6
            -- nothing to store into
            have hn0 : n = 0 := by have := hc.2.1; simp at this; omega
            have hxs : xs = [] := List.eq_nil_of_length_eq_zero (by omega)
            have hv0 : v.cells.size = 0 := by rw [hcv.1, ← h4.1, hxs]; rfl
            cases ha with
            | ptr _ _ a' hlt hal =>
              obtain ⟨b', bs', e1, _⟩ := hal ⟨_, hid, rfl⟩
              rw [e] at e1; cases e1
          · cases ha with
            | ptr _ _ a' hlt hal =>
              obtain ⟨b', bs', e1, rfl⟩ := hal ⟨_, hid, rfl⟩
              rw [e] at e1
              simp only [Option.some.injEq, Prod.mk.injEq] at e1
              obtain ⟨rfl, rfl⟩ := e1
              have hxd : xs.length = ds.length := h4.1
              have hf : bs + off + v.cells.size ≤ C.size := by have := hcs.1; have := hcv.1; omega
              have hC2 := hC
              obtain ⟨T, hT⟩ := hC2
              have hcv' : COk w (Mut X (freezeAll H l) ρ) (freezeAll H l) ρ v.cells (xs.map .p) := by
                refine ⟨by rw [hcv.1, List.length_map, hxd], fun j hj => ?_⟩
                simp only [List.length_map] at hj
                have h7 := hcv.2 j (by omega)
                refine ⟨h7.1, ?_⟩
                simp only [List.getElem_map]
                exact .p _ _ (h4.2 j hj (by omega) _ h7.2)
              refine ⟨_, storeVar_run hn hT (by rw [hcv.1]; omega) hf (fun j hj => (hcv.2 j (by rw [← hcv.1]; exact hj)).1), ?_⟩
              have h8 := write_ob hs0 hid0 (o' := .arr (setAt cs off xs)) rfl rfl e hx hC hf (fun he hO => .inr ⟨b, bs, _, e, hx, hO, (hcs.write hcv' (by omega)).evo he⟩)
              rw [freezeAll_length] at h8
              exact ⟨he0.trans h8.1, h8.2⟩
        · cases h
      · cases h
    · cases h
  · cases h
end
end Go.Ev
