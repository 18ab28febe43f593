/- append and copy, as operations on heaps. -/
import Derived.Test.YtgjhagehbfhioaaEv10
set_option linter.unusedVariables false
set_option linter.unusedSimpArgs false
namespace Go.Ev
section
variable {P : Program} {X M : Nat → Prop} {w : World} {H : List Ob} {ρ : Pl}

theorem COk.append {vs1 vs2 : Array Value} {ds1 ds2 : List Dv} (h1 : COk w M H ρ vs1 ds1) (h2 : COk w M H ρ vs2 ds2) : COk w M H ρ (vs1 ++ vs2) (ds1 ++ ds2) := by
  refine ⟨by simp [h1.1, h2.1], fun j hj => ?_⟩
  simp only [List.length_append] at hj
  by_cases hj1 : j < ds1.length
  · have e : (vs1 ++ vs2).getD j undef = vs1.getD j undef := by
      rw [Array.getD_eq_getD_getElem?, Array.getD_eq_getD_getElem?, Array.getElem?_append_left (by rw [h1.1]; exact hj1)]
    rw [e, List.getElem_append_left hj1]
    exact h1.2 j hj1
  · have e : (vs1 ++ vs2).getD j undef = vs2.getD (j - ds1.length) undef := by
      rw [Array.getD_eq_getD_getElem?, Array.getD_eq_getD_getElem?, Array.getElem?_append_right (by rw [h1.1]; omega), h1.1]
    rw [e, List.getElem_append_right (by omega)]
    exact h2.2 (j - ds1.length) (by omega)
theorem COk.evo {w' : World} {H' : List Ob} {ρ' : Pl} (he : Evo H.length w H ρ w' H' ρ') {vs : Array Value} {ds : List Dv} (h : COk w (Mut X H ρ) H ρ vs ds) : COk w' (Mut X H' ρ') H' ρ' vs ds :=
  ⟨h.1, fun j hj => ⟨(h.2 j hj).1, (h.2 j hj).2.evo he⟩⟩
theorem COk.cellsP {vs rest : Array Value} {cs : List Pv} (h : COk w M H ρ vs (cs.map .p)) : CellsP w M (vs ++ rest) 0 cs := by
  refine CellsD.pure (H := H) (ρ := ρ) ⟨by simp [h.1], fun j hj => ?_⟩
  have e : (vs ++ rest).getD (0 + j) undef = vs.getD j undef := by
    rw [Nat.zero_add, Array.getD_eq_getD_getElem?, Array.getD_eq_getD_getElem?, Array.getElem?_append_left (by rw [h.1]; exact hj)]
  rw [e]
  exact h.2 j hj

/-- An object dies, and another one takes its block; the world may change in that block. -/
theorem move_ob {k : Nat} {o o' : Ob} {b bs bs' : Nat} {w' : World} (hs : Sim X w H ρ) (hk : H[k]? = some o) (hol : o.live = true) (e : ρ k = some (b, bs))
    (h1 : w'.os = w.os) (h2 : w'.tape = w.tape) (h3 : w'.output = w.output) (h4 : w'.heap.size = w.heap.size) (h5 : ∀ b', b' ≠ b → w'.heap[b']? = w.heap[b']?) (h6 : ∀ b C, Blk w b C → ∃ C', Blk w' b C' ∧ C'.size = C.size)
    (hob : Evo H.length w H ρ w' (H.set k .dead ++ [o']) (updPl ρ H.length (some (b, bs'))) → ObOk w' X (H.set k .dead ++ [o']) (updPl ρ H.length (some (b, bs'))) H.length o') :
    Evo H.length w H ρ w' (H.set k .dead ++ [o']) (updPl ρ H.length (some (b, bs'))) ∧ Sim X w' (H.set k .dead ++ [o']) (updPl ρ H.length (some (b, bs'))) := by
  have hlive : Live H ρ b := ⟨k, o, bs, hk, hol, e⟩
  have hcase : ∀ {i : Nat} {x : Ob}, (H.set k .dead ++ [o'])[i]? = some x → (i < H.length ∧ i ≠ k ∧ H[i]? = some x) ∨ (i = k ∧ x = .dead) ∨ (i = H.length ∧ x = o') := by
    intro i x hi
    rcases get_append_cases hi with ⟨hlt, h⟩ | ⟨h, hx⟩
    · rcases get_set_cases h with ⟨hne, h⟩ | ⟨h, hx, _⟩
      · exact .inl ⟨by simpa using hlt, hne, h⟩
      · exact .inr (.inl ⟨h, hx⟩)
    · exact .inr (.inr ⟨by simpa using h, hx⟩)
  have he : Evo H.length w H ρ w' (H.set k .dead ++ [o']) (updPl ρ H.length (some (b, bs'))) := by
    refine ⟨h1, h2, h3, by omega, fun b' hb' hn => h5 b' (fun hbb => hn (hbb ▸ hlive)), h6, fun b' hb' => ?_, Nat.le_refl _, by simp, fun i hi ha => ?_⟩
    · obtain ⟨i, x, bs2, hi, hx, e2⟩ := hb'
      rcases hcase hi with ⟨hlt, hne, h⟩ | ⟨rfl, rfl⟩ | ⟨rfl, rfl⟩
      · rw [updPl_ne (by omega)] at e2
        exact .inl ⟨i, x, bs2, h, hx, e2⟩
      · cases hx
      · rw [updPl_same] at e2
        simp only [Option.some.injEq, Prod.mk.injEq] at e2
        exact .inl (e2.1 ▸ hlive)
    · obtain ⟨x, hx, hxa⟩ := ha
      rcases hcase hx with ⟨hlt, hne, h⟩ | ⟨rfl, rfl⟩ | ⟨rfl, rfl⟩
      · exact ⟨⟨x, h, hxa⟩, updPl_ne (by omega)⟩
      · cases hxa
      · omega
  refine ⟨he, hs.step he (fun i x hi => ?_) (fun i j x y b1 bs1 bs2 hi hj hx hy ei ej => ?_)⟩
  · rcases hcase hi with ⟨hlt, hne, h⟩ | ⟨rfl, rfl⟩ | ⟨rfl, rfl⟩
    · refine .inl ⟨h, fun b' bs2 e2 ho => h5 b' (fun hbb => hne ?_)⟩
      subst hbb
      exact hs.inj i k x o b' bs2 bs h hk ho hol e2 e
    · exact .inr trivial
    · exact .inr (hob he)
  · rcases hcase hi with ⟨hlt, hne, h⟩ | ⟨rfl, rfl⟩ | ⟨rfl, rfl⟩
    · rcases hcase hj with ⟨hlt', hne', h'⟩ | ⟨rfl, rfl⟩ | ⟨rfl, rfl⟩
      · rw [updPl_ne (by omega)] at ei ej
        exact hs.inj i j x y b1 bs1 bs2 h h' hx hy ei ej
      · cases hy
      · rw [updPl_ne (by omega)] at ei
        rw [updPl_same] at ej
        simp only [Option.some.injEq, Prod.mk.injEq] at ej
        obtain ⟨rfl, rfl⟩ := ej
        exact absurd (hs.inj i k x o b bs1 bs h hk hx hol ei e) hne
    · cases hx
    · rcases hcase hj with ⟨hlt', hne', h'⟩ | ⟨rfl, rfl⟩ | ⟨rfl, rfl⟩
      · rw [updPl_ne (by omega)] at ej
        rw [updPl_same] at ei
        simp only [Option.some.injEq, Prod.mk.injEq] at ei
        obtain ⟨rfl, rfl⟩ := ei
        exact absurd (hs.inj j k y o b bs2 bs h' hk hy hol ej e) hne'
      · cases hy
      · rfl

/-- A new array behind a draw: what append leaves where it grows. -/
theorem grow_fin (hs : Sim X w H ρ) {H0 : List Ob} (hk : Evo H.length w H ρ w H0 ρ) (hs0 : Sim X w H0 ρ) (hl0 : H0.length = H.length) {old vs : Array Value} {cs new : List Pv} {e : TypeId} {n m nc sz : Nat} {z : Array Value} (hzs : z.size = sz)
    (ho : COk { w with drawn := w.drawn + 1 } (Mut X H ρ) H ρ old (cs.map .p)) (hv : COk { w with drawn := w.drawn + 1 } (Mut X H ρ) H ρ vs (new.map .p)) (hcl : cs.length = n * sz) (hnl : new.length = m * sz) (hnc : n + m ≤ nc) :
    Fin X w H ρ { w with drawn := w.drawn + 1, heap := w.heap.push (.cells (old ++ vs ++ Builtin.zeroCells z (nc - (n + m))) e) } (H0 ++ [.arr (cs ++ new)]) (updPl ρ H.length (some (w.heap.size, 0)))
      (.slice (some ⟨w.heap.size, 0, none⟩) (n + m) nc) (.ref H.length 0 (n + m) sz) := by
  have hsd := hs0.drew
  have hkd : Evo H.length { w with drawn := w.drawn + 1 } H ρ { w with drawn := w.drawn + 1 } H0 ρ := ⟨rfl, rfl, rfl, Nat.le_refl _, fun _ _ _ => rfl, fun b C h => ⟨C, h, rfl⟩, hk.live, hk.len, hk.len', hk.alive⟩
  have hc2 := (ho.append hv).evo hkd
  rw [← List.map_append] at hc2
  have hcells : CellsP { w with drawn := w.drawn + 1 } (Mut X H0 ρ) (old ++ vs ++ Builtin.zeroCells z (nc - (n + m))) 0 (cs ++ new) := hc2.cellsP
  obtain ⟨he, hs'⟩ := new_arr hsd (old ++ vs ++ Builtin.zeroCells z (nc - (n + m))) e (cs ++ new) hcells
  rw [hl0] at he hs'
  refine ⟨(hk.trans (hl0 ▸ Evo.drew w H0 ρ)).trans he, hs', ?_⟩
  refine arr_ref (H := H) hnc (fun _ => rfl) ⟨e, (0, 0), push_new { w with drawn := w.drawn + 1 } _⟩ ?_ H0 hl0 ρ
  have h1 := (ho.append hv).1
  simp only [Array.size_append, List.length_append, List.length_map] at h1
  have h2 : (Builtin.zeroCells z (nc - (n + m))).size = (nc - (n + m)) * sz := by simp [Builtin.zeroCells, hzs]
  simp only [Array.size_append, h2]
  have h3 : nc * sz = (n + m) * sz + (nc - (n + m)) * sz := by rw [← Nat.add_mul]; congr 1; omega
  have h4 : (n + m) * sz = n * sz + m * sz := Nat.add_mul ..
  omega
theorem append_ok (hs : Sim X w H ρ) {ts : Array TypeId} {ty : TypeId} {xv yv : Value} {x y d : Dv} {H' : List Ob} (hx : RepD w (Mut X H ρ) H ρ xv x) (hy : RepD w (Mut X H ρ) H ρ yv y) (h : appendD P H ts x y = some (d, H')) :
    ∃ v w' ρ', (Builtin.append_ ts ty #[xv, yv]).run P w = .ok v w' ∧ Fin X w H ρ w' H' ρ' v d := by
  unfold appendD at h
  split at h
  · rename_i e h0
    simp only [Option.bind_eq_some_iff] at h
    obtain ⟨sz, hsz, by_, hby, z, hz, h⟩ := h
    split at h
    · cases h
    · rename_i hc
      simp only [not_or, Decidable.not_not, Bool.not_eq_false] at hc
      obtain ⟨hs0, hb0, hzl, hT⟩ := hc
      simp only [Option.bind_eq_some_iff] at h
      obtain ⟨⟨m, new⟩, hsrc, h⟩ := h
      simp only [] at h
      obtain ⟨hlen, hnl, hfc⟩ := src_ok hs hy hsrc
      have hnt : new.take (m * sz) = new := List.take_of_length_le (by omega)
      obtain ⟨vs, hvs, hcv⟩ := hfc m (Nat.le_refl _)
      rw [hnt] at hcv
      obtain ⟨_, _, hfcd⟩ := src_ok hs.drew (hy.evo (Evo.drew w H ρ)) hsrc
      obtain ⟨vsd, hvsd, hcvd⟩ := hfcd m (Nat.le_refl _)
      rw [hnt] at hcvd
      have hz' : ∃ zv, (∀ w, (zeroValue e).run P w = .ok zv w) ∧ zv.cells.size = sz := by
        obtain ⟨zv, h1, h2⟩ := zeroCs_run hz w
        refine ⟨zv, fun w' => ?_, ?_⟩
        · unfold zeroCs zeroP at hz
          simp only [Option.bind_eq_some_iff, Option.map_eq_some_iff] at hz
          obtain ⟨q, ⟨q2, ⟨i, h3, h4⟩, h5⟩, h6⟩ := hz
          simp [zeroValue, typeInfo, h3, h4] at h1 ⊢
          exact h1
        · have := (h2 (Mut X H ρ) H ρ).1
          simpa [hzl] using this
      obtain ⟨zv, hzv, hzs⟩ := hz'
      split at h
      · rename_i n cells
        split at h
        · rename_i hcond
          obtain ⟨A, cap, us, rfl, hn, hf, ha, h1, hr⟩ := lst_at hx.toP
          obtain rfl : n = cap := (hf rfl).symm
          split at h
          · rename_i hnm
            simp only [Option.some.injEq, Prod.mk.injEq] at h
            obtain ⟨rfl, rfl⟩ := h
            by_cases hroom : n + m ≤ n
            · obtain rfl : m = 0 := by omega
              obtain rfl : n = 0 := by omega
              have hnew : new = [] := List.eq_nil_of_length_eq_zero (by omega)
              have hcell : cells = [] := List.eq_nil_of_length_eq_zero (by omega)
              subst hnew; subst hcell
              have hv0 : vs = #[] := by have := hcv.1; simpa using this
              subst hv0
              obtain ⟨he, hs'⟩ := new_empty hs
              refine ⟨_, w, _, append_place h0 hsz hT hlen hvs hroom (w' := w) (by cases A <;> simp [storeCells]), he, hs', ?_⟩
              exact .ref H.length 0 0 sz A 0 (by simp) (Nat.le_refl _) (fun h => absurd h (by omega))
            · have hold := firstCells_slice (P := P) (w := { w with drawn := w.drawn + 1 }) (size := sz) (n := n) (A := A) (len := n) (cap := n) (us := us) (fun hne => by
                obtain ⟨b, o, rfl, hm, hcell⟩ := ha (by intro e0; subst e0; simp at hcond; omega)
                exact ⟨b, o, rfl, fun j hj => hcell j (by omega)⟩)
              obtain ⟨nc, hnc, hrun⟩ := append_grow h0 hsz hby hb0 hT hlen hzv hroom hcond.2 hold hvsd
              have ho : COk { w with drawn := w.drawn + 1 } (Mut X H ρ) H ρ ((List.range (n * sz)).map us).toArray (cells.map .p) :=
                range_cokP (by omega) (fun j hj => ⟨h1 j hj, (hr j hj).evo (Evo.drew w H ρ)⟩)
              exact ⟨_, _, _, hrun, grow_fin hs (Evo.refl ..) hs rfl hzs ho hcvd hcond.1 hnl hnc⟩
          · rename_i hnm
            simp only [Option.some.injEq, Prod.mk.injEq] at h
            obtain ⟨rfl, rfl⟩ := h
            simp only [not_or, Decidable.not_not] at hnm
            obtain ⟨hn0, rfl⟩ := hnm
            have hv0 : vs = #[] := by
              have h5 := hcv.1
              have h6 : new = [] := List.eq_nil_of_length_eq_zero (by omega)
              rw [h6] at h5; simpa using h5
            subst hv0
            refine ⟨_, w, _, append_place h0 hsz hT hlen hvs (by omega) (w' := w) (by cases A <;> simp [storeCells]), Evo.refl .., hs, hx⟩
        · cases h
      · rename_i id off n esz
        split at h
        · rename_i cs hid
          split at h
          · rename_i hcond
            simp only [Option.some.injEq, Prod.mk.injEq] at h
            obtain ⟨rfl, rfl⟩ := h
            obtain ⟨rfl, hfit, hbig⟩ := hcond
            obtain ⟨A, cap, rfl, hlt, hn, ha⟩ := ref_at hx
            have hrd : rdSlice H id off n esz = some ((cs.drop off).take (n * esz)) := by simp [rdSlice, hid, hfit]
            obtain ⟨hcl, us, hu, hr⟩ := rdSlice_spec hs hrd hx
            by_cases hroom : n + m ≤ cap
            · by_cases hcap : 0 < cap
              · obtain ⟨a, rfl, hal⟩ := ha hcap
                obtain ⟨b, bs, C, eρ, rfl, hCb, hCsz⟩ := hal ⟨_, hid, rfl⟩
                rcases hs.obs id _ hid with ⟨h6, e6⟩ | ⟨b', bs', C', e6, hX, hO, hcs⟩
                · rw [eρ] at e6; cases e6
                · rw [eρ] at e6
                  simp only [Option.some.injEq, Prod.mk.injEq] at e6
                  obtain ⟨rfl, rfl⟩ := e6
                  obtain rfl := Blk.unique hCb hO.blk
                  have hO2 := hO
                  obtain ⟨T, hT2⟩ := hO2
                  have hvsz : vs.size = m * esz := by have := hcv.1; simp at this; omega
                  have hle : (n + m) * esz ≤ cap * esz := Nat.mul_le_mul_right _ hroom
                  have hnm : (n + m) * esz = n * esz + m * esz := Nat.add_mul ..
                  have hf2 : bs + off + n * esz + vs.size ≤ C.size := by omega
                  have hst : (if let some a := some (⟨b, bs + off, none⟩ : Addr) then storeCells (a.add (n * esz)) vs.toList else pure PUnit.unit : Sem PUnit).run P w = .ok () (w.setRow b (rowOf C (bs + off + n * esz) vs)) := by
                    simp only []
                    rw [add_cell]
                    exact storeCells_run hT2 hf2 (fun j hj => (hcv.2 j (by rw [← hcv.1]; exact hj)).1)
                  have hshape := setRow_shape hCb (rowOf_size hf2)
                  obtain ⟨he, hs'⟩ := move_ob (o' := .arr ((cs.drop off).take (n * esz) ++ new)) (bs' := bs + off) (w' := w.setRow b (rowOf C (bs + off + n * esz) vs)) hs hid rfl eρ rfl rfl rfl (by simp [World.setRow]) (fun b' hb' => setRow_other _ _ _ _ hb') hshape (fun he => by
                    refine .inr ⟨b, bs + off, rowOf C (bs + off + n * esz) vs, updPl_same .., hX, ⟨T, setRow_heap w b C _ T _ hT2⟩, ?_⟩
                    have hc1 : CellsP w (Mut X H ρ) (rowOf C (bs + off + n * esz) vs) (bs + off) ((cs.drop off).take (n * esz) ++ new) := by
                      refine ⟨by rw [List.length_append, hcl, hnl, rowOf_size hf2]; omega, fun j hj => ?_⟩
                      rw [rowOf_getD hf2]
                      simp only [List.length_append, hcl, hnl] at hj
                      by_cases hj1 : j < n * esz
                      · rw [if_neg (by omega), List.getElem_append_left (by omega)]
                        have := hcs.2 (off + j) (by omega)
                        simpa [Nat.add_assoc] using this
                      · rw [if_pos (by omega), List.getElem_append_right (by omega)]
                        have h7 := hcv.2 (j - n * esz) (by simp; omega)
                        rw [show bs + off + j - (bs + off + n * esz) = j - n * esz from by omega]
                        refine ⟨h7.1, ?_⟩
                        have h8 := h7.2
                        simp only [List.getElem_map] at h8
                        simp only [hcl]
                        exact h8.toP
                    exact hc1.evo he)
                  refine ⟨_, _, _, append_place h0 hsz hT hlen hvs hroom hst, he, hs', ?_⟩
                  refine arr_ref (H := H) hroom (fun _ => rfl) (C := rowOf C (bs + off + n * esz) vs) ⟨T, (0, 0), setRow_heap w b C _ T _ hT2⟩ ?_ (H.set id .dead) (by simp) ρ
                  rw [rowOf_size hf2]; omega
              · obtain rfl : cap = 0 := by omega
                obtain rfl : n = 0 := by omega
                obtain rfl : m = 0 := by omega
                have hnew : new = [] := List.eq_nil_of_length_eq_zero (by omega)
                subst hnew
                have hv0 : vs = #[] := by have := hcv.1; simpa using this
                subst hv0
                obtain ⟨hk1, hk2⟩ := kill_ob hs id
                obtain ⟨he, hs'⟩ := new_empty hk2
                have e9 : ((cs.drop off).take (0 * esz) ++ ([] : List Pv)) = [] := by simp
                rw [e9]
                rw [List.length_set] at he hs'
                refine ⟨_, w, _, append_place h0 hsz hT hlen hvs hroom (w' := w) (by cases A <;> simp [storeCells]), hk1.trans he, hs', ?_⟩
                exact .ref H.length 0 0 esz A 0 (by simp) (Nat.le_refl _) (fun h => absurd h (by omega))
            · have hold := firstCells_slice (P := P) (w := { w with drawn := w.drawn + 1 }) (size := esz) (n := n) (A := A) (len := n) (cap := cap) (us := us) (fun hne => hu hne)
              obtain ⟨nc, hnc, hrun⟩ := append_grow h0 hsz hby hb0 hT hlen hzv hroom hbig hold hvsd
              have ho : COk { w with drawn := w.drawn + 1 } (Mut X H ρ) H ρ ((List.range (n * esz)).map us).toArray (((cs.drop off).take (n * esz)).map .p) :=
                range_cokP (by omega) (fun j hj => ⟨(hr j hj).1, (hr j hj).2.evo (Evo.drew w H ρ)⟩)
              obtain ⟨hk1, hk2⟩ := kill_ob hs id
              exact ⟨_, _, _, hrun, grow_fin hs hk1 hk2 (by simp) hzs ho hcvd hcl hnl hnc⟩
          · cases h
        · cases h
      · cases h
  · cases h

/-! ### copy -/
theorem copy_run {ts : Array TypeId} {ty e : TypeId} {sz : Nat} (h0 : (ts[0]?).bind P.underlying = some (.slice e)) (hsz : szOf P e = some sz) {base : Option Addr} {n cap m : Nat} {yv : Value} {vs : Array Value}
    (hlen : (Builtin.lenOf yv).run P w = .ok m w) (hfc : (Builtin.firstCells sz (Nat.min m n) yv).run P w = .ok vs w) {w' : World}
    (hst : (if let some a := base then storeCells a vs.toList else pure PUnit.unit : Sem PUnit).run P w = .ok () w') :
    (Builtin.copy_ ts ty #[.slice base n cap, yv]).run P w = .ok (goInt (Nat.min m n)) w' := by
  simp only [Option.bind_eq_some_iff] at h0
  obtain ⟨t, ht, hu⟩ := h0
  simp only [Builtin.copy_, ht, List.getElem?_toArray, List.getElem?_cons_zero, List.getElem?_cons_succ, Sem.run_bind, und_run hu, Result.andThen_ok, szOf_run hsz, hlen, hfc]
  cases base with
  | none => simp at hst; subst hst; simp
  | some a => simp only [] at hst; simp only [Sem.run_bind, hst, Result.andThen_ok, Sem.run_pure]
theorem copy_ok (hs : Sim X w H ρ) {ts : Array TypeId} {ty : TypeId} {xv yv : Value} {x y d : Dv} {H' : List Ob} (hx : RepD w (Mut X H ρ) H ρ xv x) (hy : RepD w (Mut X H ρ) H ρ yv y) (h : copyD P H ts x y = some (d, H')) :
    ∃ v w' ρ', (Builtin.copy_ ts ty #[xv, yv]).run P w = .ok v w' ∧ Fin X w H ρ w' H' ρ' v d := by
  unfold copyD at h
  split at h
  · rename_i e h0
    simp only [Option.bind_eq_some_iff] at h
    obtain ⟨sz, hsz, h⟩ := h
    split at h
    · cases h
    · rename_i hs0
      simp only [Option.bind_eq_some_iff] at h
      obtain ⟨⟨m, new⟩, hsrc, h⟩ := h
      simp only [] at h
      obtain ⟨hlen, hnl, hfc⟩ := src_ok hs hy hsrc
      split at h
      · rename_i id off n esz
        split at h
        · rename_i cs hid
          split at h
          · rename_i hcond
            simp only [Option.some.injEq, Prod.mk.injEq] at h
            obtain ⟨rfl, rfl⟩ := h
            obtain ⟨rfl, hfit⟩ := hcond
            obtain ⟨A, cap, rfl, hlt, hn, ha⟩ := ref_at hx
            obtain ⟨vs, hvs, hcv⟩ := hfc (Nat.min m n) (Nat.min_le_left ..)
            have hmn : Nat.min m n * esz ≤ n * esz := Nat.mul_le_mul_right _ (Nat.min_le_right ..)
            have hmm : Nat.min m n * esz ≤ m * esz := Nat.mul_le_mul_right _ (Nat.min_le_left ..)
            have htl : (new.take (Nat.min m n * esz)).length = Nat.min m n * esz := by simp only [List.length_take]; omega
            have hvsz : vs.size = Nat.min m n * esz := by have := hcv.1; simp only [List.length_map] at this; omega
            by_cases hn0 : n = 0
            · subst hn0
              have hmin : Nat.min m 0 = 0 := Nat.min_zero m
              have hv0 : vs = #[] := by
                have : vs.size = 0 := by rw [hvsz, hmin, Nat.zero_mul]
                simpa using this
              subst hv0
              have e1 : setAt cs off (new.take (Nat.min m 0 * esz)) = cs := by rw [hmin]; simp [setAt]
              have e2 : H.set id (.arr cs) = H := by
                apply List.ext_getElem?
                intro i
                by_cases hi : id = i
                · subst hi; rw [List.getElem?_set_self', hid]; rfl
                · rw [List.getElem?_set_ne hi]
              rw [e1, e2]
              exact ⟨_, w, ρ, copy_run h0 hsz hlen hvs (w' := w) (by cases A <;> simp [storeCells]), Evo.refl .., hs, .p _ _ (.v _)⟩
            · obtain ⟨a, rfl, hal⟩ := ha (by omega)
              obtain ⟨b, bs, C, eρ, rfl, hCb, hCsz⟩ := hal ⟨_, hid, rfl⟩
              rcases hs.obs id _ hid with ⟨h6, e6⟩ | ⟨b', bs', C', e6, hX, hO, hcs⟩
              · rw [eρ] at e6; cases e6
              · rw [eρ] at e6
                simp only [Option.some.injEq, Prod.mk.injEq] at e6
                obtain ⟨rfl, rfl⟩ := e6
                have hO2 := hO
                obtain ⟨T, hT2⟩ := hO2
                have hf2 : bs + off + vs.size ≤ C'.size := by have := hcs.1; omega
                have h8 := write_ob hs hid (o' := .arr (setAt cs off (new.take (Nat.min m n * esz)))) rfl rfl eρ hX hO hf2 (fun he hO => .inr ⟨b, bs, _, eρ, hX, hO, (hcs.write hcv (by omega)).evo he⟩)
                refine ⟨_, _, ρ, copy_run h0 hsz hlen hvs (by simp only []; exact storeCells_run hT2 hf2 (fun j hj => (hcv.2 j (by rw [← hcv.1]; exact hj)).1)), h8.1, h8.2, .p _ _ (.v _)⟩
          · cases h
        · cases h
      · rename_i full cells
        simp only [Option.some.injEq, Prod.mk.injEq] at h
        obtain ⟨rfl, rfl⟩ := h
        obtain ⟨A, cap, us, rfl, _⟩ := lst_at hx.toP
        obtain ⟨vs, hvs, hcv⟩ := hfc (Nat.min m 0) (Nat.min_le_left ..)
        have hmin : Nat.min m 0 = 0 := Nat.min_zero m
        have hv0 : vs = #[] := by
          have := hcv.1
          rw [hmin] at this
          simpa using this
        subst hv0
        have hr := copy_run (ty := ty) (cap := cap) h0 hsz hlen hvs (w' := w) (base := A) (by cases A <;> simp [storeCells])
        rw [hmin] at hr
        exact ⟨_, w, ρ, hr, Evo.refl .., hs, .p _ _ (.v _)⟩
      · cases h
  · cases h
end
end Go.Ev
