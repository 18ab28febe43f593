/- Operations that leave the world alone. -/
import Derived.Test.YtgjhagehbfhioaaEv3
set_option linter.unusedVariables false
set_option linter.unusedSimpArgs false
namespace Go.Ev
section
variable {P : Program} {X M : Nat → Prop} {w : World} {H : List Ob} {ρ : Pl}

theorem szOf_run {t : TypeId} {n : Nat} (h : szOf P t = some n) (w : World) : (sizeOf t).run P w = .ok n w := by
  unfold szOf at h
  simp only [Option.map_eq_some_iff] at h
  obtain ⟨i, h1, rfl⟩ := h
  simp [sizeOf, typeInfo, h1]
theorem bytesOf_run {t : TypeId} {n : Nat} (h : bytesOf P t = some n) (w : World) : ∃ i, (typeInfo t).run P w = .ok i w ∧ i.bytes = n := by
  unfold bytesOf at h
  simp only [Option.map_eq_some_iff] at h
  obtain ⟨i, h1, rfl⟩ := h
  exact ⟨i, by simp [typeInfo, h1], rfl⟩
theorem und_run {t : TypeId} {d : TypeDesc} (h : P.underlying t = some d) (w : World) : (underlying t).run P w = .ok d w := by
  simp [underlying, h]
theorem aggT_run {t : TypeId} {b : Bool} (h : aggT P t = some b) (w : World) : (isAgg t).run P w = .ok b w := by
  unfold aggT at h
  split at h
  · rename_i fs hu
    simp at h; subst h
    simp [isAgg, und_run hu]
  · rename_i n e hu
    simp at h; subst h
    simp [isAgg, und_run hu]
  · rename_i d h1 h2 hu
    simp at h; subst h
    simp only [isAgg, Sem.run_bind, und_run hu, Result.andThen_ok]
    cases d <;> simp_all
  · cases h
theorem zeroP_run {t : TypeId} {y : Pv} (h : zeroP P t = some y) (w : World) : ∃ z, (zeroValue t).run P w = .ok z w ∧ y = ofVal z := by
  unfold zeroP at h
  simp only [Option.map_eq_some_iff, Option.bind_eq_some_iff] at h
  obtain ⟨z, ⟨i, h1, h2⟩, rfl⟩ := h
  exact ⟨z, by simp [zeroValue, typeInfo, h1, h2], rfl⟩
theorem add_cell (b o j : Nat) : (⟨b, o, none⟩ : Addr).add j = ⟨b, o + j, none⟩ := by
  unfold Addr.add
  split
  · rename_i h; subst h; rfl
  · rfl

/-! ### load -/
theorem loadVar_agg {t : TypeId} {n : Nat} (ha : aggT P t = some true) (hn : szOf P t = some n) (b o : Nat) (us : Nat → Value) (hc : ∀ j, j < n → w.cell? ⟨b, o + j, none⟩ = some (us j)) :
    (loadVar t ⟨b, o, none⟩).run P w = .ok (.agg ((List.range n).map us).toArray) w := by
  have := run_loadCells (P := P) w ⟨b, o, none⟩ n us (fun j hj => by rw [add_cell]; exact hc j hj)
  simp only [loadVar, Sem.run_bind, aggT_run ha, Result.andThen_ok, if_true, szOf_run hn, this, Sem.run_pure]
theorem loadVar_one {t : TypeId} (ha : aggT P t = some false) (b o : Nat) (u : Value) (hc : w.cell? ⟨b, o, none⟩ = some u) :
    (loadVar t ⟨b, o, none⟩).run P w = .ok u w := by
  simp [loadVar, aggT_run ha, hc]
theorem range_cok {n : Nat} {us : Nat → Value} {ds : List Dv} (hl : n = ds.length) (h : ∀ j (hj : j < ds.length), (us j).oneCell' = true ∧ RepD w M H ρ (us j) ds[j]) :
    COk w M H ρ ((List.range n).map us).toArray ds := by
  subst hl
  refine ⟨by simp, fun j hj => ?_⟩
  have e : ((List.range ds.length).map us).toArray.getD j undef = us j := by simp [hj]
  rw [e]
  exact h j hj
/-- The cells of an object that is there. -/
theorem Sim.cells {i : Nat} {o : Ob} (hs : Sim X w H ρ) (hi : H[i]? = some o) (hpos : 0 < o.size) : ∃ b bs C ds, ρ i = some (b, bs) ∧ Blk w b C ∧ CellsD w (Mut X H ρ) H ρ C bs ds ∧ ds.length = o.size ∧
    (∀ j, o.cell? j = ds[j]?) ∧ (∀ off n, o.cells? off n = if off + n ≤ ds.length then some (mkAgg ((ds.drop off).take n)) else none) := by
  have aggP : ∀ (cs : List Pv) (off n : Nat), mkAgg (((cs.map Dv.p).drop off).take n) = .p (.agg ((cs.drop off).take n)) := by
    intro cs off n
    have e : ∀ l : List Pv, allP (l.map Dv.p) = some l := by
      intro l
      induction l with
      | nil => rfl
      | cons a l ih => simp [allP, ih]
    unfold mkAgg
    rw [← List.map_drop, ← List.map_take, e]
  have hok := hs.obs i o hi
  cases o with
  | dead => simp [Ob.size] at hpos
  | var ds =>
    obtain ⟨b, bs, C, e, hx, hC, hcs⟩ := hok
    exact ⟨b, bs, C, ds, e, hC.blk, hcs, rfl, fun j => rfl, fun off n => rfl⟩
  | ro ds =>
    obtain ⟨b, bs, C, e, hx, hC, hcs⟩ := hok
    exact ⟨b, bs, C, ds, e, hC, hcs, rfl, fun j => rfl, fun off n => rfl⟩
  | arr cs =>
    rcases hok with ⟨h0, e⟩ | ⟨b, bs, C, e, hx, hC, hcs⟩
    · subst h0; simp [Ob.size] at hpos
    · exact ⟨b, bs, C, cs.map .p, e, hC.blk, hcs.dyn, by simp [Ob.size], fun j => by simp [Ob.cell?], fun off n => by simp only [Ob.cells?, List.length_map, aggP]⟩
  | frz cs =>
    rcases hok with ⟨h0, e⟩ | ⟨b, bs, C, e, hx, hC, hcs⟩
    · subst h0; simp [Ob.size] at hpos
    · exact ⟨b, bs, C, cs.map .p, e, hC, hcs.dyn, by simp [Ob.size], fun j => by simp [Ob.cell?], fun off n => by simp only [Ob.cells?, List.length_map, aggP]⟩
  | roa cs =>
    rcases hok with ⟨h0, e⟩ | ⟨b, bs, C, e, hx, hC, hcs⟩
    · subst h0; simp [Ob.size] at hpos
    · exact ⟨b, bs, C, cs.map .p, e, hC, hcs.dyn, by simp [Ob.size], fun j => by simp [Ob.cell?], fun off n => by simp only [Ob.cells?, List.length_map, aggP]⟩
theorem Ob.alive_of_size {o : Ob} (h : 0 < o.size) : o.alive = true := by cases o <;> simp_all [Ob.size, Ob.alive]
theorem Ob.cell_size {o : Ob} {j : Nat} {d : Dv} (h : o.cell? j = some d) : j < o.size := by
  cases o with
  | dead => simp [Ob.cell?] at h
  | var cs => exact (List.getElem?_eq_some_iff.1 h).1
  | ro cs => exact (List.getElem?_eq_some_iff.1 h).1
  | arr cs => simp only [Ob.cell?, Option.map_eq_some_iff] at h; obtain ⟨x, h1, _⟩ := h; exact (List.getElem?_eq_some_iff.1 h1).1
  | frz cs => simp only [Ob.cell?, Option.map_eq_some_iff] at h; obtain ⟨x, h1, _⟩ := h; exact (List.getElem?_eq_some_iff.1 h1).1
  | roa cs => simp only [Ob.cell?, Option.map_eq_some_iff] at h; obtain ⟨x, h1, _⟩ := h; exact (List.getElem?_eq_some_iff.1 h1).1
theorem Ob.cells_size {o : Ob} {off n : Nat} {d : Dv} (h : o.cells? off n = some d) : off + n ≤ o.size ∧ o.alive = true := by
  cases o <;> simp [Ob.cells?, Ob.size, Ob.alive] at h ⊢
  all_goals exact h.1
theorem loadAt_run (t : TypeId) (a : Addr) (w : World) : (Instr.loadAt t (.pointer (some a))).run P w = (loadVar t a).run P w := by
  simp [Instr.loadAt, Instr.sureAddr]
theorem load_ok (hs : Sim X w H ρ) {t : TypeId} {av : Value} {ad d : Dv} (ha : RepD w (Mut X H ρ) H ρ av ad) (h : loadD P H t ad = some d) :
    ∃ v, (Instr.loadAt t av).run P w = .ok v w ∧ RepD w (Mut X H ρ) H ρ v d := by
  unfold loadD at h
  cases hag : aggT P t with
  | none => simp [hag] at h
  | some ag =>
    simp only [hag] at h
    cases ha with
    | ptr id off a hid hal =>
      simp only [] at h
      cases hi : H[id]? with
      | none => simp [hi] at h
      | some o =>
        simp only [hi] at h
        cases ag with
        | true =>
          simp only [if_true, Option.bind_eq_some_iff] at h
          obtain ⟨n, hn, h⟩ := h
          obtain ⟨hsz, halive⟩ := Ob.cells_size h
          obtain ⟨b, bs, e1, rfl⟩ := hal ⟨o, hi, halive⟩
          by_cases hpos : 0 < o.size
          · obtain ⟨b', bs', C, ds, e2, hC, hcs, hl, hc1, hc2⟩ := hs.cells hi hpos
            rw [e1] at e2
            simp only [Option.some.injEq, Prod.mk.injEq] at e2
            obtain ⟨rfl, rfl⟩ := e2
            rw [hc2, if_pos (by omega)] at h
            simp only [Option.some.injEq] at h
            subst h
            refine ⟨_, (loadAt_run ..).trans <| loadVar_agg hag hn b (bs + off) (fun j => C.getD (bs + off + j) undef) (fun j hj => ?_), ?_⟩
            · rw [hC.cell]
              have := hcs.1
              exact getD_some (by omega)
            · refine RepD.mkAgg (range_cok (by simp; omega) (fun j hj => ?_))
              have hj : j < n := by simp only [List.length_take, List.length_drop] at hj; omega
              have := hcs.2 (off + j) (by omega)
              simpa [Nat.add_assoc] using this
          · have hn0 : n = 0 := by omega
            have ho : off = 0 := by omega
            subst hn0
            have hd : d = mkAgg [] := by
              cases o <;> simp [Ob.cells?] at h
              all_goals (obtain ⟨_, rfl⟩ := h; rfl)
            subst hd
            refine ⟨_, (loadAt_run ..).trans <| loadVar_agg hag hn b (bs + off) (fun j => undef) (fun j hj => absurd hj (by omega)), ?_⟩
            exact RepD.mkAgg (range_cok rfl (fun j hj => absurd hj (by simp)))
        | false =>
          simp only [Bool.false_eq_true, if_false] at h
          have hlt := Ob.cell_size h
          obtain ⟨b, bs, e1, rfl⟩ := hal ⟨o, hi, Ob.alive_of_size (by omega)⟩
          obtain ⟨b', bs', C, ds, e2, hC, hcs, hl, hc1, hc2⟩ := hs.cells hi (by omega)
          rw [e1] at e2
          simp only [Option.some.injEq, Prod.mk.injEq] at e2
          obtain ⟨rfl, rfl⟩ := e2
          rw [hc1] at h
          obtain ⟨h1, h2⟩ := List.getElem?_eq_some_iff.1 h
          have h3 := hcs.2 off h1
          rw [h2] at h3
          refine ⟨_, (loadAt_run ..).trans <| loadVar_one hag b (bs + off) (C.getD (bs + off) undef) ?_, h3.2⟩
          rw [hC.cell]
          exact getD_some (by have := hcs.1; omega)
    | p x y hp =>
      cases hp with
      | iptr cells off b o us hcell h1 hr =>
        simp only [] at h
        cases ag with
        | true =>
          simp only [if_true, Option.bind_eq_some_iff] at h
          obtain ⟨n, hn, h⟩ := h
          split at h
          · rename_i hsz
            simp only [Option.some.injEq] at h
            subst h
            refine ⟨_, (loadAt_run ..).trans <| loadVar_agg hag hn b (o + off) (fun j => us (off + j)) (fun j hj => ?_), ?_⟩
            · have hne : cells ≠ [] := by intro e; subst e; simp at hsz; omega
              rw [Nat.add_assoc]
              exact (hcell hne).2 (off + j) (by omega)
            · refine .p _ _ (.agg _ _ (by simp; omega) (fun j hj => ?_) (fun j hj => ?_))
              · have hj : j < n := by simp only [List.length_take, List.length_drop] at hj; omega
                have e : ((List.range n).map fun j => us (off + j)).toArray.getD j undef = us (off + j) := by simp [hj]
                rw [e]; exact h1 _ (by omega)
              · have hj : j < n := by simp only [List.length_take, List.length_drop] at hj; omega
                have e : ((List.range n).map fun j => us (off + j)).toArray.getD j undef = us (off + j) := by simp [hj]
                rw [e]
                have := hr (off + j) (by omega)
                simpa using this
          · cases h
        | false =>
          simp only [Bool.false_eq_true, if_false, Option.map_eq_some_iff] at h
          obtain ⟨y, h, rfl⟩ := h
          obtain ⟨h2, h3⟩ := List.getElem?_eq_some_iff.1 h
          have hne : cells ≠ [] := by intro e; subst e; simp at h2
          have h4 := hr off h2
          rw [h3] at h4
          exact ⟨_, (loadAt_run ..).trans <| loadVar_one hag b (o + off) (us off) ((hcell hne).2 off h2), .p _ _ h4⟩
      | _ => simp at h
    | _ => simp at h

/-! ### Parts -/
theorem part_ok {t : TypeId} {vs : Array Value} {x d : Dv} {off : Nat} (hx : RepD w M H ρ (.agg vs) x) (h : partD P t x off = some d) :
    ∃ v, (part t vs off).run P w = .ok v w ∧ RepD w M H ρ v d := by
  unfold partD at h
  split at h
  · rename_i n cs ha hn
    split at h
    · rename_i hsz
      simp only [Option.some.injEq] at h
      subst h
      cases hx.toP with
      | agg vs cs hl h1 hr =>
        refine ⟨_, by simp [part, aggT_run ha, szOf_run hn]; rfl, .p _ _ (.agg _ _ (by simp; omega) (fun j hj => ?_) (fun j hj => ?_))⟩
        all_goals
          have hj : j < n := by simp only [List.length_take, List.length_drop] at hj; omega
          have e1 : (vs.extract off (off + n)).getD j undef = vs.getD (off + j) undef := by
            rw [Array.getD_eq_getD_getElem?, Array.getD_eq_getD_getElem?, Array.getElem?_extract, if_pos (by omega)]
          rw [e1]
        · exact h1 _ (by omega)
        · simpa using hr (off + j) (by omega)
    · cases h
  · rename_i n ds ha hn
    split at h
    · rename_i hsz
      simp only [Option.some.injEq] at h
      subst h
      cases hx with
      | agg vs cs hl h1 hr =>
        refine ⟨_, by simp [part, aggT_run ha, szOf_run hn]; rfl, RepD.mkAgg ?_⟩
        have := COk.sub (C := vs) (bs := 0) (ds := ds) (w := w) (M := M) (H := H) (ρ := ρ) ⟨by omega, fun j hj => by rw [Nat.zero_add]; exact ⟨h1 j hj, hr j hj⟩⟩ off n hsz
        rw [Nat.zero_add] at this; exact this
    · cases h
  · rename_i cs ha
    simp only [Option.map_eq_some_iff] at h
    obtain ⟨y, h, rfl⟩ := h
    obtain ⟨h2, h3⟩ := List.getElem?_eq_some_iff.1 h
    cases hx.toP with
    | agg vs cs hl h1 hr =>
      have h4 := hr off h2
      rw [h3] at h4
      refine ⟨_, ?_, .p _ _ h4⟩
      have hg := getD_some (C := vs) (j := off) (by omega)
      simp only [part, Sem.run_bind, aggT_run ha, Result.andThen_ok, Bool.false_eq_true, if_false, hg]; rfl
  · rename_i ds ha
    obtain ⟨h2, h3⟩ := List.getElem?_eq_some_iff.1 h
    cases hx with
    | agg vs cs hl h1 hr =>
      have h4 := hr off h2
      rw [h3] at h4
      refine ⟨_, ?_, h4⟩
      have hg := getD_some (C := vs) (j := off) (by omega)
      simp only [part, Sem.run_bind, aggT_run ha, Result.andThen_ok, Bool.false_eq_true, if_false, hg]; rfl
  · cases h
theorem partD_agg {t : TypeId} {v : Value} {x d : Dv} {off : Nat} (hx : RepD w M H ρ v x) (h : partD P t x off = some d) : ∃ vs, v = .agg vs := by
  unfold partD at h
  split at h
  · cases hx.toP; exact ⟨_, rfl⟩
  · cases hx; exact ⟨_, rfl⟩
  · cases hx.toP; exact ⟨_, rfl⟩
  · cases hx; exact ⟨_, rfl⟩
  · cases h
end
end Go.Ev
