/- makeSlice, append, copy. -/
import Derived.Test.YtgjhagehbfhioaaEv8
import Derived.IntWalk
import Derived.Laws.Append
set_option linter.unusedVariables false
set_option linter.unusedSimpArgs false
namespace Go.Ev
section
variable {P : Program} {X M : Nat → Prop} {w : World} {H : List Ob} {ρ : Pl}

theorem arr_ref {w' : World} {b bs len cap esz : Nat} {A : Option Addr} {C : Array Value} {cs : List Pv} (hn : len ≤ cap) (hA : 0 < cap → A = some ⟨b, bs, none⟩) (hC : Blk w' b C) (hsz : bs + cap * esz ≤ C.size) (H0 : List Ob) (hl : H0.length = H.length) (ρ : Pl) :
    RepD w' (Mut X (H0 ++ [.arr cs]) (updPl ρ H.length (some (b, bs)))) (H0 ++ [.arr cs]) (updPl ρ H.length (some (b, bs))) (.slice A len cap) (.ref H.length 0 len esz) :=
  .ref H.length 0 len esz A cap (by simp [hl]) hn (fun hc => ⟨_, hA hc, fun _ => ⟨b, bs, C, updPl_same .., rfl, hC, hsz⟩⟩)
theorem make_ok (hs : Sim X w H ρ) {t : TypeId} {lv cv : Value} {l c d : Dv} {H' : List Ob} (hl : RepD w (Mut X H ρ) H ρ lv l) (hc : RepD w (Mut X H ρ) H ρ cv c) (h : makeD P H t l c = some (d, H')) :
    ∃ v w' ρ', (Instr.makeSlice t lv cv).run P w = .ok v w' ∧ Fin X w H ρ w' H' ρ' v d := by
  unfold makeD at h
  split at h
  · rename_i e n k hu hn hk
    simp only [Option.bind_eq_some_iff] at h
    obtain ⟨sz, hsz, by_, hby, z, hz, h⟩ := h
    split at h
    · cases h
    · rename_i h0
      simp only [not_or, Decidable.not_not] at h0
      obtain ⟨h0, hzl, hb0⟩ := h0
      split at h
      · rename_i hc1
        simp only [Option.some.injEq, Prod.mk.injEq] at h
        obtain ⟨rfl, rfl⟩ := h
        obtain ⟨kn, rfl⟩ := intD_ok hl hn
        obtain ⟨kk, rfl⟩ := intD_ok hc hk
        obtain ⟨hn0, hnk, hbig⟩ := hc1
        obtain ⟨zv, hzv, hcz⟩ := zeroCs_run hz w
        obtain ⟨i, hi, hib⟩ := bytesOf_run hby w
        have hk1 : k ≤ 281474976710656 := by
          have : (1 : Int) * k ≤ by_ * k := Int.mul_le_mul_of_nonneg_right (by omega) (by omega)
          omega
        have w1 : IntKind.i64.wrap n = n := IntWalk.i64_in _ (by omega)
        have w2 : IntKind.i64.wrap k = k := IntWalk.i64_in _ (by omega)
        have hz1 := hcz (Mut X H ρ) H ρ
        have hrow := zeros_cok hz1 (by omega) k.toNat
        rw [hzl] at hrow
        have hrown := zeros_cok hz1 (by omega) n.toNat
        rw [hzl] at hrown
        have hle : n.toNat * sz ≤ k.toNat * sz := Nat.mul_le_mul_right _ (by omega)
        let C : Array Value := (Array.range (k.toNat * sz)).map (fun i => zv.cells[i % zv.cells.size]!)
        have hCs : C.size = k.toNat * sz := by simp [C]
        have hcells : CellsP w (Mut X H ρ) C 0 (repl n.toNat z) := by
          refine CellsD.pure (H := H) (ρ := ρ) ⟨by rw [List.length_map, repl_length, hzl, hCs]; omega, fun j hj => ?_⟩
          have h5 := hrown.2 j hj
          have hj' : j < n.toNat * sz := by rw [List.length_map, repl_length, hzl] at hj; exact hj
          have e1 : C.getD (0 + j) undef = ((Array.range (n.toNat * sz)).map (fun i => zv.cells[i % zv.cells.size]!)).getD j undef := by
            simp [C, hj', show j < k.toNat * sz from by omega]
          rw [e1]; exact h5
        obtain ⟨he, hs'⟩ := new_arr hs C e (repl n.toNat z) hcells
        refine ⟨.slice (some ⟨w.heap.size, 0, none⟩) n.toNat k.toNat, _, _, ?_, he, hs', ?_⟩
        · have hlt : ¬ (k < 0 ∨ (281474976710656 : Int) < by_ * k) := by omega
          simp only [Instr.makeSlice, Sem.run_bind, und_run hu, Result.andThen_ok, asInt, asIntOf, Sem.run_pure, hi, w1, w2, hib]
          rw [if_neg (by simp; omega)]
          simp only [run_askRoom, Result.andThen_ok, Sem.run_bind, szOf_run hsz]
          by_cases h6 : k.toNat * sz = 0
          · rw [if_pos h6]
            simp only [Sem.run_pure, Result.andThen_ok, newRow, Sem.run_bind, run_newObj]
            have : C = (Array.range (k.toNat * sz)).map (fun i => (#[] : Array Value)[i % (#[] : Array Value).size]!) := by
              simp only [C, h6]; simp
            rw [this]
          · rw [if_neg h6]
            simp only [Sem.run_bind, hzv, Result.andThen_ok, Sem.run_pure, newRow, run_newObj]
            rfl
        · exact arr_ref (C := C) (by omega) (fun _ => rfl) ⟨e, (0, 0), push_new w _⟩ (by rw [hCs]; omega) H rfl ρ
      · cases h
  · cases h

/-! ### The source of an append or a copy -/
theorem firstCells_slice {size n : Nat} {A : Option Addr} {len cap : Nat} {us : Nat → Value} (hA : n * size ≠ 0 → ∃ b o, A = some ⟨b, o, none⟩ ∧ ∀ j, j < n * size → w.cell? ⟨b, o + j, none⟩ = some (us j)) :
    (Builtin.firstCells size n (.slice A len cap)).run P w = .ok ((List.range (n * size)).map us).toArray w := by
  by_cases h0 : n * size = 0
  · cases A with
    | none => simp [Builtin.firstCells, h0]
    | some a =>
      have := run_loadCells (P := P) w a 0 us (fun j hj => absurd hj (by omega))
      simp only [Builtin.firstCells, h0, this]
  · obtain ⟨b, o, rfl, hc⟩ := hA h0
    have := run_loadCells (P := P) w ⟨b, o, none⟩ (n * size) us (fun j hj => by rw [add_cell]; exact hc j hj)
    simp only [Builtin.firstCells, this]
theorem rdSlice_spec (hs : Sim X w H ρ) {id off len esz : Nat} {cs : List Pv} (h : rdSlice H id off len esz = some cs) {A : Option Addr} {cap : Nat} (hv : RepD w (Mut X H ρ) H ρ (.slice A len cap) (.ref id off len esz)) :
    cs.length = len * esz ∧ ∃ us : Nat → Value, (len * esz ≠ 0 → ∃ b o, A = some ⟨b, o, none⟩ ∧ ∀ j, j < len * esz → w.cell? ⟨b, o + j, none⟩ = some (us j)) ∧
      ∀ j (h : j < cs.length), (us j).oneCell' = true ∧ RepP w (Mut X H ρ) (us j) cs[j] := by
  have key : ∀ (o : Ob) (ds : List Dv), H[id]? = some o → o.alive = true → off + len * esz ≤ o.size → allP ((ds.drop off).take (len * esz)) = some cs → (0 < o.size → ∀ j, o.cell? j = ds[j]?) → ds.length = o.size →
      cs.length = len * esz ∧ ∃ us : Nat → Value, (len * esz ≠ 0 → ∃ b o, A = some ⟨b, o, none⟩ ∧ ∀ j, j < len * esz → w.cell? ⟨b, o + j, none⟩ = some (us j)) ∧
      ∀ j (h : j < cs.length), (us j).oneCell' = true ∧ RepP w (Mut X H ρ) (us j) cs[j] := by
    intro o ds hid halive hsz hall hcell hlen
    have e := allP_spec hall
    have hcl : cs.length = len * esz := by
      have := congrArg List.length e
      simp at this
      omega
    refine ⟨hcl, ?_⟩
    by_cases h0 : len * esz = 0
    · exact ⟨fun _ => undef, fun h => absurd h0 h, fun j hj => absurd hj (by omega)⟩
    · obtain ⟨b, bs, C, ds', e1, hC, hcs, hl', hc1, _⟩ := hs.cells hid (by omega)
      have hdd : ds' = ds := by
        apply List.ext_getElem?
        intro j
        rw [← hc1 j, hcell (by omega) j]
      subst hdd
      refine ⟨fun j => C.getD (bs + (off + j)) undef, fun _ => ?_, fun j hj => ?_⟩
      · cases hv with
        | ref _ _ _ _ _ _ hlt hn ha =>
          have hlenpos : 0 < len := by
            rcases Nat.eq_zero_or_pos len with h2 | h2
            · subst h2; simp at h0
            · exact h2
          obtain ⟨a, rfl, hal⟩ := ha (by omega)
          obtain ⟨b', bs', C', e2, rfl, hC', _⟩ := hal ⟨_, hid, halive⟩
          rw [e1] at e2
          simp only [Option.some.injEq, Prod.mk.injEq] at e2
          obtain ⟨rfl, rfl⟩ := e2
          refine ⟨b, bs + off, rfl, fun j hj => ?_⟩
          rw [hC.cell, Nat.add_assoc]
          have := hcs.1
          exact getD_some (by omega)
      · have h3 := hcs.2 (off + j) (by omega)
        refine ⟨h3.1, ?_⟩
        have h4 : ds'[off + j]'(by omega) = .p cs[j] := by
          have h5 : ((ds'.drop off).take (len * esz))[j]? = (cs.map Dv.p)[j]? := by rw [e]
          rw [List.getElem?_eq_getElem (by simp; omega), List.getElem?_eq_getElem (by simpa using hj)] at h5
          simpa using Option.some.inj h5
        have h6 := h3.2
        rw [h4] at h6
        exact h6.toP
  have mapP : ∀ (cs : List Pv) (off n : Nat), allP (((cs.map Dv.p).drop off).take n) = some ((cs.drop off).take n) := by
    intro cs off n
    rw [← List.map_drop, ← List.map_take, allP_map]
  unfold rdSlice at h
  split at h
  · rename_i ds hid
    split at h
    · rename_i hsz
      simp only [Option.some.injEq] at h
      exact key _ (ds.map .p) hid rfl hsz (by rw [mapP, h]) (fun _ j => by simp [Ob.cell?]) (by simp [Ob.size])
    · cases h
  · rename_i ds hid
    split at h
    · rename_i hsz
      simp only [Option.some.injEq] at h
      exact key _ (ds.map .p) hid rfl hsz (by rw [mapP, h]) (fun _ j => by simp [Ob.cell?]) (by simp [Ob.size])
    · cases h
  · rename_i ds hid
    split at h
    · rename_i hsz
      simp only [Option.some.injEq] at h
      exact key _ (ds.map .p) hid rfl hsz (by rw [mapP, h]) (fun _ j => by simp [Ob.cell?]) (by simp [Ob.size])
    · cases h
  · rename_i ds hid
    split at h
    · rename_i hsz; exact key _ ds hid rfl hsz h (fun _ j => rfl) rfl
    · cases h
  · rename_i ds hid
    split at h
    · rename_i hsz; exact key _ ds hid rfl hsz h (fun _ j => rfl) rfl
    · cases h
  · cases h
theorem range_cokP {n : Nat} {us : Nat → Value} {cs : List Pv} (hl : n = cs.length) (h : ∀ j (hj : j < cs.length), (us j).oneCell' = true ∧ RepP w M (us j) cs[j]) :
    COk w M H ρ ((List.range n).map us).toArray (cs.map .p) :=
  range_cok (by simpa using hl) (fun j hj => by
    simp only [List.length_map] at hj
    exact ⟨(h j hj).1, by simp only [List.getElem_map]; exact .p _ _ (h j hj).2⟩)
/-- How many elements, and their cells. -/
theorem src_ok (hs : Sim X w H ρ) {esz m : Nat} {y : Dv} {yv : Value} {new : List Pv} (hy : RepD w (Mut X H ρ) H ρ yv y) (h : srcCells P H esz y = some (m, new)) :
    (Builtin.lenOf yv).run P w = .ok m w ∧ new.length = m * esz ∧ ∀ k, k ≤ m → ∃ vs, (Builtin.firstCells esz k yv).run P w = .ok vs w ∧ COk w (Mut X H ρ) H ρ vs ((new.take (k * esz)).map .p) := by
  unfold srcCells at h
  split at h
  · rename_i full n cells
    split at h
    · rename_i hcl
      simp only [Option.some.injEq, Prod.mk.injEq] at h
      obtain ⟨rfl, rfl⟩ := h
      obtain ⟨A, cap, us, rfl, hn, hf, ha, h1, hr⟩ := lst_at hy.toP
      refine ⟨rfl, hcl, fun k hk => ?_⟩
      have hk' : k * esz ≤ n * esz := Nat.mul_le_mul_right _ hk
      refine ⟨_, firstCells_slice (us := us) (fun h0 => ?_), range_cokP (by simp; omega) (fun j hj => ?_)⟩
      · obtain ⟨b, o, rfl, hm, hc⟩ := ha (by intro e; subst e; simp at hcl; omega)
        exact ⟨b, o, rfl, fun j hj => hc j (by omega)⟩
      · have hj' : j < cells.length := by simp at hj; omega
        refine ⟨h1 j hj', ?_⟩
        have := hr j hj'
        simpa using this
    · cases h
  · rename_i id off n sz
    split at h
    · rename_i hsz
      subst hsz
      simp only [Option.map_eq_some_iff, Prod.mk.injEq] at h
      obtain ⟨cs, h, rfl, rfl⟩ := h
      obtain ⟨A, cap, rfl, _⟩ := ref_at hy
      obtain ⟨hcl, us, hu, hr⟩ := rdSlice_spec hs h hy
      refine ⟨rfl, hcl, fun k hk => ?_⟩
      have hk' : k * sz ≤ n * sz := Nat.mul_le_mul_right _ hk
      refine ⟨_, firstCells_slice (us := us) (fun h0 => ?_), range_cokP (by simp; omega) (fun j hj => ?_)⟩
      · obtain ⟨b, o, rfl, hc⟩ := hu (by omega)
        exact ⟨b, o, rfl, fun j hj => hc j (by omega)⟩
      · have hj' : j < cs.length := by simp at hj; omega
        have := hr j hj'
        simpa using this
    · cases h
  · rename_i s
    split at h
    · rename_i hsz
      subst hsz
      simp only [Option.some.injEq, Prod.mk.injEq] at h
      obtain ⟨rfl, rfl⟩ := h
      have := hy.toP.v_eq
      subst this
      refine ⟨rfl, by simp, fun k hk => ?_⟩
      refine ⟨((s.extract 0 k).data.map fun b => .int .u8 b.toNat), rfl, ?_⟩
      have hlen : ((s.extract 0 k).data.map fun b => Value.int .u8 b.toNat).size = k := by
        simp [ByteArray.extract, ByteArray.copySlice]
        have : s.data.size = s.size := rfl
        omega
      refine ⟨by rw [hlen]; simp; omega, fun j hj => ?_⟩
      have hj' : j < k := by simp at hj; omega
      have hjs : j < s.data.size := by have : s.data.size = s.size := rfl; omega
      have e1 : ((s.extract 0 k).data.map fun b => Value.int .u8 b.toNat).getD j undef = .int .u8 (s.data[j]).toNat := by
        rw [Array.getD_eq_getD_getElem?, Array.getElem?_map]
        have : (s.extract 0 k).data[j]? = some s.data[j] := by
          have e2 : (s.extract 0 k).data = s.data.extract 0 k := by
            rw [ByteArray.data_extract]
          rw [e2, Array.getElem?_extract, if_pos (by omega), Nat.zero_add, Array.getElem?_eq_getElem hjs]
        rw [this]; rfl
      rw [e1]
      refine ⟨rfl, ?_⟩
      have e3 : ((List.take (k * 1) (List.map (fun b => Pv.v (Value.int IntKind.u8 ↑(UInt8.toNat b))) s.data.toList)).map Dv.p)[j]'hj = .p (.v (.int .u8 (s.data[j]).toNat)) := by
        simp
      rw [e3]
      exact .p _ _ (.v _)
    · cases h
  · cases h
end
end Go.Ev
