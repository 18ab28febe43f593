/- Renumbering: what is taken along into a callee, and what comes back. -/
import Derived.Test.YtgjhagehbfhioaaEv11
set_option linter.unusedVariables false
set_option linter.unusedSimpArgs false
namespace Go.Ev
section
variable {P : Program} {X M : Nat → Prop} {w : World} {H : List Ob} {ρ : Pl}

theorem getD_el {α : Type} {l : List α} {i : Nat} {d : α} (h : i < l.length) : l.getD i d = l[i] := by simp [List.getD, h]
theorem mapIdss_length (g : Nat → Nat) : ∀ ds : List Dv, (mapIdss g ds).length = ds.length
  | [] => rfl
  | d :: ds => by simp [mapIdss, mapIdss_length g ds]
theorem mapIdss_get (g : Nat → Nat) : ∀ (ds : List Dv) (j : Nat) (h : j < (mapIdss g ds).length), (mapIdss g ds)[j] = mapIds g (ds[j]'(by rw [mapIdss_length] at h; exact h))
  | [], j, h => by simp [mapIdss] at h
  | d :: ds, 0, h => by simp [mapIdss]
  | d :: ds, j + 1, h => by
    simp only [mapIdss, List.getElem_cons_succ]
    exact mapIdss_get g ds j (by simpa [mapIdss] using h)
theorem refsOfs_mem {i : Nat} : ∀ (ds : List Dv) (j : Nat) (h : j < ds.length), i ∈ refsOf ds[j] → i ∈ refsOfs ds
  | [], j, h, _ => by simp at h
  | d :: ds, 0, h, hi => by simp only [refsOfs, List.mem_append]; exact .inl hi
  | d :: ds, j + 1, h, hi => by
    simp only [refsOfs, List.mem_append]
    exact .inr (refsOfs_mem ds j (by simpa using h) (by simpa using hi))
/-- The same value, its objects renumbered. -/
theorem RepD.map {M' : Nat → Prop} {H' : List Ob} {ρ' : Pl} {g : Nat → Nat} (hM : ∀ b, M' b → M b) {v : Value} {d : Dv} (h : RepD w M H ρ v d) :
    (∀ i ∈ refsOf d, i < H.length → g i < H'.length ∧ (Alive H' (g i) → Alive H i ∧ ρ' (g i) = ρ i)) → RepD w M' H' ρ' v (mapIds g d) := by
  induction h with
  | junk x => intro _; exact .junk x
  | p x y hp => intro _; exact .p x y (hp.sub hM)
  | ref id off len esz A cap hid hn ha =>
    intro hg
    obtain ⟨h1, h2⟩ := hg id (by simp [refsOf]) hid
    refine .ref (g id) off len esz A cap h1 hn (fun hc => ?_)
    obtain ⟨a, ea, hal⟩ := ha hc
    refine ⟨a, ea, fun hl => ?_⟩
    obtain ⟨h3, h4⟩ := h2 hl
    obtain ⟨b, bs, C, e, e2, hC, hsz⟩ := hal h3
    exact ⟨b, bs, C, h4.trans e, e2, hC, hsz⟩
  | ptr id off a hid ha =>
    intro hg
    obtain ⟨h1, h2⟩ := hg id (by simp [refsOf]) hid
    refine .ptr (g id) off a h1 (fun hl => ?_)
    obtain ⟨h3, h4⟩ := h2 hl
    obtain ⟨b, bs, e, e2⟩ := ha h3
    exact ⟨b, bs, h4.trans e, e2⟩
  | agg vs cs hl h1 hr ih =>
    intro hg
    refine .agg vs _ (by rw [mapIdss_length]; exact hl) (fun j hj => h1 j (by rw [mapIdss_length] at hj; exact hj)) (fun j hj => ?_)
    rw [mapIdss_get]
    exact ih j _ (fun i hi => hg i (refsOfs_mem cs j _ hi))
  | tup vs cs hl hr ih =>
    intro hg
    refine .tup vs _ (by rw [mapIdss_length]; exact hl) (fun j hj => ?_)
    rw [mapIdss_get]
    exact ih j _ (fun i hi => hg i (refsOfs_mem cs j _ hi))
  | fn f vs cs hl hr ih =>
    intro hg
    refine .fn f vs _ (by rw [mapIdss_length]; exact hl) (fun j hj => ?_)
    rw [mapIdss_get]
    exact ih j _ (fun i hi => hg i (refsOfs_mem cs j _ hi))
theorem TOk.map {M' : Nat → Prop} {H' : List Ob} {ρ' : Pl} {g : Nat → Nat} (hM : ∀ b, M' b → M b) {vs : Array Value} {ds : List Dv} (h : TOk w M H ρ vs ds)
    (hg : ∀ i ∈ refsOfs ds, i < H.length → g i < H'.length ∧ (Alive H' (g i) → Alive H i ∧ ρ' (g i) = ρ i)) : TOk w M' H' ρ' vs (mapIdss g ds) := by
  refine ⟨by rw [mapIdss_length]; exact h.1, fun j hj => ?_⟩
  rw [mapIdss_get]
  exact (h.2 j _).map hM (fun i hi => hg i (refsOfs_mem ds j _ hi))
theorem CellsD.map {M' : Nat → Prop} {H' : List Ob} {ρ' : Pl} {g : Nat → Nat} (hM : ∀ b, M' b → M b) {C : Array Value} {bs : Nat} {ds : List Dv} (h : CellsD w M H ρ C bs ds)
    (hg : ∀ i ∈ refsOfs ds, i < H.length → g i < H'.length ∧ (Alive H' (g i) → Alive H i ∧ ρ' (g i) = ρ i)) : CellsD w M' H' ρ' C bs (mapIdss g ds) := by
  refine ⟨by rw [mapIdss_length]; exact h.1, fun j hj => ?_⟩
  rw [mapIdss_get]
  have := h.2 j (by rw [mapIdss_length] at hj; exact hj)
  exact ⟨this.1, this.2.map hM (fun i hi => hg i (refsOfs_mem ds j _ hi))⟩
theorem CellsP.sub {M' : Nat → Prop} (hM : ∀ b, M' b → M b) {C : Array Value} {bs : Nat} {cs : List Pv} (h : CellsP w M C bs cs) : CellsP w M' C bs cs :=
  ⟨h.1, fun j hj => ⟨(h.2 j hj).1, (h.2 j hj).2.sub hM⟩⟩
theorem obMap_live (g : Nat → Nat) (o : Ob) : (obMap g o).live = o.live := by cases o <;> rfl
theorem obMap_alive (g : Nat → Nat) (o : Ob) : (obMap g o).alive = o.alive := by cases o <;> rfl
/-- An object, renumbered. -/
theorem ObOk.map {X' : Nat → Prop} {H' : List Ob} {ρ' : Pl} {g : Nat → Nat} {i k : Nat} {o : Ob} (h : ObOk w X H ρ i o) (hM : ∀ b, Mut X' H' ρ' b → Mut X H ρ b) (hρ : o.alive = true → ρ' k = ρ i)
    (hX : ∀ b bs, ρ i = some (b, bs) → o.live = true → ¬ X b → ¬ X' b) (hL : ∀ b bs, ρ i = some (b, bs) → isRo o = true → ¬ Live H ρ b → ¬ Live H' ρ' b)
    (hg : ∀ j ∈ obRefs o, j < H.length → g j < H'.length ∧ (Alive H' (g j) → Alive H j ∧ ρ' (g j) = ρ j)) : ObOk w X' H' ρ' k (obMap g o) := by
  cases o with
  | dead => trivial
  | var ds =>
    obtain ⟨b, bs, C, e, hx, hC, hcs⟩ := h
    exact ⟨b, bs, C, (hρ rfl).trans e, hX b bs e rfl hx, hC, hcs.map hM hg⟩
  | arr cs =>
    rcases h with ⟨h0, e⟩ | ⟨b, bs, C, e, hx, hC, hcs⟩
    · exact .inl ⟨h0, (hρ rfl).trans e⟩
    · exact .inr ⟨b, bs, C, (hρ rfl).trans e, hX b bs e rfl hx, hC, hcs.sub hM⟩
  | frz cs =>
    rcases h with ⟨h0, e⟩ | ⟨b, bs, C, e, hx, hC, hcs⟩
    · exact .inl ⟨h0, (hρ rfl).trans e⟩
    · exact .inr ⟨b, bs, C, (hρ rfl).trans e, fun hm => hx (hM b hm), hC, hcs.sub hM⟩
  | ro ds =>
    obtain ⟨b, bs, C, e, hx, hC, hcs⟩ := h
    exact ⟨b, bs, C, (hρ rfl).trans e, hL b bs e rfl hx, hC, hcs.map hM hg⟩
  | roa cs =>
    rcases h with ⟨h0, e⟩ | ⟨b, bs, C, e, hx, hC, hcs⟩
    · exact .inl ⟨h0, (hρ rfl).trans e⟩
    · exact .inr ⟨b, bs, C, (hρ rfl).trans e, hL b bs e rfl hx, hC, hcs.sub hM⟩
/-- The same object, to be read only. -/
theorem ObOk.toRo {i : Nat} {o : Ob} (h : ObOk w X H ρ i o) (hL : ∀ b, ¬ Live H ρ b) : ObOk w X H ρ i (roOf o) := by
  cases o with
  | var ds =>
    obtain ⟨b, bs, C, e, hx, hC, hcs⟩ := h
    exact ⟨b, bs, C, e, hL b, hC.blk, hcs⟩
  | arr cs =>
    rcases h with ⟨h0, e⟩ | ⟨b, bs, C, e, hx, hC, hcs⟩
    · exact .inl ⟨h0, e⟩
    · exact .inr ⟨b, bs, C, e, hL b, hC.blk, hcs⟩
  | _ => exact h

/-! ### Taking along -/
structure AccOk (H : List Ob) (acc refs : List Nat) : Prop where
  nodup : acc.Nodup
  refs : ∀ i ∈ refs, i ∈ acc
  lt : ∀ i ∈ acc, i < H.length
  obs : ∀ i ∈ acc, ∀ j ∈ obRefs (H.getD i .dead), j ∈ acc
theorem accOk_spec {acc refs : List Nat} (h : accOk H acc refs = true) : AccOk H acc refs := by
  unfold accOk at h
  simp only [Bool.and_eq_true, decide_eq_true_eq, List.all_eq_true, List.contains_iff_mem] at h
  exact ⟨h.1.1, h.1.2, fun i hi => (h.2 i hi).1, fun i hi j hj => (h.2 i hi).2 j hj⟩
theorem idx_lt {acc : List Nat} {i : Nat} (h : i ∈ acc) : acc.idxOf i < acc.length := List.idxOf_lt_length_iff.2 h
theorem idx_get {acc : List Nat} {i : Nat} (h : i ∈ acc) : acc.getD (acc.idxOf i) 0 = i := by
  have := List.getElem_idxOf (idx_lt h)
  rw [getD_el (idx_lt h)]
  exact this
theorem get_idx {acc : List Nat} (hn : acc.Nodup) {j : Nat} (h : j < acc.length) : acc.idxOf (acc.getD j 0) = j := by
  rw [getD_el h]
  exact List.Nodup.idxOf_getElem hn j h
def accPl (ρ : Pl) (acc : List Nat) : Pl := fun j => if j < acc.length then ρ (acc.getD j 0) else none
theorem take_get {acc : List Nat} {j : Nat} {x : Ob} (h : (takeAlong H acc)[j]? = some x) : j < acc.length ∧ x = obMap acc.idxOf (H.getD (acc.getD j 0) .dead) := by
  unfold takeAlong at h
  rw [List.getElem?_map] at h
  cases hj : acc[j]? with
  | none => rw [hj] at h; cases h
  | some i =>
    rw [hj] at h
    simp only [Option.map_some, Option.some.injEq] at h
    obtain ⟨h1, h2⟩ := List.getElem?_eq_some_iff.1 hj
    refine ⟨h1, ?_⟩
    rw [getD_el h1, h2]
    exact h.symm
theorem getD_get {i : Nat} (h : i < H.length) : H[i]? = some (H.getD i .dead) := by
  rw [getD_el h, List.getElem?_eq_getElem h]
theorem acc_mem {acc : List Nat} {j : Nat} (h : j < acc.length) : acc.getD j 0 ∈ acc := by
  rw [getD_el h]; exact List.getElem_mem h
theorem take_live {acc refs : List Nat} (ha : AccOk H acc refs) {b : Nat} (h : Live (takeAlong H acc) (accPl ρ acc) b) : Live H ρ b := by
  obtain ⟨j, x, bs, hj, hx, e⟩ := h
  obtain ⟨h1, rfl⟩ := take_get hj
  rw [obMap_live] at hx
  simp only [accPl, h1, if_true] at e
  exact ⟨_, _, bs, getD_get (ha.lt _ (acc_mem h1)), hx, e⟩
theorem take_alive {acc refs : List Nat} (ha : AccOk H acc refs) {i : Nat} (hi : i ∈ acc) (h : Alive (takeAlong H acc) (acc.idxOf i)) : Alive H i ∧ accPl ρ acc (acc.idxOf i) = ρ i := by
  obtain ⟨x, hx, hxa⟩ := h
  obtain ⟨h1, rfl⟩ := take_get hx
  rw [obMap_alive, idx_get hi] at hxa
  exact ⟨⟨_, getD_get (ha.lt i hi), hxa⟩, by simp only [accPl, h1, if_true, idx_get hi]⟩
theorem take_len (H : List Ob) (acc : List Nat) : (takeAlong H acc).length = acc.length := by simp [takeAlong]
/-- Some objects, renumbered, under a set of foreign blocks. -/
theorem Sim.take {X' : Nat → Prop} {acc refs : List Nat} (hs : Sim X w H ρ) (ha : AccOk H acc refs) (hX : ∀ b, X' b → Mut X H ρ b) (hX2 : ∀ b, X' b → ¬ Live (takeAlong H acc) (accPl ρ acc) b) :
    Sim X' w (takeAlong H acc) (accPl ρ acc) where
  xlt b hb := hs.mut_lt (hX b hb)
  obs j x hj := by
    obtain ⟨h1, rfl⟩ := take_get hj
    have hi := acc_mem h1
    have hlt := ha.lt _ hi
    have e0 := getD_get hlt
    refine (hs.obs _ _ e0).map (fun b hb => ?_) (fun _ => by simp only [accPl, h1, if_true]) (fun b bs e hl _ hx' => ?_) (fun b bs e _ hn hl' => hn (take_live ha hl')) (fun k hk hlk => ?_)
    · rcases hb with hb | hb
      · exact hX b hb
      · exact .inr (take_live ha hb)
    · refine hX2 b hx' ⟨j, _, bs, hj, by rw [obMap_live]; exact hl, ?_⟩
      simp only [accPl, h1, if_true]; exact e
    · have hka := ha.obs _ hi k hk
      exact ⟨by rw [take_len]; exact idx_lt hka, fun hal => take_alive ha hka hal⟩
  inj i j x y b bs bs' hi hj hx hy ei ej := by
    obtain ⟨h1, rfl⟩ := take_get hi
    obtain ⟨h2, rfl⟩ := take_get hj
    rw [obMap_live] at hx hy
    simp only [accPl, h1, h2, if_true] at ei ej
    have := hs.inj _ _ _ _ b bs bs' (getD_get (ha.lt _ (acc_mem h1))) (getD_get (ha.lt _ (acc_mem h2))) hx hy ei ej
    have h3 := congrArg acc.idxOf this
    rwa [get_idx ha.nodup h1, get_idx ha.nodup h2] at h3
theorem TOk.take {X' : Nat → Prop} {acc : List Nat} {ds : List Dv} (ha : AccOk H acc (refsOfs ds)) (hM : ∀ b, Mut X' (takeAlong H acc) (accPl ρ acc) b → Mut X H ρ b) {vs : Array Value} (h : TOk w (Mut X H ρ) H ρ vs ds) :
    TOk w (Mut X' (takeAlong H acc) (accPl ρ acc)) (takeAlong H acc) (accPl ρ acc) vs (mapIdss acc.idxOf ds) :=
  h.map hM (fun i hi hlt => ⟨by rw [take_len]; exact idx_lt (ha.refs i hi), fun hal => take_alive ha (ha.refs i hi) hal⟩)
end
end Go.Ev
