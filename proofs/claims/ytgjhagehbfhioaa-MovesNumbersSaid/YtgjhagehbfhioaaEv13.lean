/- What comes back from a callee. -/
import Derived.Test.YtgjhagehbfhioaaEv12
set_option linter.unusedVariables false
set_option linter.unusedSimpArgs false
namespace Go.Ev
section
variable {P : Program} {X M : Nat → Prop} {w : World} {H : List Ob} {ρ : Pl}

theorem putBack_spec (g : Nat → Nat) : ∀ (acc : List Nat) (H h : List Ob), acc.Nodup → (∀ i ∈ acc, i < H.length) → acc.length ≤ h.length →
    (putBack g H acc h).length = H.length + (h.length - acc.length) ∧
    (∀ i, i < H.length → i ∉ acc → (putBack g H acc h)[i]? = H[i]?) ∧
    (∀ j, j < acc.length → (putBack g H acc h)[acc.getD j 0]? = (h[j]?).map (obMap g)) ∧
    (∀ k, (putBack g H acc h)[H.length + k]? = (h[acc.length + k]?).map (obMap g))
  | [], H, h, _, _, _ => by
    refine ⟨by simp [putBack], fun i hi _ => ?_, fun j hj => absurd hj (by simp), fun k => ?_⟩
    · simp only [putBack]; rw [List.getElem?_append_left hi]
    · simp only [putBack, List.length_nil, Nat.zero_add]
      rw [List.getElem?_append_right (by omega), List.getElem?_map]
      congr 2
      omega
  | i :: acc, H, [], _, _, hl => by simp at hl
  | i :: acc, H, o :: h, hn, hlt, hl => by
    simp only [putBack]
    have hn' := List.nodup_cons.1 hn
    obtain ⟨h1, h2, h3, h4⟩ := putBack_spec g acc (H.set i (obMap g o)) h hn'.2 (fun k hk => by simpa using hlt k (by simp [hk])) (by simpa using hl)
    simp only [List.length_set] at h1 h2 h4
    refine ⟨by rw [h1]; simp, fun k hk hka => ?_, fun j hj => ?_, fun k => ?_⟩
    · rw [h2 k hk (fun h => hka (by simp [h])), List.getElem?_set_ne (by intro e; exact hka (by simp [e]))]
    · cases j with
      | zero =>
        have hi := hlt i (by simp)
        simp only [List.getD_cons_zero]
        rw [h2 i hi hn'.1, List.getElem?_set_self hi]
        simp
      | succ j => simpa using h3 j (by simpa using hj)
    · rw [h4 k]
      congr 1
      simp only [List.length_cons]
      rw [show acc.length + 1 + k = (acc.length + k) + 1 from by omega, List.getElem?_cons_succ]
/-- The object that comes back as number j. -/
theorem putBack_back {acc : List Nat} {h : List Ob} (hn : acc.Nodup) (hlt : ∀ i ∈ acc, i < H.length) (hl : acc.length ≤ h.length) (g : Nat → Nat) (j : Nat) :
    (putBack g H acc h)[backD H.length acc j]? = (h[j]?).map (obMap g) := by
  obtain ⟨h1, h2, h3, h4⟩ := putBack_spec g acc H h hn hlt hl
  unfold backD
  split
  · rename_i hj; exact h3 j hj
  · rename_i hj
    rw [h4 (j - acc.length)]
    congr 2
    omega
theorem putBack_cases {acc : List Nat} {h : List Ob} (hn : acc.Nodup) (hlt : ∀ i ∈ acc, i < H.length) (hl : acc.length ≤ h.length) {g : Nat → Nat} {i : Nat} {x : Ob} (hi : (putBack g H acc h)[i]? = some x) :
    (i < H.length ∧ i ∉ acc ∧ H[i]? = some x) ∨ ∃ j o, h[j]? = some o ∧ i = backD H.length acc j ∧ x = obMap g o := by
  obtain ⟨h1, h2, h3, h4⟩ := putBack_spec g acc H h hn hlt hl
  by_cases hi1 : i < H.length
  · by_cases hia : i ∈ acc
    · right
      have hj := idx_lt hia
      have e := h3 (acc.idxOf i) hj
      rw [idx_get hia, hi] at e
      cases ho : h[acc.idxOf i]? with
      | none => rw [ho] at e; cases e
      | some o =>
        rw [ho] at e
        simp only [Option.map_some, Option.some.injEq] at e
        exact ⟨acc.idxOf i, o, ho, by simp [backD, hj, idx_get hia], e⟩
    · exact .inl ⟨hi1, hia, by rw [← h2 i hi1 hia]; exact hi⟩
  · right
    have e := h4 (i - H.length)
    rw [show H.length + (i - H.length) = i from by omega, hi] at e
    cases ho : h[acc.length + (i - H.length)]? with
    | none => rw [ho] at e; cases e
    | some o =>
      rw [ho] at e
      simp only [Option.map_some, Option.some.injEq] at e
      exact ⟨acc.length + (i - H.length), o, ho, by unfold backD; rw [if_neg (by omega)]; omega, e⟩
theorem roBack_spec : ∀ {hin h : List Ob}, roBack hin h = true → ∀ (j : Nat) (o : Ob), h[j]? = some o → isRo o = true → ∃ o' : Ob, hin[j]? = some o' ∧ isRo o' = true
  | o1 :: hin, o2 :: h, hr, 0, o, hj, ho => by
    simp only [roBack, Bool.and_eq_true, Bool.or_eq_true, Bool.not_eq_true'] at hr
    simp at hj
    subst hj
    rcases hr.1 with h1 | h1
    · rw [h1] at ho; cases ho
    · exact ⟨o1, by simp, h1⟩
  | o1 :: hin, o2 :: h, hr, j + 1, o, hj, ho => by
    simp only [roBack, Bool.and_eq_true] at hr
    obtain ⟨o', h1, h2⟩ := roBack_spec hr.2 j o (by simpa using hj) ho
    exact ⟨o', by simpa using h1, h2⟩
  | [], h, hr, j, o, hj, ho => by
    simp only [roBack, noRo, List.all_eq_true, Bool.not_eq_true'] at hr
    have := hr o (List.mem_of_getElem? hj)
    rw [this] at ho; cases ho
  | _ :: _, [], _, j, o, hj, _ => by simp at hj
theorem isRo_map (g : Nat → Nat) (o : Ob) : isRo (obMap g o) = isRo o := by cases o <;> rfl
theorem isRo_not_live {o : Ob} (h : isRo o = true) : o.live = false := by cases o <;> simp_all [isRo, Ob.live]

def lentX (X : Nat → Prop) (H : List Ob) (ρ : Pl) (acc : List Nat) (b : Nat) : Prop := X b ∨ (Live H ρ b ∧ ¬ Live (takeAlong H acc) (accPl ρ acc) b)
def backPl (ρ ρ' : Pl) (n k : Nat) : Pl := fun i => if i < n then ρ i else ρ' (k + (i - n))
theorem lentX_mut {acc refs : List Nat} (ha : AccOk H acc refs) (b : Nat) : Mut (lentX X H ρ acc) (takeAlong H acc) (accPl ρ acc) b ↔ Mut X H ρ b := by
  constructor
  · rintro ((h | h) | h)
    · exact .inl h
    · exact .inr h.1
    · exact .inr (take_live ha h)
  · rintro (h | h)
    · exact .inl (.inl h)
    · by_cases hl : Live (takeAlong H acc) (accPl ρ acc) b
      · exact .inr hl
      · exact .inl (.inr ⟨h, hl⟩)
theorem lent_sim {acc refs : List Nat} (hs : Sim X w H ρ) (ha : AccOk H acc refs) : Sim (lentX X H ρ acc) w (takeAlong H acc) (accPl ρ acc) :=
  hs.take ha (fun b hb => (lentX_mut ha b).1 (.inl hb)) (fun b hb hl => by
    rcases hb with hb | hb
    · exact (hs.live_blk (take_live ha hl)).1 hb
    · exact hb.2 hl)

/-- The objects that were lent are back. -/
theorem back_fin {acc refs : List Nat} {h : List Ob} {ρ' : Pl} {w' : World} (hs : Sim X w H ρ) (ha : AccOk H acc refs) (hl : acc.length ≤ h.length) (hro : roBack (takeAlong H acc) h = true)
    (he : Evo (takeAlong H acc).length w (takeAlong H acc) (accPl ρ acc) w' h ρ') (hs' : Sim (lentX X H ρ acc) w' h ρ') :
    Evo H.length w H ρ w' (putBack (backD H.length acc) H acc h) (backPl ρ ρ' H.length acc.length) ∧
    Sim X w' (putBack (backD H.length acc) H acc h) (backPl ρ ρ' H.length acc.length) ∧
    ∀ v d, RepD w' (Mut (lentX X H ρ acc) h ρ') h ρ' v d → RepD w' (Mut X (putBack (backD H.length acc) H acc h) (backPl ρ ρ' H.length acc.length)) (putBack (backD H.length acc) H acc h) (backPl ρ ρ' H.length acc.length) v (mapIds (backD H.length acc) d) := by
  have hn := ha.nodup
  have hlt := ha.lt
  obtain ⟨hlen, _, _, _⟩ := putBack_spec (backD H.length acc) acc H h hn hlt hl
  generalize hH2 : putBack (backD H.length acc) H acc h = H2 at *
  generalize hρ2 : backPl ρ ρ' H.length acc.length = ρ2 at *
  have hcases : ∀ {i x}, H2[i]? = some x → (i < H.length ∧ i ∉ acc ∧ H[i]? = some x) ∨ ∃ j o, h[j]? = some o ∧ i = backD H.length acc j ∧ x = obMap (backD H.length acc) o := by
    intro i x hi; rw [← hH2] at hi; exact putBack_cases hn hlt hl hi
  have hback : ∀ j, H2[backD H.length acc j]? = (h[j]?).map (obMap (backD H.length acc)) := by
    intro j; rw [← hH2]; exact putBack_back hn hlt hl _ j
  have hρlt : ∀ i, i < H.length → ρ2 i = ρ i := by intro i hi; rw [← hρ2]; simp [backPl, hi]
  -- what a number that comes back stands for
  have hρb : ∀ j, j < h.length → Alive h j → ρ2 (backD H.length acc j) = ρ' j := by
    intro j hj hal
    unfold backD
    split
    · rename_i hja
      rw [hρlt _ (hlt _ (acc_mem hja))]
      have h1 := (he.alive j (by rw [take_len]; exact hja) hal).2
      rw [h1]
      simp [accPl, hja]
    · rename_i hja
      rw [← hρ2]
      unfold backPl
      rw [if_neg (by omega)]
      congr 1
      omega
  have hal : ∀ j, Alive H2 (backD H.length acc j) → Alive h j := by
    rintro j ⟨x, hx, hxa⟩
    rw [hback] at hx
    cases ho : h[j]? with
    | none => rw [ho] at hx; cases hx
    | some o =>
      rw [ho] at hx
      simp only [Option.map_some, Option.some.injEq] at hx
      subst hx
      rw [obMap_alive] at hxa
      exact ⟨o, ho, hxa⟩
  have halive_of_live : ∀ {o : Ob}, o.live = true → o.alive = true := by intro o ho; cases o <;> simp_all [Ob.live, Ob.alive]
  have hlent : ∀ {i x b bs}, H[i]? = some x → x.live = true → ρ i = some (b, bs) → i ∉ acc → lentX X H ρ acc b := by
    intro i x b bs hi hx e hia
    refine .inr ⟨⟨i, x, bs, hi, hx, e⟩, fun hl' => ?_⟩
    obtain ⟨j, y, bs', hj, hy, e'⟩ := hl'
    obtain ⟨h1, rfl⟩ := take_get hj
    rw [obMap_live] at hy
    simp only [accPl, h1, if_true] at e'
    have := hs.inj _ _ _ _ b bs bs' hi (getD_get (hlt _ (acc_mem h1))) hx hy e e'
    exact hia (this ▸ acc_mem h1)
  have hlive : ∀ b, Live H2 ρ2 b → (∃ i x bs, H[i]? = some x ∧ x.live = true ∧ ρ i = some (b, bs) ∧ i ∉ acc) ∨ Live h ρ' b := by
    rintro b ⟨i, x, bs, hi, hx, e⟩
    rcases hcases hi with ⟨h1, h2, h3⟩ | ⟨j, o, h1, rfl, rfl⟩
    · rw [hρlt i h1] at e
      exact .inl ⟨i, x, bs, h3, hx, e, h2⟩
    · rw [obMap_live] at hx
      have hjl := (List.getElem?_eq_some_iff.1 h1).1
      rw [hρb j hjl ⟨o, h1, halive_of_live hx⟩] at e
      exact .inr ⟨j, o, bs, h1, hx, e⟩
  have hM : ∀ b, Mut X H2 ρ2 b → Mut (lentX X H ρ acc) h ρ' b := by
    rintro b (hb | hb)
    · exact .inl (.inl hb)
    · rcases hlive b hb with ⟨i, x, bs, hi, hx, e, hia⟩ | hb
      · exact .inl (hlent hi hx e hia)
      · exact .inr hb
  have hg : ∀ j, j < h.length → backD H.length acc j < H2.length ∧ (Alive H2 (backD H.length acc j) → Alive h j ∧ ρ2 (backD H.length acc j) = ρ' j) := by
    intro j hj
    refine ⟨?_, fun h1 => ⟨hal j h1, hρb j hj (hal j h1)⟩⟩
    have := hback j
    rw [List.getElem?_eq_getElem hj] at this
    exact (List.getElem?_eq_some_iff.1 this).1
  have hevo : Evo H.length w H ρ w' H2 ρ2 := by
    refine ⟨he.os, he.tape, he.output, he.size, fun b hb hnl => he.block b hb (fun h1 => hnl (take_live ha h1)), he.shape, fun b hb => ?_, Nat.le_refl _, by omega, fun i hi h1 => ?_⟩
    · rcases hlive b hb with ⟨i, x, bs, hi, hx, e, _⟩ | hb
      · exact .inl ⟨i, x, bs, hi, hx, e⟩
      · rcases he.live b hb with h1 | h1
        · exact .inl (take_live ha h1)
        · exact .inr h1
    · refine ⟨?_, hρlt i hi⟩
      obtain ⟨x, hx, hxa⟩ := h1
      rcases hcases hx with ⟨_, h2, h3⟩ | ⟨j, o, h2, h3, h4⟩
      · exact ⟨x, h3, hxa⟩
      · subst h4
        rw [obMap_alive] at hxa
        have hja : j < acc.length := by
          unfold backD at h3
          split at h3
          · assumption
          · omega
        have h5 := (he.alive j (by rw [take_len]; exact hja) ⟨o, h2, hxa⟩).1
        have h6 : i = acc.getD j 0 := by simpa [backD, hja] using h3
        have h7 : acc.idxOf i = j := by rw [h6]; exact get_idx hn hja
        have h8 := take_alive (ρ := ρ) ha (i := i) (h6 ▸ acc_mem hja) (by rw [h7]; exact h5)
        exact h8.1
  refine ⟨hevo, hs.step hevo (fun i x hi => ?_) (fun i j x y b bs bs' hi hj hx hy ei ej => ?_), fun v d hd => hd.map hM (fun j _ hj => hg j hj)⟩
  · rcases hcases hi with ⟨h1, h2, h3⟩ | ⟨j, o, h1, rfl, rfl⟩
    · refine .inl ⟨h3, fun b bs e hol => he.block b (hs.live_lt ⟨i, x, bs, h3, hol, e⟩) ?_⟩
      rcases hlent h3 hol e h2 with h4 | h4
      · exact absurd h4 (hs.live_blk ⟨i, x, bs, h3, hol, e⟩).1
      · exact h4.2
    · right
      have hjl := (List.getElem?_eq_some_iff.1 h1).1
      refine (hs'.obs j o h1).map hM (fun hoa => hρb j hjl ⟨o, h1, hoa⟩) (fun b bs e hol hnx hx => hnx (.inl hx)) (fun b bs e hor hnl hl2 => ?_) (fun k hk hkl => hg k hkl)
      -- what came back read-only was read-only before: nobody else may write its block
      rcases hlive b hl2 with ⟨i, x, bs2, hi2, hx2, e2, hia⟩ | hb
      · obtain ⟨o', ho', hro'⟩ := roBack_spec hro j o h1 hor
        obtain ⟨hja, rfl⟩ := take_get ho'
        rw [isRo_map] at hro'
        have hoa : o.alive = true := by cases o <;> simp_all [isRo, Ob.alive]
        have h5 := (he.alive j (by rw [take_len]; exact hja) ⟨o, h1, hoa⟩).2
        rw [h5] at e
        simp only [accPl, hja, if_true] at e
        have hob := hs.obs _ _ (getD_get (hlt _ (acc_mem hja)))
        generalize hy : H.getD (acc.getD j 0) .dead = y at *
        have hnl2 : ¬ Live H ρ b := by
          cases y with
          | ro ds => obtain ⟨b', bs', C, e', hx', _⟩ := hob; rw [e] at e'; simp only [Option.some.injEq, Prod.mk.injEq] at e'; obtain ⟨rfl, rfl⟩ := e'; exact hx'
          | roa cs =>
            rcases hob with ⟨_, e'⟩ | ⟨b', bs', C, e', hx', _⟩
            · rw [e] at e'; cases e'
            · rw [e] at e'; simp only [Option.some.injEq, Prod.mk.injEq] at e'; obtain ⟨rfl, rfl⟩ := e'; exact hx'
          | _ => simp [isRo] at hro'
        exact hnl2 ⟨i, x, bs2, hi2, hx2, e2⟩
      · exact hnl hb
  · rcases hcases hi with ⟨h1, h2, h3⟩ | ⟨k, o, h1, rfl, rfl⟩ <;> rcases hcases hj with ⟨h1', h2', h3'⟩ | ⟨k', o', h1', rfl, rfl⟩
    · rw [hρlt _ h1] at ei
      rw [hρlt _ h1'] at ej
      exact hs.inj i j x y b bs bs' h3 h3' hx hy ei ej
    · exfalso
      rw [hρlt _ h1] at ei
      rw [obMap_live] at hy
      have hkl := (List.getElem?_eq_some_iff.1 h1').1
      rw [hρb k' hkl ⟨o', h1', halive_of_live hy⟩] at ej
      exact (hs'.live_blk ⟨k', o', bs', h1', hy, ej⟩).1 (hlent h3 hx ei h2)
    · exfalso
      rw [hρlt _ h1'] at ej
      rw [obMap_live] at hx
      have hkl := (List.getElem?_eq_some_iff.1 h1).1
      rw [hρb k hkl ⟨o, h1, halive_of_live hx⟩] at ei
      exact (hs'.live_blk ⟨k, o, bs, h1, hx, ei⟩).1 (hlent h3' hy ej h2')
    · rw [obMap_live] at hx hy
      have hkl := (List.getElem?_eq_some_iff.1 h1).1
      have hkl' := (List.getElem?_eq_some_iff.1 h1').1
      rw [hρb k hkl ⟨o, h1, halive_of_live hx⟩] at ei
      rw [hρb k' hkl' ⟨o', h1', halive_of_live hy⟩] at ej
      rw [hs'.inj k k' o o' b bs bs' h1 h1' hx hy ei ej]
end
end Go.Ev
