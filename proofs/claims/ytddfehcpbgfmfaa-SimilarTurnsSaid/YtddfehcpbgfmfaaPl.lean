/- A part of the proof: Pl. No conditions of its own. -/
import Derived.Test.YtddfehcpbgfmfaaT
import Derived.Test.YtddfehcpbgfmfaaE3
set_option linter.unusedVariables false
namespace Xn
open Go Go.Ev
structure Forest (F : List Row) (pos : Nat) (par : Int) (R : List Int) : Prop where
  roots : R.Pairwise (· < ·)
  inside : ∀ j ∈ R, (pos : Int) ≤ j ∧ j < (pos : Int) + F.length
  up : ∀ (i : Nat) (row : Row), F[i]? = some row → (((pos + i : Nat) : Int) ∈ R ∧ row.Parent = par) ∨ (((pos + i : Nat) : Int) ∉ R ∧ ∃ k, k < i ∧ row.Parent = ((pos + k : Nat) : Int))
  asc : ∀ (i : Nat) (row : Row), F[i]? = some row → row.Kids.Pairwise (· < ·)
  kids : ∀ (i : Nat) (row : Row), F[i]? = some row → ∀ j : Int, j ∈ row.Kids ↔ ∃ (k : Nat) (rowk : Row), F[k]? = some rowk ∧ j = ((pos + k : Nat) : Int) ∧ rowk.Parent = ((pos + i : Nat) : Int)
theorem Forest.nil (pos : Nat) (par : Int) : Forest [] pos par [] where
  roots := .nil
  inside := fun j h => by cases h
  up := fun i row h => by simp at h
  asc := fun i row h => by simp at h
  kids := fun i row h => by simp at h
theorem Forest.append {F G : List Row} {pos : Nat} {par : Int} {R S : List Int} (hf : Forest F pos par R) (hg : Forest G (pos + F.length) par S) (hp : par < pos) : Forest (F ++ G) pos par (R ++ S) where
  roots := by
    refine List.pairwise_append.2 ⟨hf.roots, hg.roots, fun a ha b hb => ?_⟩
    have := hf.inside a ha
    have := hg.inside b hb
    omega
  inside := fun j h => by
    rw [List.length_append]
    rcases List.mem_append.1 h with h | h
    · have := hf.inside j h; omega
    · have := hg.inside j h; omega
  up := fun i row h => by
    by_cases hi : i < F.length
    · rw [List.getElem?_append_left hi] at h
      rcases hf.up i row h with ⟨h1, h2⟩ | ⟨h1, h2⟩
      · exact .inl ⟨List.mem_append_left _ h1, h2⟩
      · refine .inr ⟨fun hm => ?_, h2⟩
        rcases List.mem_append.1 hm with hm | hm
        · exact h1 hm
        · have := hg.inside _ hm; omega
    · rw [List.getElem?_append_right (by omega)] at h
      have e : pos + F.length + (i - F.length) = pos + i := by omega
      rcases hg.up _ row h with ⟨h1, h2⟩ | ⟨h1, k, hk, h2⟩
      · rw [e] at h1
        exact .inl ⟨List.mem_append_right _ h1, h2⟩
      · rw [e] at h1
        refine .inr ⟨fun hm => ?_, F.length + k, by omega, by rw [h2]; congr 1; omega⟩
        rcases List.mem_append.1 hm with hm | hm
        · have := hf.inside _ hm; omega
        · exact h1 hm
  asc := fun i row h => by
    by_cases hi : i < F.length
    · rw [List.getElem?_append_left hi] at h; exact hf.asc i row h
    · rw [List.getElem?_append_right (by omega)] at h; exact hg.asc _ row h
  kids := fun i row h j => by
    by_cases hi : i < F.length
    · rw [List.getElem?_append_left hi] at h
      rw [hf.kids i row h]
      constructor
      · rintro ⟨k, rk, h1, h2, h3⟩
        exact ⟨k, rk, by rw [List.getElem?_append_left (List.getElem?_eq_some_iff.1 h1).1]; exact h1, h2, h3⟩
      · rintro ⟨k, rk, h1, h2, h3⟩
        by_cases hk : k < F.length
        · rw [List.getElem?_append_left hk] at h1; exact ⟨k, rk, h1, h2, h3⟩
        · rw [List.getElem?_append_right (by omega)] at h1
          rcases hg.up _ rk h1 with ⟨_, h4⟩ | ⟨_, q, _, h4⟩
          · omega
          · omega
    · rw [List.getElem?_append_right (by omega)] at h
      have e : pos + F.length + (i - F.length) = pos + i := by omega
      rw [hg.kids _ row h, e]
      constructor
      · rintro ⟨k, rk, h1, h2, h3⟩
        exact ⟨F.length + k, rk, by rw [List.getElem?_append_right (by omega), Nat.add_sub_cancel_left]; exact h1, by rw [h2]; congr 1; omega, h3⟩
      · rintro ⟨k, rk, h1, h2, h3⟩
        by_cases hk : k < F.length
        · rw [List.getElem?_append_left hk] at h1
          rcases hf.up _ rk h1 with ⟨_, h4⟩ | ⟨_, q, _, h4⟩
          · omega
          · omega
        · rw [List.getElem?_append_right (by omega)] at h1
          exact ⟨k - F.length, rk, h1, by rw [h2]; congr 1; omega, h3⟩
theorem Forest.root {F : List Row} {pos : Nat} {par : Int} {row : Row} (hf : Forest F (pos + 1) pos row.Kids) (hp : row.Parent = par) (hpar : par < pos) : Forest (row :: F) pos par [(pos : Int)] where
  roots := List.pairwise_singleton _ _
  inside := fun j h => by
    obtain rfl : j = pos := by simpa using h
    simp only [List.length_cons]; omega
  up := fun i r h => by
    cases i with
    | zero =>
      obtain rfl : row = r := by simpa using h
      exact .inl ⟨by simp, hp⟩
    | succ i =>
      have h' : F[i]? = some r := by simpa using h
      refine .inr ⟨fun hm => ?_, ?_⟩
      · have : ((pos + (i + 1) : Nat) : Int) = (pos : Int) := by simpa using hm
        omega
      · rcases hf.up i r h' with ⟨h1, h2⟩ | ⟨h1, k, hk, h2⟩
        · exact ⟨0, by omega, by rw [h2]; rfl⟩
        · exact ⟨k + 1, by omega, by rw [h2]; congr 1; omega⟩
  asc := fun i r h => by
    cases i with
    | zero =>
      obtain rfl : row = r := by simpa using h
      exact hf.roots
    | succ i => exact hf.asc i r (by simpa using h)
  kids := fun i r h j => by
    cases i with
    | zero =>
      obtain rfl : row = r := by simpa using h
      constructor
      · intro hj
        have h1 := hf.inside j hj
        obtain ⟨k, hk⟩ : ∃ k : Nat, j = ((pos + 1 + k : Nat) : Int) := ⟨(j - (pos + 1 : Nat)).toNat, by omega⟩
        have hkl : k < F.length := by omega
        refine ⟨k + 1, F[k], by simp, by rw [hk]; congr 1; omega, ?_⟩
        rcases hf.up k F[k] (List.getElem?_eq_getElem hkl) with ⟨_, h3⟩ | ⟨h3, _⟩
        · rw [h3]; rfl
        · rw [← hk] at h3; exact absurd hj h3
      · rintro ⟨k, rk, h1, h2, h3⟩
        cases k with
        | zero =>
          obtain rfl : row = rk := by simpa using h1
          rw [hp] at h3; simp only [Nat.add_zero] at h3; omega
        | succ k =>
          rcases hf.up k rk (by simpa using h1) with ⟨h4, _⟩ | ⟨_, q, _, h4⟩
          · rw [h2]; rw [show pos + (k + 1) = pos + 1 + k by omega]; exact h4
          · simp only [Nat.add_zero] at h3; omega
    | succ i =>
      have h' : F[i]? = some r := by simpa using h
      rw [hf.kids i r h']
      have e : pos + 1 + i = pos + (i + 1) := by omega
      rw [e]
      constructor
      · rintro ⟨k, rk, h1, h2, h3⟩
        exact ⟨k + 1, rk, by simpa using h1, by rw [h2]; congr 1; omega, h3⟩
      · rintro ⟨k, rk, h1, h2, h3⟩
        cases k with
        | zero =>
          obtain rfl : row = rk := by simpa using h1
          rw [hp] at h3; omega
        | succ k => exact ⟨k, rk, by simpa using h1, by rw [h2]; congr 1; omega, h3⟩
structure Tbl (x : List Row) : Prop where
  pos : 0 < x.length
  root : ∀ r, x[0]? = some r → r.Parent = -1
  up : ∀ (i : Nat) r, x[i]? = some r → 0 < i → ∃ k : Nat, k < i ∧ r.Parent = (k : Int)
  asc : ∀ (i : Nat) r, x[i]? = some r → r.Kids.Pairwise (· < ·)
  kids : ∀ (i : Nat) r, x[i]? = some r → ∀ j : Int, j ∈ r.Kids ↔ ∃ (k : Nat) (rk : Row), x[k]? = some rk ∧ j = (k : Int) ∧ rk.Parent = (i : Int)
theorem Tbl.lt {x : List Row} (h : Tbl x) {i : Nat} {r : Row} (hr : x[i]? = some r) {j : Int} (hj : j ∈ r.Kids) : (i : Int) < j ∧ j < x.length := by
  obtain ⟨k, rk, h1, h2, h3⟩ := (h.kids i r hr j).1 hj
  have hk := (List.getElem?_eq_some_iff.1 h1).1
  have h0 : 0 < k := by
    rcases Nat.eq_zero_or_pos k with e | e
    · subst e
      have := h.root rk h1
      omega
    · exact e
  obtain ⟨q, hq, hq2⟩ := h.up k rk h1 h0
  omega
end Xn

set_option linter.unusedVariables false
namespace Xn
open Go Go.Ev
theorem fits_eq (n : Node) (a b : Int) (h : -2 ^ 40 ≤ a ∧ a < 2 ^ 40 ∧ -2 ^ 40 ≤ b ∧ b < 2 ^ 40) : R06_Fits n a b = some (decide ((size n : Int) ≤ a ∧ (height n : Int) ≤ b)) := by
  unfold R06_Fits R06_leftS
  rw [if_pos h, Option.bind_some]
  congr 1
  unfold leftV
  by_cases hc : (size n : Int) ≤ a ∧ (height n : Int) ≤ b
  · rw [if_pos hc, decide_eq_decide]; constructor
    · intro _; exact hc
    · intro _; omega
  · rw [if_neg hc, decide_eq_decide]; constructor
    · intro h'; omega
    · intro h'; exact absurd h' hc
mutual
theorem wf_gaps : ∀ (n : Node), Wf_Node n → gapsB n = true
  | ⟨k, t, g, ks⟩, h => by
    cases h with
    | mk _ _ _ _ h1 h2 h3 h4 h5 =>
      rw [gapsB, Bool.and_eq_true, decide_eq_true_eq]
      have := h3.1.2
      have hr : reachBytes = 140737488351232 := rfl
      exact ⟨by omega, wf_gapss ks h5⟩
theorem wf_gapss : ∀ (l : List Node), (∀ x ∈ l, Wf_Node x) → gapsBs l = true
  | [], _ => rfl
  | n :: ks, h => by
    rw [gapsBs, Bool.and_eq_true]
    exact ⟨wf_gaps n (h n List.mem_cons_self), wf_gapss ks fun x hx => h x (List.mem_cons_of_mem _ hx)⟩
end
def par (x : List Row) (i : Int) : Int := ((rd x i).map Row.Parent).getD (-1)
end Xn

set_option linter.unusedVariables false
namespace Xn
open Go Go.Ev
mutual
theorem tab_seg : ∀ (n : Node) (pos : Nat) (p : Int) (j : Nat) (v : Node), (subs n)[j]? = some v → p < pos → j + size v ≤ size n ∧ ∃ p' : Int, p' < ((pos + j : Nat) : Int) ∧ ∀ t, t < size v → (tab n pos p)[j + t]? = (tab v (pos + j) p')[t]? ∧ (subs n)[j + t]? = (subs v)[t]?
  | ⟨k, t, g, ks⟩, pos, p, 0, v, h, hp => by
    rw [subs, List.getElem?_cons_zero] at h
    cases h
    exact ⟨by omega, p, hp, fun t _ => by rw [Nat.zero_add]; exact ⟨rfl, rfl⟩⟩
  | ⟨k, t, g, ks⟩, pos, p, j + 1, v, h, hp => by
    rw [subs, List.getElem?_cons_succ] at h
    obtain ⟨h1, p', h2, h3⟩ := tabs_seg ks (pos + 1) pos j v h (by omega)
    refine ⟨by simp only [size]; omega, p', by omega, fun t ht => ?_⟩
    obtain ⟨h4, h5⟩ := h3 t ht
    rw [tab, subs, show j + 1 + t = (j + t) + 1 by omega, List.getElem?_cons_succ, List.getElem?_cons_succ, h4, h5, show pos + (j + 1) = pos + 1 + j by omega]
    exact ⟨rfl, rfl⟩
theorem tabs_seg : ∀ (l : List Node) (pos : Nat) (p : Int) (j : Nat) (v : Node), (subss l)[j]? = some v → p < pos → j + size v ≤ sizes l ∧ ∃ p' : Int, p' < ((pos + j : Nat) : Int) ∧ ∀ t, t < size v → (tabs l pos p)[j + t]? = (tab v (pos + j) p')[t]? ∧ (subss l)[j + t]? = (subs v)[t]?
  | [], pos, p, j, v, h, hp => by simp [subss] at h
  | n :: ks, pos, p, j, v, h, hp => by
    rw [subss] at h
    by_cases hj : j < size n
    · rw [List.getElem?_append_left (by rw [subs_len]; exact hj)] at h
      obtain ⟨h1, p', h2, h3⟩ := tab_seg n pos p j v h hp
      refine ⟨by simp only [sizes]; omega, p', h2, fun t ht => ?_⟩
      rw [tabs, subss, List.getElem?_append_left (by rw [tab_len]; omega), List.getElem?_append_left (by rw [subs_len]; omega)]
      exact h3 t ht
    · rw [List.getElem?_append_right (by rw [subs_len]; omega), subs_len] at h
      obtain ⟨h1, p', h2, h3⟩ := tabs_seg ks (pos + size n) p (j - size n) v h (by omega)
      refine ⟨by simp only [sizes]; omega, p', by omega, fun t ht => ?_⟩
      obtain ⟨h4, h5⟩ := h3 t ht
      rw [tabs, subss, List.getElem?_append_right (by rw [tab_len]; omega), List.getElem?_append_right (by rw [subs_len]; omega), tab_len, subs_len, show j + t - size n = j - size n + t by omega, h4, h5, show pos + size n + (j - size n) = pos + j by omega]
      exact ⟨rfl, rfl⟩
end
def szAt (n : Node) (i : Int) : Int := if 0 ≤ i then (match (subs n)[i.toNat]? with | some v => (size v : Int) | none => 0) else 0
theorem szAt_some {n v : Node} {i : Nat} (h : (subs n)[i]? = some v) : szAt n (i : Int) = size v := by
  unfold szAt
  rw [if_pos (by omega), Int.toNat_natCast, h]
theorem szAt_lt {n : Node} {i : Int} (h0 : 0 ≤ i) (h1 : i < size n) : 1 ≤ szAt n i ∧ i + szAt n i ≤ size n := by
  obtain ⟨v, hv⟩ : ∃ v, (subs n)[i.toNat]? = some v := ⟨_, List.getElem?_eq_getElem (by rw [subs_len]; omega)⟩
  have e := szAt_some hv
  rw [show ((i.toNat : Nat) : Int) = i by omega] at e
  have h2 := (tab_seg n 0 (-1) i.toNat v hv (by omega)).1
  have h3 := size_pos v
  omega
def Below (n : Node) (z k : Int) : Prop := k < z ∧ z < k + szAt n k
instance (n : Node) (z k : Int) : Decidable (Below n z k) := by unfold Below; infer_instance
mutual
theorem sub_gaps : ∀ (n : Node) (j : Nat) (v : Node), gapsB n = true → (subs n)[j]? = some v → gapsB v = true
  | ⟨k, t, g, ks⟩, 0, v, hg, h => by
    rw [subs, List.getElem?_cons_zero] at h
    cases h; exact hg
  | ⟨k, t, g, ks⟩, j + 1, v, hg, h => by
    rw [subs, List.getElem?_cons_succ] at h
    rw [gapsB, Bool.and_eq_true] at hg
    exact subs_gaps ks j v hg.2 h
theorem subs_gaps : ∀ (l : List Node) (j : Nat) (v : Node), gapsBs l = true → (subss l)[j]? = some v → gapsB v = true
  | [], j, v, hg, h => by simp [subss] at h
  | n :: ks, j, v, hg, h => by
    rw [subss] at h
    rw [gapsBs, Bool.and_eq_true] at hg
    by_cases hj : j < size n
    · rw [List.getElem?_append_left (by rw [subs_len]; exact hj)] at h
      exact sub_gaps n j v hg.1 h
    · rw [List.getElem?_append_right (by rw [subs_len]; omega), subs_len] at h
      exact subs_gaps ks (j - size n) v hg.2 h
end
theorem tree_at_eq {n : Node} (hn : size n < 2 ^ 29) (hg : gapsB n = true) (i : Int) (hi : i < 2 ^ 63) : tree_At n i = some (match (if 0 ≤ i then (subs n)[i.toNat]? else none) with | some v => (v, true) | none => (node0, false)) := by
  unfold tree_At
  by_cases h0 : i < 0
  · rw [if_pos h0, if_neg (by omega)]; rfl
  · rw [if_neg h0, if_pos (by omega)]
    unfold tree_locateS
    rw [if_pos ⟨by omega, by omega, hi⟩, Option.bind_some]
    cases hs : (subs n)[i.toNat]? with
    | none => rfl
    | some v =>
      simp only [if_true]
      unfold tree_cloneS
      have h1 := (tab_seg n 0 (-1) i.toNat v hs (by omega)).1
      rw [if_pos ⟨by omega, sub_gaps n i.toNat v hg hs⟩]
      rfl
end Xn

set_option linter.unusedVariables false
namespace Xn
open Go Go.Ev
def cntB (a b : Node) (m : List Pair) (i k : Int) : Nat := m.countP fun r => decide (Below a r.Old i ∧ Below b r.New k)
theorem cntB_le (a b : Node) (m : List Pair) (i k : Int) : cntB a b m i k ≤ m.length := List.countP_le_length
theorem below_eq (z i s : Int) (h : -2 ^ 62 ≤ i + s ∧ i + s < 2 ^ 62) : similar_below z i s = some (decide (i < z ∧ z < i + s)) := by
  unfold similar_below
  by_cases h1 : i < z
  · rw [if_pos h1, w64_id (by omega) (by omega)]; simp [h1]
  · rw [if_neg h1]; simp [h1]
def scoreV (a b : Node) (m : List Pair) (i k : Int) : Int × Int := if (0 ≤ i ∧ i < size a) ∧ (0 ≤ k ∧ k < size b) then ((cntB a b m i k : Int), szAt a i + szAt b k - 2) else (0, 0)
theorem score_eq {a b : Node} {m : List Pair} {i k : Int} (ha : size a < 2 ^ 29) (hb : size b < 2 ^ 29) (hga : gapsB a = true) (hgb : gapsB b = true) (hm : m.length < 2 ^ 60) (hi : i < 2 ^ 63) (hk : k < 2 ^ 63) :
    similar_Score a b m i k = some (scoreV a b m i k) := by
  unfold similar_Score scoreV
  rw [tree_at_eq ha hga i hi, Option.bind_some, tree_at_eq hb hgb k hk, Option.bind_some]
  by_cases hi0 : 0 ≤ i ∧ i < size a
  case neg =>
    have : (if 0 ≤ i then (subs a)[i.toNat]? else none) = none := by
      by_cases h0 : 0 ≤ i
      · rw [if_pos h0, List.getElem?_eq_none (by rw [subs_len]; omega)]
      · rw [if_neg h0]
    rw [this]
    simp only [Bool.false_eq_true, if_false]
    rw [if_neg (fun h => hi0 h.1)]
  obtain ⟨v, hv⟩ : ∃ v, (subs a)[i.toNat]? = some v := ⟨_, List.getElem?_eq_getElem (by rw [subs_len]; omega)⟩
  have ev := szAt_some hv
  rw [show ((i.toNat : Nat) : Int) = i by omega] at ev
  rw [if_pos hi0.1, hv]
  simp only [if_true]
  by_cases hk0 : 0 ≤ k ∧ k < size b
  case neg =>
    have : (if 0 ≤ k then (subs b)[k.toNat]? else none) = none := by
      by_cases h0 : 0 ≤ k
      · rw [if_pos h0, List.getElem?_eq_none (by rw [subs_len]; omega)]
      · rw [if_neg h0]
    rw [this]
    simp only [Bool.false_eq_true, if_false]
    rw [if_neg (fun h => hk0 h.2)]
  obtain ⟨u, hu⟩ : ∃ u, (subs b)[k.toNat]? = some u := ⟨_, List.getElem?_eq_getElem (by rw [subs_len]; omega)⟩
  have eu := szAt_some hu
  rw [show ((k.toNat : Nat) : Int) = k by omega] at eu
  have hsi := szAt_lt hi0.1 hi0.2
  have hsk := szAt_lt hk0.1 hk0.2
  rw [if_pos hk0.1, hu]
  simp only [if_true]
  rw [if_pos (show (0 ≤ i ∧ i < ↑(size a)) ∧ (0 ≤ k ∧ k < ↑(size b)) from ⟨hi0, hk0⟩)]
  unfold tree_SizeS
  rw [if_pos (by omega), Option.bind_some, if_pos (by omega), Option.bind_some, ← ev, ← eu]
  have h1 := iter_to (step := similar_Score_L0 i k (szAt a i) (szAt b k) m (m.length : Int)) (fun n => ((cntB a b (m.take n) i k : Int), (n : Int))) m.length (fun n hn => by
    have hle := cntB_le a b (m.take n) i k
    rw [List.length_take] at hle
    simp only [similar_Score_L0, rd_nat, List.getElem?_eq_getElem hn, Option.bind_some]
    rw [if_pos (by omega), below_eq _ _ _ (by omega), Option.bind_some]
    have e : (cntB a b (m.take (n + 1)) i k : Int) = cntB a b (m.take n) i k + if (Below a m[n].Old i ∧ Below b m[n].New k) then 1 else 0 := by
      unfold cntB
      rw [List.take_succ_eq_append_getElem hn, List.countP_append]
      by_cases h : Below a m[n].Old i ∧ Below b m[n].New k <;> simp [h]
    rw [e]
    by_cases c1 : Below a m[n].Old i
    · rw [if_pos (decide_eq_true (show i < m[n].Old ∧ m[n].Old < i + szAt a i from c1)), below_eq _ _ _ (by omega), Option.bind_some]
      by_cases c2 : Below b m[n].New k
      · rw [if_pos (decide_eq_true (show k < m[n].New ∧ m[n].New < k + szAt b k from c2)), if_pos ⟨c1, c2⟩, w64_succ (by omega), w64_succ (by omega)]
        rfl
      · rw [if_neg (by simpa using fun h1 h2 => c2 ⟨h1, h2⟩), if_neg (fun h => c2 h.2), w64_succ (by omega), Int.add_zero]
    · rw [if_neg (by simpa using fun h1 h2 => c1 ⟨h1, h2⟩), if_neg (fun h => c1 h.1), w64_succ (by omega), Int.add_zero])
  have h2 : iter (similar_Score_L0 i k (szAt a i) (szAt b k) m (m.length : Int)) ((0 : Int), (0 : Int)) = _ := h1
  rw [h2, iter_jmp (n := 0) (s' := ((cntB a b m i k : Int), (m.length : Int)))]
  · rw [Option.bind_some]
    simp only
    rw [w64_id (x := szAt a i + szAt b k) (by omega) (by omega), w64_id (by omega) (by omega)]
  · simp only [similar_Score_L0, List.take_length]
    rw [if_neg (by omega)]
theorem small22_eq (n : Node) : law22_small n = some (decide ((size n : Int) ≤ 40 ∧ (height n : Int) ≤ 30)) := by
  unfold law22_small
  rw [fits_eq n 40 30 (by omega)]
  rfl
theorem int_hi {x : Int} (h : wfInt .i64 x) : -2 ^ 63 ≤ x ∧ x < 2 ^ 63 := by
  unfold wfInt Lit.wf at h
  rw [Bool.and_eq_true, decide_eq_true_eq, decide_eq_true_eq] at h
  have e1 : IntKind.min .i64 = -2 ^ 63 := by decide
  have e2 : IntKind.max .i64 = 2 ^ 63 - 1 := by decide
  rw [e1, e2] at h
  omega
end Xn

set_option linter.unusedVariables false
namespace Xn
open Go Go.Ev
def turnP (p : Pair) : Pair := ⟨p.New, p.Old⟩
theorem cnt_swap (a b : Node) (m : List Pair) (i k : Int) : cntB b a (m.map turnP) k i = cntB a b m i k := by
  unfold cntB
  rw [List.countP_map]
  congr 1
  funext r
  exact decide_eq_decide.2 and_comm
theorem score_swap (a b : Node) (m : List Pair) (i k : Int) : scoreV b a (m.map turnP) k i = scoreV a b m i k := by
  unfold scoreV
  rw [cnt_swap]
  by_cases h : (0 ≤ i ∧ i < size a) ∧ (0 ≤ k ∧ k < size b)
  · rw [if_pos h, if_pos ⟨h.2, h.1⟩]; congr 1; omega
  · rw [if_neg h, if_neg fun e => h ⟨e.2, e.1⟩]
theorem plain_turns (a : Node) (wa : Wf_Node a) (b : Node) (wb : Wf_Node b) (m : List Pair) (wm : WfL 16 Wf_Pair m) (i : Int) (wi : wfInt .i64 i) (k : Int) (wk : wfInt .i64 k) : law22_SimilarTurns a b m i k = some true := by
  unfold law22_SimilarTurns law22_awake
  rw [small22_eq a, Option.bind_some]
  by_cases h1 : (size a : Int) ≤ 40 ∧ (height a : Int) ≤ 30
  case neg => rw [if_neg (by simpa using h1)]; rfl
  rw [if_pos (decide_eq_true h1), small22_eq b, Option.bind_some]
  by_cases h2 : (size b : Int) ≤ 40 ∧ (height b : Int) ≤ 30
  case neg => rw [if_neg (by simpa using h2)]; rfl
  rw [if_pos (decide_eq_true h2)]
  by_cases h3 : (200 : Int) < (m.length : Int)
  · rw [if_pos h3]; rfl
  rw [if_neg h3]
  have l1 := iter_to (step := law22_SimilarTurns_L0 m i k a.Kind a.Text a.Gaps a.Kids b.Kind b.Text b.Gaps b.Kids) (fun n => ((n : Int), (m.take n).map turnP)) m.length (fun n hn => by
    simp only [law22_SimilarTurns_L0, rd_nat, List.getElem?_eq_getElem hn, Option.bind_some]
    rw [if_pos (by omega), if_pos (by rw [List.length_map, List.length_take]; omega), w64_succ (by omega), List.take_succ_eq_append_getElem hn, List.map_append]
    rfl)
  have l2 : iter (law22_SimilarTurns_L0 m i k a.Kind a.Text a.Gaps a.Kids b.Kind b.Text b.Gaps b.Kids) ((0 : Int), ([] : List Pair)) = _ := l1
  rw [l2, iter_jmp (n := 0) (s' := ((m.length : Int), m.map turnP))]
  · rw [Option.bind_some]
    simp only
    rw [score_eq (by omega) (by omega) (wf_gaps a wa) (wf_gaps b wb) (by omega) (int_hi wi).2 (int_hi wk).2, Option.bind_some,
      score_eq (by omega) (by omega) (wf_gaps b wb) (wf_gaps a wa) (by rw [List.length_map]; omega) (int_hi wk).2 (int_hi wi).2, Option.bind_some, score_swap]
    simp only [if_true, Option.bind_some]
  · simp only [law22_SimilarTurns_L0, List.take_length]
    rw [if_neg (by omega)]
end Xn

