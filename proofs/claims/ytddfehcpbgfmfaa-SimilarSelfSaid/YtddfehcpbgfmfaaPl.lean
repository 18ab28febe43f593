/- A part of the proof: Pl. No conditions of its own. -/
import Derived.Test.YtddfehcpbgfmfaaT
import Derived.Test.YtddfehcpbgfmfaaE3
set_option linter.unusedVariables false
namespace Xn
open Go Go.Ev
structure Forest (F : List Row) (pos : Nat) (par : Int) (R : List Int) : Prop where
  roots : R.Pairwise (· < ·)
  inside : ∀ j ∈ R, (pos : Int) ≤ j ∧ j < (pos : Int) + F.length
  up : ∀ (i : Nat) (row : Row), F[i]? = some row → (((pos + i : Nat) : Int) ∈ R ∧ row.Parent = par) ∨ (((pos + i : Nat) : Int) ∉ R ∧ ∃ k, k < i ∧ row.Parent = ((pos + k : Nat) : Int))
  asc : ∀ (i : Nat) (row : Row), F[i]? = some row → row.Kids.Pairwise (· < ·)
  kids : ∀ (i : Nat) (row : Row), F[i]? = some row → ∀ j : Int, j ∈ row.Kids ↔ ∃ (k : Nat) (rowk : Row), F[k]? = some rowk ∧ j = ((pos + k : Nat) : Int) ∧ rowk.Parent = ((pos + i : Nat) : Int)
theorem Forest.nil (pos : Nat) (par : Int) : Forest [] pos par [] where
  roots := .nil
  inside := fun j h => by cases h
  up := fun i row h => by simp at h
  asc := fun i row h => by simp at h
  kids := fun i row h => by simp at h
theorem Forest.append {F G : List Row} {pos : Nat} {par : Int} {R S : List Int} (hf : Forest F pos par R) (hg : Forest G (pos + F.length) par S) (hp : par < pos) : Forest (F ++ G) pos par (R ++ S) where
  roots := by
    refine List.pairwise_append.2 ⟨hf.roots, hg.roots, fun a ha b hb => ?_⟩
    have := hf.inside a ha
    have := hg.inside b hb
    omega
  inside := fun j h => by
    rw [List.length_append]
    rcases List.mem_append.1 h with h | h
    · have := hf.inside j h; omega
    · have := hg.inside j h; omega
  up := fun i row h => by
    by_cases hi : i < F.length
    · rw [List.getElem?_append_left hi] at h
      rcases hf.up i row h with ⟨h1, h2⟩ | ⟨h1, h2⟩
      · exact .inl ⟨List.mem_append_left _ h1, h2⟩
      · refine .inr ⟨fun hm => ?_, h2⟩
        rcases List.mem_append.1 hm with hm | hm
        · exact h1 hm
        · have := hg.inside _ hm; omega
    · rw [List.getElem?_append_right (by omega)] at h
      have e : pos + F.length + (i - F.length) = pos + i := by omega
      rcases hg.up _ row h with ⟨h1, h2⟩ | ⟨h1, k, hk, h2⟩
      · rw [e] at h1
        exact .inl ⟨List.mem_append_right _ h1, h2⟩
      · rw [e] at h1
        refine .inr ⟨fun hm => ?_, F.length + k, by omega, by rw [h2]; congr 1; omega⟩
        rcases List.mem_append.1 hm with hm | hm
        · have := hf.inside _ hm; omega
        · exact h1 hm
  asc := fun i row h => by
    by_cases hi : i < F.length
    · rw [List.getElem?_append_left hi] at h; exact hf.asc i row h
    · rw [List.getElem?_append_right (by omega)] at h; exact hg.asc _ row h
  kids := fun i row h j => by
    by_cases hi : i < F.length
    · rw [List.getElem?_append_left hi] at h
      rw [hf.kids i row h]
      constructor
      · rintro ⟨k, rk, h1, h2, h3⟩
        exact ⟨k, rk, by rw [List.getElem?_append_left (List.getElem?_eq_some_iff.1 h1).1]; exact h1, h2, h3⟩
      · rintro ⟨k, rk, h1, h2, h3⟩
        by_cases hk : k < F.length
        · rw [List.getElem?_append_left hk] at h1; exact ⟨k, rk, h1, h2, h3⟩
        · rw [List.getElem?_append_right (by omega)] at h1
          rcases hg.up _ rk h1 with ⟨_, h4⟩ | ⟨_, q, _, h4⟩
          · omega
          · omega
    · rw [List.getElem?_append_right (by omega)] at h
      have e : pos + F.length + (i - F.length) = pos + i := by omega
      rw [hg.kids _ row h, e]
      constructor
      · rintro ⟨k, rk, h1, h2, h3⟩
        exact ⟨F.length + k, rk, by rw [List.getElem?_append_right (by omega), Nat.add_sub_cancel_left]; exact h1, by rw [h2]; congr 1; omega, h3⟩
      · rintro ⟨k, rk, h1, h2, h3⟩
        by_cases hk : k < F.length
        · rw [List.getElem?_append_left hk] at h1
          rcases hf.up _ rk h1 with ⟨_, h4⟩ | ⟨_, q, _, h4⟩
          · omega
          · omega
        · rw [List.getElem?_append_right (by omega)] at h1
          exact ⟨k - F.length, rk, h1, by rw [h2]; congr 1; omega, h3⟩
theorem Forest.root {F : List Row} {pos : Nat} {par : Int} {row : Row} (hf : Forest F (pos + 1) pos row.Kids) (hp : row.Parent = par) (hpar : par < pos) : Forest (row :: F) pos par [(pos : Int)] where
  roots := List.pairwise_singleton _ _
  inside := fun j h => by
    obtain rfl : j = pos := by simpa using h
    simp only [List.length_cons]; omega
  up := fun i r h => by
    cases i with
    | zero =>
      obtain rfl : row = r := by simpa using h
      exact .inl ⟨by simp, hp⟩
    | succ i =>
      have h' : F[i]? = some r := by simpa using h
      refine .inr ⟨fun hm => ?_, ?_⟩
      · have : ((pos + (i + 1) : Nat) : Int) = (pos : Int) := by simpa using hm
        omega
      · rcases hf.up i r h' with ⟨h1, h2⟩ | ⟨h1, k, hk, h2⟩
        · exact ⟨0, by omega, by rw [h2]; rfl⟩
        · exact ⟨k + 1, by omega, by rw [h2]; congr 1; omega⟩
  asc := fun i r h => by
    cases i with
    | zero =>
      obtain rfl : row = r := by simpa using h
      exact hf.roots
    | succ i => exact hf.asc i r (by simpa using h)
  kids := fun i r h j => by
    cases i with
    | zero =>
      obtain rfl : row = r := by simpa using h
      constructor
      · intro hj
        have h1 := hf.inside j hj
        obtain ⟨k, hk⟩ : ∃ k : Nat, j = ((pos + 1 + k : Nat) : Int) := ⟨(j - (pos + 1 : Nat)).toNat, by omega⟩
        have hkl : k < F.length := by omega
        refine ⟨k + 1, F[k], by simp, by rw [hk]; congr 1; omega, ?_⟩
        rcases hf.up k F[k] (List.getElem?_eq_getElem hkl) with ⟨_, h3⟩ | ⟨h3, _⟩
        · rw [h3]; rfl
        · rw [← hk] at h3; exact absurd hj h3
      · rintro ⟨k, rk, h1, h2, h3⟩
        cases k with
        | zero =>
          obtain rfl : row = rk := by simpa using h1
          rw [hp] at h3; simp only [Nat.add_zero] at h3; omega
        | succ k =>
          rcases hf.up k rk (by simpa using h1) with ⟨h4, _⟩ | ⟨_, q, _, h4⟩
          · rw [h2]; rw [show pos + (k + 1) = pos + 1 + k by omega]; exact h4
          · simp only [Nat.add_zero] at h3; omega
    | succ i =>
      have h' : F[i]? = some r := by simpa using h
      rw [hf.kids i r h']
      have e : pos + 1 + i = pos + (i + 1) := by omega
      rw [e]
      constructor
      · rintro ⟨k, rk, h1, h2, h3⟩
        exact ⟨k + 1, rk, by simpa using h1, by rw [h2]; congr 1; omega, h3⟩
      · rintro ⟨k, rk, h1, h2, h3⟩
        cases k with
        | zero =>
          obtain rfl : row = rk := by simpa using h1
          rw [hp] at h3; omega
        | succ k => exact ⟨k, rk, by simpa using h1, by rw [h2]; congr 1; omega, h3⟩
mutual
theorem tab_forest : ∀ (n : Node) (pos : Nat) (par : Int), par < pos → Forest (tab n pos par) pos par [(pos : Int)]
  | ⟨k, t, g, ks⟩, pos, par, h => by
    rw [tab]
    exact Forest.root (tabs_forest ks (pos + 1) pos (by omega)) rfl h
theorem tabs_forest : ∀ (l : List Node) (pos : Nat) (par : Int), par < pos → Forest (tabs l pos par) pos par (kidPos l pos)
  | [], pos, par, h => by rw [tabs, kidPos]; exact Forest.nil pos par
  | n :: ks, pos, par, h => by
    rw [tabs, kidPos]
    have h1 := tab_forest n pos par h
    have h2 := tabs_forest ks (pos + size n) par (by omega)
    rw [← tab_len n pos par] at h2
    have := Forest.append h1 h2 h
    rw [tab_len n pos par] at this
    exact this
end
def tabOf (n : Node) : List Row := tab n 0 (-1)
theorem tabOf_len (n : Node) : (tabOf n).length = size n := tab_len n 0 (-1)
structure Tbl (x : List Row) : Prop where
  pos : 0 < x.length
  root : ∀ r, x[0]? = some r → r.Parent = -1
  up : ∀ (i : Nat) r, x[i]? = some r → 0 < i → ∃ k : Nat, k < i ∧ r.Parent = (k : Int)
  asc : ∀ (i : Nat) r, x[i]? = some r → r.Kids.Pairwise (· < ·)
  kids : ∀ (i : Nat) r, x[i]? = some r → ∀ j : Int, j ∈ r.Kids ↔ ∃ (k : Nat) (rk : Row), x[k]? = some rk ∧ j = (k : Int) ∧ rk.Parent = (i : Int)
theorem tabOf_tbl (n : Node) : Tbl (tabOf n) := by
  have h := tab_forest n 0 (-1) (by omega)
  have hl := tabOf_len n
  have hp := size_pos n
  refine ⟨by omega, fun r hr => ?_, fun i r hr hi => ?_, h.asc, fun i r hr j => ?_⟩
  · rcases h.up 0 r hr with ⟨_, h2⟩ | ⟨_, k, hk, _⟩
    · exact h2
    · omega
  · rcases h.up i r hr with ⟨h1, _⟩ | ⟨_, k, hk, h2⟩
    · have : ((0 + i : Nat) : Int) = 0 := by simpa using h1
      omega
    · exact ⟨k, hk, by rw [h2, Nat.zero_add]⟩
  · rw [h.kids i r hr j]
    simp only [Nat.zero_add]
    exact Iff.rfl
theorem Tbl.lt {x : List Row} (h : Tbl x) {i : Nat} {r : Row} (hr : x[i]? = some r) {j : Int} (hj : j ∈ r.Kids) : (i : Int) < j ∧ j < x.length := by
  obtain ⟨k, rk, h1, h2, h3⟩ := (h.kids i r hr j).1 hj
  have hk := (List.getElem?_eq_some_iff.1 h1).1
  have h0 : 0 < k := by
    rcases Nat.eq_zero_or_pos k with e | e
    · subst e
      have := h.root rk h1
      omega
    · exact e
  obtain ⟨q, hq, hq2⟩ := h.up k rk h1 h0
  omega
theorem tree_list_tab {n : Node} (h : size n < 2 ^ 30) (hg : gapsB n = true) : tree_listS ([] : List Row) n (-1) = some (tabOf n) := by
  unfold tree_listS
  rw [if_pos ⟨by simpa using h, hg⟩]; rfl
theorem tab_kind (n : Node) : ∃ r, (tabOf n)[0]? = some r ∧ r.Kind = n.Kind := by
  unfold tabOf
  rw [tab_eq]
  exact ⟨_, rfl, rfl⟩
end Xn

set_option linter.unusedVariables false
namespace Xn
open Go Go.Ev
theorem fits_eq (n : Node) (a b : Int) (h : -2 ^ 40 ≤ a ∧ a < 2 ^ 40 ∧ -2 ^ 40 ≤ b ∧ b < 2 ^ 40) : R06_Fits n a b = some (decide ((size n : Int) ≤ a ∧ (height n : Int) ≤ b)) := by
  unfold R06_Fits R06_leftS
  rw [if_pos h, Option.bind_some]
  congr 1
  unfold leftV
  by_cases hc : (size n : Int) ≤ a ∧ (height n : Int) ≤ b
  · rw [if_pos hc, decide_eq_decide]; constructor
    · intro _; exact hc
    · intro _; omega
  · rw [if_neg hc, decide_eq_decide]; constructor
    · intro h'; omega
    · intro h'; exact absurd h' hc
mutual
theorem wf_gaps : ∀ (n : Node), Wf_Node n → gapsB n = true
  | ⟨k, t, g, ks⟩, h => by
    cases h with
    | mk _ _ _ _ h1 h2 h3 h4 h5 =>
      rw [gapsB, Bool.and_eq_true, decide_eq_true_eq]
      have := h3.1.2
      have hr : reachBytes = 140737488351232 := rfl
      exact ⟨by omega, wf_gapss ks h5⟩
theorem wf_gapss : ∀ (l : List Node), (∀ x ∈ l, Wf_Node x) → gapsBs l = true
  | [], _ => rfl
  | n :: ks, h => by
    rw [gapsBs, Bool.and_eq_true]
    exact ⟨wf_gaps n (h n List.mem_cons_self), wf_gapss ks fun x hx => h x (List.mem_cons_of_mem _ hx)⟩
end
theorem tree_rows_eq {n : Node} (h : size n < 2 ^ 30) (hg : gapsB n = true) : tree_Rows n = some (tabOf n) := by
  unfold tree_Rows; rw [tree_list_tab h hg]; rfl
def par (x : List Row) (i : Int) : Int := ((rd x i).map Row.Parent).getD (-1)
def kidsOf (x : List Row) (i : Int) : List Int := ((rd x i).map Row.Kids).getD []
theorem par_rd {x : List Row} {i : Int} {r : Row} (h : rd x i = some r) : par x i = r.Parent := by unfold par; rw [h]; rfl
theorem kidsOf_rd {x : List Row} {i : Int} {r : Row} (h : rd x i = some r) : kidsOf x i = r.Kids := by unfold kidsOf; rw [h]; rfl
theorem kids_iff {x : List Row} (h : Tbl x) {i : Int} (hi : 0 ≤ i ∧ i < x.length) {j : Int} : j ∈ kidsOf x i ↔ (0 ≤ j ∧ j < x.length ∧ par x j = i) := by
  have hr : rd x i = some (x[i.toNat]'(by omega)) := rd_lt hi.1 hi.2
  have hr' : x[i.toNat]? = some (x[i.toNat]'(by omega)) := List.getElem?_eq_getElem _
  rw [kidsOf_rd hr, h.kids i.toNat _ hr' j]
  constructor
  · rintro ⟨k, rk, h1, rfl, h3⟩
    have := (List.getElem?_eq_some_iff.1 h1).1
    refine ⟨by omega, by omega, ?_⟩
    rw [par_rd (r := rk) (by rw [rd_nat]; exact h1), h3]; omega
  · rintro ⟨h1, h2, h3⟩
    have hj : rd x j = some (x[j.toNat]'(by omega)) := rd_lt h1 h2
    rw [par_rd hj] at h3
    exact ⟨j.toNat, _, List.getElem?_eq_getElem (by omega), by omega, by omega⟩
theorem kids_lt {x : List Row} (h : Tbl x) {i j : Int} (hj : j ∈ kidsOf x i) : 0 ≤ i ∧ i < x.length ∧ i < j ∧ j < x.length := by
  unfold kidsOf at hj
  cases hr : rd x i with
  | none => rw [hr] at hj; simp at hj
  | some r =>
    rw [hr] at hj
    obtain ⟨h1, h2, h3⟩ := rd_some hr
    have := h.lt h3 (j := j) (by simpa using hj)
    exact ⟨h1, h2, by omega, by omega⟩
theorem kids_asc {x : List Row} (h : Tbl x) (i : Int) : (kidsOf x i).Pairwise (· < ·) := by
  unfold kidsOf
  cases hr : rd x i with
  | none => simp
  | some r => exact h.asc _ r (rd_some hr).2.2
theorem par_zero {x : List Row} (h : Tbl x) : par x 0 = -1 := by
  have hp := h.pos
  have hr : rd x 0 = some (x[0]) := rd_lt (by omega) (by omega)
  rw [par_rd hr]
  exact h.root _ (List.getElem?_eq_getElem _)
theorem par_pos {x : List Row} (h : Tbl x) {i : Int} (h0 : 0 < i) (h1 : i < x.length) : 0 ≤ par x i ∧ par x i < i := by
  have hr : rd x i = some (x[i.toNat]'(by omega)) := rd_lt (by omega) h1
  rw [par_rd hr]
  obtain ⟨k, hk, e⟩ := h.up i.toNat _ (List.getElem?_eq_getElem (by omega)) (by omega)
  omega
theorem sort_all {T : Type} {p : T → T → Option Int} {key : T → Int} {l : List T} (hk : Keyed p key l) (hn : (l.map key).Nodup) (hl : l.length < 65536) :
    ∃ t, slices_SortFunc p l = some t ∧ t.Perm l ∧ t.Pairwise (fun x y => key x < key y) := by
  have hlen : ∃ k : Int, math_bits_Len (IntKind.wrap .u64 (l.length : Int)) = some k := by
    rw [wrap_u64_id (by omega) (by omega)]
    exact len_some l.length hl
  obtain ⟨k, hk'⟩ := hlen
  obtain ⟨t, h1, h2, h3⟩ := pdqS_all hk hn hl k
  refine ⟨t, ?_, h2, h3⟩
  unfold slices_SortFunc
  rw [hk', Option.bind_some, h1, Option.bind_some, if_pos h2.length_eq]
theorem pairs_same (l : List Pair) (h : l.length < 2 ^ 60) : R19_Pairs l l = some true := by
  unfold R19_Pairs
  rw [if_pos rfl]
  have h1 := iter_to (step := R19_Pairs_L0 l l) (fun i => (i : Int)) l.length (fun i hi => by
    simp only [R19_Pairs_L0, rd_nat, List.getElem?_eq_getElem hi, Option.bind_some]
    rw [if_pos (by omega), if_pos (by simp), w64_succ (by omega)])
  rw [show ((0 : Nat) : Int) = 0 from rfl] at h1
  rw [h1, iter_jmp (n := 0) (s' := (l.length : Int))]
  · rfl
  · simp only [R19_Pairs_L0]
    rw [if_neg (by omega)]
theorem nodup_le : ∀ (a b : List Int), a.Nodup → (∀ v ∈ a, v ∈ b) → a.length ≤ b.length
  | [], b, _, _ => by simp
  | v :: a, b, hn, h => by
    obtain ⟨h1, h2⟩ := List.nodup_cons.1 hn
    have hv := h v List.mem_cons_self
    have := nodup_le a (b.erase v) h2 fun u hu => (List.mem_erase_of_ne (show u ≠ v from fun e => h1 (e ▸ hu))).2 (h u (List.mem_cons_of_mem _ hu))
    rw [List.length_erase_of_mem hv] at this
    have := List.length_pos_of_mem hv
    simp only [List.length_cons]; omega
end Xn

set_option linter.unusedVariables false
namespace Xn
open Go Go.Ev
mutual
theorem tab_sub : ∀ (n : Node) (pos : Nat) (p : Int) (j : Nat) (v : Node), (subs n)[j]? = some v → ∃ row, (tab n pos p)[j]? = some row ∧ row.Kind = v.Kind ∧ row.Text = v.Text ∧ row.Gaps = v.Gaps ∧ row.Kids = kidPos v.Kids (pos + j + 1)
  | ⟨k, t, g, ks⟩, pos, p, 0, v, h => by
    rw [subs, List.getElem?_cons_zero] at h
    cases h
    rw [tab]
    exact ⟨_, rfl, rfl, rfl, rfl, rfl⟩
  | ⟨k, t, g, ks⟩, pos, p, j + 1, v, h => by
    rw [subs, List.getElem?_cons_succ] at h
    obtain ⟨row, h1, h2, h3, h4, h5⟩ := tabs_sub ks (pos + 1) pos j v h
    rw [tab]
    exact ⟨row, by rw [List.getElem?_cons_succ]; exact h1, h2, h3, h4, by rw [h5]; congr 1; omega⟩
theorem tabs_sub : ∀ (l : List Node) (pos : Nat) (p : Int) (j : Nat) (v : Node), (subss l)[j]? = some v → ∃ row, (tabs l pos p)[j]? = some row ∧ row.Kind = v.Kind ∧ row.Text = v.Text ∧ row.Gaps = v.Gaps ∧ row.Kids = kidPos v.Kids (pos + j + 1)
  | [], pos, p, j, v, h => by simp [subss] at h
  | n :: ks, pos, p, j, v, h => by
    rw [subss] at h
    rw [tabs]
    by_cases hj : j < size n
    · rw [List.getElem?_append_left (by rw [subs_len]; exact hj)] at h
      rw [List.getElem?_append_left (by rw [tab_len]; exact hj)]
      exact tab_sub n pos p j v h
    · rw [List.getElem?_append_right (by rw [subs_len]; omega), subs_len] at h
      rw [List.getElem?_append_right (by rw [tab_len]; omega), tab_len]
      obtain ⟨row, h1, h2, h3, h4, h5⟩ := tabs_sub ks (pos + size n) p (j - size n) v h
      exact ⟨row, h1, h2, h3, h4, by rw [h5]; congr 1; omega⟩
end
mutual
theorem tab_seg : ∀ (n : Node) (pos : Nat) (p : Int) (j : Nat) (v : Node), (subs n)[j]? = some v → p < pos → j + size v ≤ size n ∧ ∃ p' : Int, p' < ((pos + j : Nat) : Int) ∧ ∀ t, t < size v → (tab n pos p)[j + t]? = (tab v (pos + j) p')[t]? ∧ (subs n)[j + t]? = (subs v)[t]?
  | ⟨k, t, g, ks⟩, pos, p, 0, v, h, hp => by
    rw [subs, List.getElem?_cons_zero] at h
    cases h
    exact ⟨by omega, p, hp, fun t _ => by rw [Nat.zero_add]; exact ⟨rfl, rfl⟩⟩
  | ⟨k, t, g, ks⟩, pos, p, j + 1, v, h, hp => by
    rw [subs, List.getElem?_cons_succ] at h
    obtain ⟨h1, p', h2, h3⟩ := tabs_seg ks (pos + 1) pos j v h (by omega)
    refine ⟨by simp only [size]; omega, p', by omega, fun t ht => ?_⟩
    obtain ⟨h4, h5⟩ := h3 t ht
    rw [tab, subs, show j + 1 + t = (j + t) + 1 by omega, List.getElem?_cons_succ, List.getElem?_cons_succ, h4, h5, show pos + (j + 1) = pos + 1 + j by omega]
    exact ⟨rfl, rfl⟩
theorem tabs_seg : ∀ (l : List Node) (pos : Nat) (p : Int) (j : Nat) (v : Node), (subss l)[j]? = some v → p < pos → j + size v ≤ sizes l ∧ ∃ p' : Int, p' < ((pos + j : Nat) : Int) ∧ ∀ t, t < size v → (tabs l pos p)[j + t]? = (tab v (pos + j) p')[t]? ∧ (subss l)[j + t]? = (subs v)[t]?
  | [], pos, p, j, v, h, hp => by simp [subss] at h
  | n :: ks, pos, p, j, v, h, hp => by
    rw [subss] at h
    by_cases hj : j < size n
    · rw [List.getElem?_append_left (by rw [subs_len]; exact hj)] at h
      obtain ⟨h1, p', h2, h3⟩ := tab_seg n pos p j v h hp
      refine ⟨by simp only [sizes]; omega, p', h2, fun t ht => ?_⟩
      rw [tabs, subss, List.getElem?_append_left (by rw [tab_len]; omega), List.getElem?_append_left (by rw [subs_len]; omega)]
      exact h3 t ht
    · rw [List.getElem?_append_right (by rw [subs_len]; omega), subs_len] at h
      obtain ⟨h1, p', h2, h3⟩ := tabs_seg ks (pos + size n) p (j - size n) v h (by omega)
      refine ⟨by simp only [sizes]; omega, p', by omega, fun t ht => ?_⟩
      obtain ⟨h4, h5⟩ := h3 t ht
      rw [tabs, subss, List.getElem?_append_right (by rw [tab_len]; omega), List.getElem?_append_right (by rw [subs_len]; omega), tab_len, subs_len, show j + t - size n = j - size n + t by omega, h4, h5, show pos + size n + (j - size n) = pos + j by omega]
      exact ⟨rfl, rfl⟩
end
def szAt (n : Node) (i : Int) : Int := if 0 ≤ i then (match (subs n)[i.toNat]? with | some v => (size v : Int) | none => 0) else 0
theorem szAt_some {n v : Node} {i : Nat} (h : (subs n)[i]? = some v) : szAt n (i : Int) = size v := by
  unfold szAt
  rw [if_pos (by omega), Int.toNat_natCast, h]
theorem szAt_lt {n : Node} {i : Int} (h0 : 0 ≤ i) (h1 : i < size n) : 1 ≤ szAt n i ∧ i + szAt n i ≤ size n := by
  obtain ⟨v, hv⟩ : ∃ v, (subs n)[i.toNat]? = some v := ⟨_, List.getElem?_eq_getElem (by rw [subs_len]; omega)⟩
  have e := szAt_some hv
  rw [show ((i.toNat : Nat) : Int) = i by omega] at e
  have h2 := (tab_seg n 0 (-1) i.toNat v hv (by omega)).1
  have h3 := size_pos v
  omega
theorem szAt_out {n : Node} {i : Int} (h : i < 0 ∨ size n ≤ i) : szAt n i = 0 := by
  unfold szAt
  by_cases h0 : 0 ≤ i
  · rw [if_pos h0, List.getElem?_eq_none (by rw [subs_len]; omega)]
  · rw [if_neg h0]
def Below (n : Node) (z k : Int) : Prop := k < z ∧ z < k + szAt n k
instance (n : Node) (z k : Int) : Decidable (Below n z k) := by unfold Below; infer_instance
theorem below_in {n : Node} {z k : Int} (h : Below n z k) : 0 ≤ k ∧ k < size n ∧ 0 < z ∧ z < size n := by
  obtain ⟨h1, h2⟩ := h
  by_cases hk : k < 0 ∨ (size n : Int) ≤ k
  · rw [szAt_out hk] at h2; omega
  · have := szAt_lt (n := n) (i := k) (by omega) (by omega)
    omega
theorem below_par {n : Node} {z k : Int} (h0 : 0 < z) (h1 : z < size n) : Below n z k ↔ k = par (tabOf n) z ∨ Below n (par (tabOf n) z) k := by
  have ht := tabOf_tbl n
  have hl := tabOf_len n
  have hq := par_pos ht h0 (by omega)
  generalize hqe : par (tabOf n) z = q at *
  obtain ⟨vq, hvq⟩ : ∃ v, (subs n)[q.toNat]? = some v := ⟨_, List.getElem?_eq_getElem (by rw [subs_len]; omega)⟩
  have eq := szAt_some hvq
  rw [show ((q.toNat : Nat) : Int) = q by omega] at eq
  have hzq : z ∈ kidsOf (tabOf n) q := (kids_iff ht ⟨by omega, by omega⟩).2 ⟨by omega, by omega, hqe⟩
  have hz1 : z < q + szAt n q := by
    obtain ⟨row, r1, _, _, _, r5⟩ := tab_sub n 0 (-1) q.toNat vq hvq
    have hr : rd (tabOf n) q = some row := by unfold rd; rw [if_pos (by omega)]; exact r1
    rw [kidsOf_rd hr, r5] at hzq
    have := (tabs_forest vq.Kids (0 + q.toNat + 1) q (by omega)).inside z hzq
    rw [tabs_len] at this
    have := size_eq vq
    omega
  constructor
  · rintro ⟨b1, b2⟩
    have hkin := below_in ⟨b1, b2⟩
    obtain ⟨v, hv⟩ : ∃ v, (subs n)[k.toNat]? = some v := ⟨_, List.getElem?_eq_getElem (by rw [subs_len]; omega)⟩
    have ek := szAt_some hv
    rw [show ((k.toNat : Nat) : Int) = k by omega] at ek
    obtain ⟨_, p', hp', hseg⟩ := tab_seg n 0 (-1) k.toNat v hv (by omega)
    have h4 := (hseg (z - k).toNat (by omega)).1
    have hrz : rd (tabOf n) z = some ((tabOf n)[z.toNat]'(by omega)) := rd_lt (by omega) (by omega)
    have h5 : (tab v (0 + k.toNat) p')[(z - k).toNat]? = some ((tabOf n)[z.toNat]'(by omega)) := by
      rw [← h4, show k.toNat + (z - k).toNat = z.toNat by omega]
      exact List.getElem?_eq_getElem _
    have hpar : par (tabOf n) z = ((tabOf n)[z.toNat]'(by omega)).Parent := par_rd hrz
    rcases (tab_forest v (0 + k.toNat) p' (by omega)).up _ _ h5 with ⟨h6, _⟩ | ⟨_, t, ht1, ht2⟩
    · have : ((0 + k.toNat + (z - k).toNat : Nat) : Int) = ((0 + k.toNat : Nat) : Int) := by simpa using h6
      omega
    · rw [← hpar, hqe] at ht2
      by_cases hkq : k = q
      · exact .inl hkq
      · exact .inr ⟨by omega, by omega⟩
  · rintro (rfl | ⟨b1, b2⟩)
    · exact ⟨hq.2, hz1⟩
    · have hkin := below_in ⟨b1, b2⟩
      obtain ⟨v, hv⟩ : ∃ v, (subs n)[k.toNat]? = some v := ⟨_, List.getElem?_eq_getElem (by rw [subs_len]; omega)⟩
      have ek := szAt_some hv
      rw [show ((k.toNat : Nat) : Int) = k by omega] at ek
      obtain ⟨_, p', hp', hseg⟩ := tab_seg n 0 (-1) k.toNat v hv (by omega)
      have h4 := (hseg (q - k).toNat (by omega)).2
      rw [show k.toNat + (q - k).toNat = q.toNat by omega, hvq] at h4
      have := (tab_seg v 0 (-1) _ _ h4.symm (by omega)).1
      exact ⟨by omega, by omega⟩
theorem below_zero {n : Node} {k : Int} : ¬ Below n 0 k := fun h => by have := below_in h; omega
theorem kid_sub {n v : Node} {i : Nat} (h : (subs n)[i]? = some v) : kidsOf (tabOf n) (i : Int) = kidPos v.Kids (i + 1) ∧ (kidPos v.Kids (i + 1)).map (szAt n) = v.Kids.map fun w => (size w : Int) := by
  obtain ⟨row, r1, _, _, _, r5⟩ := tab_sub n 0 (-1) i v h
  have hr : rd (tabOf n) (i : Int) = some row := by rw [rd_nat]; exact r1
  refine ⟨by rw [kidsOf_rd hr, r5, Nat.zero_add], ?_⟩
  obtain ⟨_, p', _, hseg⟩ := tab_seg n 0 (-1) i v h (by omega)
  have key : ∀ (l : List Node) (o : Nat), (∀ t, t < sizes l → (subs n)[o + t]? = (subss l)[t]?) → (kidPos l o).map (szAt n) = l.map fun w => (size w : Int) := by
    intro l
    induction l with
    | nil => intro o _; rfl
    | cons w l ih =>
      intro o ho
      have hw := size_pos w
      have h0 := ho 0 (by simp only [sizes]; omega)
      rw [Nat.add_zero, subss, List.getElem?_append_left (by rw [subs_len]; omega), subs_eq w, List.getElem?_cons_zero] at h0
      rw [kidPos, List.map_cons, List.map_cons, szAt_some h0, ih (o + size w) (fun t ht => by
        have := ho (size w + t) (by simp only [sizes]; omega)
        rw [subss, List.getElem?_append_right (by rw [subs_len]; omega), subs_len, Nat.add_sub_cancel_left] at this
        rw [← this]; congr 1; omega)]
  refine key v.Kids (i + 1) fun t ht => ?_
  have hse := size_eq v
  have := (hseg (t + 1) (by omega)).2
  rw [show i + 1 + t = i + (t + 1) by omega, this, subs_eq v, List.getElem?_cons_succ]
mutual
theorem sub_gaps : ∀ (n : Node) (j : Nat) (v : Node), gapsB n = true → (subs n)[j]? = some v → gapsB v = true
  | ⟨k, t, g, ks⟩, 0, v, hg, h => by
    rw [subs, List.getElem?_cons_zero] at h
    cases h; exact hg
  | ⟨k, t, g, ks⟩, j + 1, v, hg, h => by
    rw [subs, List.getElem?_cons_succ] at h
    rw [gapsB, Bool.and_eq_true] at hg
    exact subs_gaps ks j v hg.2 h
theorem subs_gaps : ∀ (l : List Node) (j : Nat) (v : Node), gapsBs l = true → (subss l)[j]? = some v → gapsB v = true
  | [], j, v, hg, h => by simp [subss] at h
  | n :: ks, j, v, hg, h => by
    rw [subss] at h
    rw [gapsBs, Bool.and_eq_true] at hg
    by_cases hj : j < size n
    · rw [List.getElem?_append_left (by rw [subs_len]; exact hj)] at h
      exact sub_gaps n j v hg.1 h
    · rw [List.getElem?_append_right (by rw [subs_len]; omega), subs_len] at h
      exact subs_gaps ks (j - size n) v hg.2 h
end
theorem tree_at_eq {n : Node} (hn : size n < 2 ^ 29) (hg : gapsB n = true) (i : Int) (hi : i < 2 ^ 63) : tree_At n i = some (match (if 0 ≤ i then (subs n)[i.toNat]? else none) with | some v => (v, true) | none => (node0, false)) := by
  unfold tree_At
  by_cases h0 : i < 0
  · rw [if_pos h0, if_neg (by omega)]; rfl
  · rw [if_neg h0, if_pos (by omega)]
    unfold tree_locateS
    rw [if_pos ⟨by omega, by omega, hi⟩, Option.bind_some]
    cases hs : (subs n)[i.toNat]? with
    | none => rfl
    | some v =>
      simp only [if_true]
      unfold tree_cloneS
      have h1 := (tab_seg n 0 (-1) i.toNat v hs (by omega)).1
      rw [if_pos ⟨by omega, sub_gaps n i.toNat v hg hs⟩]
      rfl
end Xn

set_option linter.unusedVariables false
namespace Xn
open Go Go.Ev
def cntB (a b : Node) (m : List Pair) (i k : Int) : Nat := m.countP fun r => decide (Below a r.Old i ∧ Below b r.New k)
theorem cntB_le (a b : Node) (m : List Pair) (i k : Int) : cntB a b m i k ≤ m.length := List.countP_le_length
theorem below_eq (z i s : Int) (h : -2 ^ 62 ≤ i + s ∧ i + s < 2 ^ 62) : similar_below z i s = some (decide (i < z ∧ z < i + s)) := by
  unfold similar_below
  by_cases h1 : i < z
  · rw [if_pos h1, w64_id (by omega) (by omega)]; simp [h1]
  · rw [if_neg h1]; simp [h1]
def scoreV (a b : Node) (m : List Pair) (i k : Int) : Int × Int := if (0 ≤ i ∧ i < size a) ∧ (0 ≤ k ∧ k < size b) then ((cntB a b m i k : Int), szAt a i + szAt b k - 2) else (0, 0)
theorem score_eq {a b : Node} {m : List Pair} {i k : Int} (ha : size a < 2 ^ 29) (hb : size b < 2 ^ 29) (hga : gapsB a = true) (hgb : gapsB b = true) (hm : m.length < 2 ^ 60) (hi : i < 2 ^ 63) (hk : k < 2 ^ 63) :
    similar_Score a b m i k = some (scoreV a b m i k) := by
  unfold similar_Score scoreV
  rw [tree_at_eq ha hga i hi, Option.bind_some, tree_at_eq hb hgb k hk, Option.bind_some]
  by_cases hi0 : 0 ≤ i ∧ i < size a
  case neg =>
    have : (if 0 ≤ i then (subs a)[i.toNat]? else none) = none := by
      by_cases h0 : 0 ≤ i
      · rw [if_pos h0, List.getElem?_eq_none (by rw [subs_len]; omega)]
      · rw [if_neg h0]
    rw [this]
    simp only [Bool.false_eq_true, if_false]
    rw [if_neg (fun h => hi0 h.1)]
  obtain ⟨v, hv⟩ : ∃ v, (subs a)[i.toNat]? = some v := ⟨_, List.getElem?_eq_getElem (by rw [subs_len]; omega)⟩
  have ev := szAt_some hv
  rw [show ((i.toNat : Nat) : Int) = i by omega] at ev
  rw [if_pos hi0.1, hv]
  simp only [if_true]
  by_cases hk0 : 0 ≤ k ∧ k < size b
  case neg =>
    have : (if 0 ≤ k then (subs b)[k.toNat]? else none) = none := by
      by_cases h0 : 0 ≤ k
      · rw [if_pos h0, List.getElem?_eq_none (by rw [subs_len]; omega)]
      · rw [if_neg h0]
    rw [this]
    simp only [Bool.false_eq_true, if_false]
    rw [if_neg (fun h => hk0 h.2)]
  obtain ⟨u, hu⟩ : ∃ u, (subs b)[k.toNat]? = some u := ⟨_, List.getElem?_eq_getElem (by rw [subs_len]; omega)⟩
  have eu := szAt_some hu
  rw [show ((k.toNat : Nat) : Int) = k by omega] at eu
  have hsi := szAt_lt hi0.1 hi0.2
  have hsk := szAt_lt hk0.1 hk0.2
  rw [if_pos hk0.1, hu]
  simp only [if_true]
  rw [if_pos (show (0 ≤ i ∧ i < ↑(size a)) ∧ (0 ≤ k ∧ k < ↑(size b)) from ⟨hi0, hk0⟩)]
  unfold tree_SizeS
  rw [if_pos (by omega), Option.bind_some, if_pos (by omega), Option.bind_some, ← ev, ← eu]
  have h1 := iter_to (step := similar_Score_L0 i k (szAt a i) (szAt b k) m (m.length : Int)) (fun n => ((cntB a b (m.take n) i k : Int), (n : Int))) m.length (fun n hn => by
    have hle := cntB_le a b (m.take n) i k
    rw [List.length_take] at hle
    simp only [similar_Score_L0, rd_nat, List.getElem?_eq_getElem hn, Option.bind_some]
    rw [if_pos (by omega), below_eq _ _ _ (by omega), Option.bind_some]
    have e : (cntB a b (m.take (n + 1)) i k : Int) = cntB a b (m.take n) i k + if (Below a m[n].Old i ∧ Below b m[n].New k) then 1 else 0 := by
      unfold cntB
      rw [List.take_succ_eq_append_getElem hn, List.countP_append]
      by_cases h : Below a m[n].Old i ∧ Below b m[n].New k <;> simp [h]
    rw [e]
    by_cases c1 : Below a m[n].Old i
    · rw [if_pos (decide_eq_true (show i < m[n].Old ∧ m[n].Old < i + szAt a i from c1)), below_eq _ _ _ (by omega), Option.bind_some]
      by_cases c2 : Below b m[n].New k
      · rw [if_pos (decide_eq_true (show k < m[n].New ∧ m[n].New < k + szAt b k from c2)), if_pos ⟨c1, c2⟩, w64_succ (by omega), w64_succ (by omega)]
        rfl
      · rw [if_neg (by simpa using fun h1 h2 => c2 ⟨h1, h2⟩), if_neg (fun h => c2 h.2), w64_succ (by omega), Int.add_zero]
    · rw [if_neg (by simpa using fun h1 h2 => c1 ⟨h1, h2⟩), if_neg (fun h => c1 h.1), w64_succ (by omega), Int.add_zero])
  have h2 : iter (similar_Score_L0 i k (szAt a i) (szAt b k) m (m.length : Int)) ((0 : Int), (0 : Int)) = _ := h1
  rw [h2, iter_jmp (n := 0) (s' := ((cntB a b m i k : Int), (m.length : Int)))]
  · rw [Option.bind_some]
    simp only
    rw [w64_id (x := szAt a i + szAt b k) (by omega) (by omega), w64_id (by omega) (by omega)]
  · simp only [similar_Score_L0, List.take_length]
    rw [if_neg (by omega)]
theorem small22_eq (n : Node) : law22_small n = some (decide ((size n : Int) ≤ 40 ∧ (height n : Int) ≤ 30)) := by
  unfold law22_small
  rw [fits_eq n 40 30 (by omega)]
  rfl
theorem int_hi {x : Int} (h : wfInt .i64 x) : -2 ^ 63 ≤ x ∧ x < 2 ^ 63 := by
  unfold wfInt Lit.wf at h
  rw [Bool.and_eq_true, decide_eq_true_eq, decide_eq_true_eq] at h
  have e1 : IntKind.min .i64 = -2 ^ 63 := by decide
  have e2 : IntKind.max .i64 = 2 ^ 63 - 1 := by decide
  rw [e1, e2] at h
  omega
end Xn

set_option linter.unusedVariables false
namespace Xn
open Go Go.Ev
def hasO (m : List Pair) (i : Int) : Bool := m.any fun p => decide (p.Old = i)
def hasN (m : List Pair) (i : Int) : Bool := m.any fun p => decide (p.New = i)
theorem hasO_iff {m : List Pair} {i : Int} : hasO m i = true ↔ ∃ p ∈ m, p.Old = i := by unfold hasO; simp [List.any_eq_true]
theorem hasN_iff {m : List Pair} {i : Int} : hasN m i = true ↔ ∃ p ∈ m, p.New = i := by unfold hasN; simp [List.any_eq_true]
def GoodAt (x y : List Row) (m : List Pair) (i : Nat) : Prop :=
  ∃ p u v, m[i]? = some p ∧ 0 ≤ p.Old ∧ x[p.Old.toNat]? = some u ∧ 0 ≤ p.New ∧ y[p.New.toNat]? = some v ∧ (∀ j, j < i → ∀ q, m[j]? = some q → q.Old < p.Old ∧ q.New ≠ p.New) ∧ u.Kind = v.Kind ∧ (p.Old = 0 ↔ p.New = 0)
def lastOld (m : List Pair) : Nat → Int
  | 0 => -1
  | i + 1 => match m[i]? with | some q => q.Old | none => -1
theorem lastOld_nn {x y : List Row} {m : List Pair} {i : Nat} (hg : ∀ j, j < i → GoodAt x y m j) : -1 ≤ lastOld m i ∧ (0 < i → 0 ≤ lastOld m i) := by
  cases i with
  | zero => exact ⟨Int.le_refl _, fun h => by omega⟩
  | succ i =>
    obtain ⟨p, u, v, h1, h2, _⟩ := hg i (by omega)
    simp only [lastOld, h1]
    exact ⟨by omega, fun _ => h2⟩
theorem lastOld_iff {x y : List Row} {m : List Pair} {i : Nat} (hg : ∀ j, j < i → GoodAt x y m j) (z : Int) : (∀ j, j < i → ∀ q, m[j]? = some q → q.Old < z) ↔ (i = 0 ∨ lastOld m i < z) := by
  cases i with
  | zero => exact ⟨fun _ => .inl rfl, fun _ j h => by omega⟩
  | succ i =>
    obtain ⟨p, u, v, h1, h2, h3, h4, h5, h6, h7⟩ := hg i (by omega)
    simp only [lastOld, h1]
    constructor
    · intro h; exact .inr (h i (by omega) p h1)
    · rintro (h | h) j hj q hq
      · omega
      · by_cases hji : j = i
        · subst hji; rw [h1] at hq; obtain rfl := Option.some.inj hq; exact h
        · have := (h6 j (by omega) q hq).1; omega
def PartOk (a b : Node) (m : List Pair) : Prop := ∀ i, i < m.length → GoodAt (tabOf a) (tabOf b) m i
def takenB (m : List Pair) (i : Nat) (k : Nat) : Bool := (m.take i).any fun q => decide (q.New = (k : Int))
def takenL (m : List Pair) (i n : Nat) : List Bool := (List.range n).map (takenB m i)
theorem takenL_get {m : List Pair} {i n k : Nat} (h : k < n) : (takenL m i n)[k]? = some (takenB m i k) := by
  unfold takenL
  rw [List.getElem?_map, List.getElem?_range h]; rfl
theorem takenL_zero (m : List Pair) (n : Nat) : takenL m 0 n = List.replicate n false := by
  apply List.ext_getElem?
  intro k
  by_cases h : k < n
  · rw [takenL_get h, List.getElem?_replicate, if_pos h]; simp [takenB]
  · rw [List.getElem?_eq_none (by simp [takenL]; omega), List.getElem?_eq_none (by simp; omega)]
theorem takenL_succ {m : List Pair} {i n : Nat} {p : Pair} (hp : m[i]? = some p) (h0 : 0 ≤ p.New) : takenL m (i + 1) n = (takenL m i n).set p.New.toNat true := by
  apply List.ext_getElem?
  intro k
  by_cases h : k < n
  · rw [takenL_get h, List.getElem?_set]
    have e : takenB m (i + 1) k = (takenB m i k || decide (p.New = (k : Int))) := by
      unfold takenB
      obtain ⟨hi, e⟩ := List.getElem?_eq_some_iff.1 hp
      rw [List.take_add_one, hp, List.any_append]
      simp
    by_cases hk : p.New.toNat = k
    · rw [if_pos hk, if_pos (by simp [takenL]; omega), e, decide_eq_true (by omega), Bool.or_true]
    · rw [if_neg hk, e, decide_eq_false (by omega), Bool.or_false, takenL_get h]
  · rw [List.getElem?_eq_none (by simp [takenL]; omega), List.getElem?_eq_none (by simp [takenL]; omega)]
theorem takenB_iff {m : List Pair} {i k : Nat} : takenB m i k = true ↔ ∃ j, j < i ∧ ∃ q, m[j]? = some q ∧ q.New = (k : Int) := by
  unfold takenB
  rw [List.any_eq_true]
  constructor
  · rintro ⟨q, q1, q2⟩
    obtain ⟨j, hj⟩ := List.getElem?_of_mem q1
    rw [List.getElem?_take] at hj
    split at hj
    · exact ⟨j, by assumption, q, hj, by simpa using q2⟩
    · cases hj
  · rintro ⟨j, hj, q, q1, q2⟩
    exact ⟨q, List.mem_of_getElem? (i := j) (by rw [List.getElem?_take, if_pos hj]; exact q1), by simpa using q2⟩
open Classical in
theorem partial_eq {a b : Node} {m : List Pair} (ha : size a < 2 ^ 30) (hb : size b < 2 ^ 30) (hm : m.length < 2 ^ 60) : similar_partial (tabOf a) (tabOf b) m = some (decide (PartOk a b m)) := by
  unfold similar_partial
  have hlb := tabOf_len b
  have hlbp := size_pos b
  generalize hx : tabOf a = x
  generalize hy : tabOf b = y at hlb ⊢
  rw [if_pos (by omega), Int.toNat_natCast]
  have key := iter_all (step := similar_partial_L0 x y m (m.length : Int)) (fun i => (lastOld m i, (i : Int), takenL m i y.length)) (GoodAt x y m) false 0 (lastOld m m.length, (m.length : Int), takenL m m.length y.length) m.length (fun i hi hg => by
    obtain ⟨p, hp⟩ : ∃ p, m[i]? = some p := ⟨_, List.getElem?_eq_getElem hi⟩
    have hrd : rd m (i : Int) = some p := by rw [rd_nat]; exact hp
    have hlast := lastOld_nn hg
    simp only [similar_partial_L0, hrd, Option.bind_some]
    rw [if_pos (by omega)]
    by_cases h1 : p.Old ≤ lastOld m i
    · rw [if_pos h1, if_neg]
      rintro ⟨p', u, v, g1, g2, g3, g4, g5, g6, _⟩; rw [hp] at g1; cases g1
      rcases (lastOld_iff hg p.Old).1 (fun j hj q hq => (g6 j hj q hq).1) with h | h
      · subst h; simp only [lastOld] at h1; omega
      · omega
    rw [if_neg h1]
    by_cases h2 : (x.length : Int) ≤ p.Old
    · rw [if_pos h2, if_neg]; rintro ⟨p', u, v, g1, g2, g3, _⟩; rw [hp] at g1; cases g1; have := (List.getElem?_eq_some_iff.1 g3).1; omega
    rw [if_neg h2]
    by_cases h3 : p.New < 0
    · rw [if_pos h3, if_neg]; rintro ⟨p', u, v, g1, g2, g3, g4, _⟩; rw [hp] at g1; cases g1; omega
    rw [if_neg h3]
    by_cases h4 : (y.length : Int) ≤ p.New
    · rw [if_pos h4, if_neg]; rintro ⟨p', u, v, g1, g2, g3, g4, g5, _⟩; rw [hp] at g1; cases g1; have := (List.getElem?_eq_some_iff.1 g5).1; omega
    rw [if_neg h4]
    obtain ⟨u, hu⟩ : ∃ u, x[p.Old.toNat]? = some u := ⟨_, List.getElem?_eq_getElem (by omega)⟩
    obtain ⟨v, hv⟩ : ∃ v, y[p.New.toNat]? = some v := ⟨_, List.getElem?_eq_getElem (by omega)⟩
    have hru : rd x p.Old = some u := by unfold rd; rw [if_pos (by omega)]; exact hu
    have hrv : rd y p.New = some v := by unfold rd; rw [if_pos (by omega)]; exact hv
    have hrt : rd (takenL m i y.length) p.New = some (takenB m i p.New.toNat) := by unfold rd; rw [if_pos (by omega), takenL_get (by omega)]
    have hgood : GoodAt x y m i ↔ (¬ takenB m i p.New.toNat = true ∧ u.Kind = v.Kind ∧ (p.Old = 0 ↔ p.New = 0)) := by
      rw [takenB_iff, show ((p.New.toNat : Nat) : Int) = p.New by omega]
      constructor
      · rintro ⟨p', u', v', g1, g2, g3, g4, g5, g6, g7, g8⟩
        rw [hp] at g1; cases g1
        rw [hu] at g3; cases g3
        rw [hv] at g5; cases g5
        exact ⟨fun ⟨j, hj, q, q1, q2⟩ => (g6 j hj q q1).2 q2, g7, g8⟩
      · rintro ⟨g2, g3, g4⟩
        exact ⟨p, u, v, hp, by omega, hu, by omega, hv, fun j hj q hq => ⟨(lastOld_iff hg p.Old).2 (.inr (by omega)) j hj q hq, fun e => g2 ⟨j, hj, q, hq, e⟩⟩, g3, g4⟩
    simp only [hru, hrv, hrt, Option.bind_some]
    by_cases h6 : takenB m i p.New.toNat = true
    · rw [if_pos h6, if_neg (fun h => (hgood.1 h).1 h6)]
    · rw [if_neg h6]
      by_cases h7 : u.Kind = v.Kind
      · rw [if_pos h7]
        by_cases h8 : (p.Old = 0 ↔ p.New = 0)
        · rw [if_pos (decide_eq_decide.2 h8), if_pos (hgood.2 ⟨h6, h7, h8⟩), w64_succ (by omega), takenL_succ hp (by omega)]
          simp only [lastOld, hp]
        · rw [if_neg (fun e => h8 (decide_eq_decide.1 e)), if_neg (fun h => h8 (hgood.1 h).2.2)]
      · rw [if_neg h7, if_neg (fun h => h7 (hgood.1 h).2.1)]) (fun _ => by
    simp only [similar_partial_L0]
    rw [if_neg (by omega)])
  simp only [takenL_zero, lastOld] at key
  rw [show ((0 : Nat) : Int) = 0 from rfl] at key
  rw [key]
  have hP : PartOk a b m ↔ ∀ i, i < m.length → GoodAt x y m i := by unfold PartOk; rw [hx, hy]
  by_cases hall : ∀ i, i < m.length → GoodAt x y m i
  · rw [if_pos hall, Option.bind_some, decide_eq_true (hP.2 hall)]
  · rw [if_neg hall, Option.bind_some, decide_eq_false (fun e => hall (hP.1 e))]
end Xn

set_option linter.unusedVariables false
namespace Xn
open Go Go.Ev
def tbl {T : Type} (n : Nat) (f : Int → T) : List T := (List.range n).map fun k : Nat => f (k : Int)
theorem tbl_len {T : Type} (n : Nat) (f : Int → T) : (tbl n f).length = n := by simp [tbl]
theorem tbl_get {T : Type} {n : Nat} {f : Int → T} {k : Nat} (h : k < n) : (tbl n f)[k]? = some (f k) := by
  unfold tbl; rw [List.getElem?_map, List.getElem?_range h]; rfl
theorem tbl_rd {T : Type} {n : Nat} {f : Int → T} {i : Int} (h0 : 0 ≤ i) (h1 : i < n) : rd (tbl n f) i = some (f i) := by
  obtain ⟨k, rfl⟩ : ∃ k : Nat, i = (k : Int) := ⟨i.toNat, by omega⟩
  rw [rd_nat]; exact tbl_get (by omega)
theorem tbl_ext {T : Type} {n : Nat} {f g : Int → T} (h : ∀ k : Int, 0 ≤ k → k < n → f k = g k) : tbl n f = tbl n g := by
  unfold tbl
  exact List.map_congr_left fun k hk => h k (by omega) (by have := List.mem_range.1 hk; omega)
theorem tbl_set {T : Type} {n : Nat} {f : Int → T} {i : Int} {v : T} (h0 : 0 ≤ i) : (tbl n f).set i.toNat v = tbl n fun k => if k = i then v else f k := by
  apply List.ext_getElem?
  intro k
  by_cases hk : k < n
  · rw [List.getElem?_set]
    by_cases e : i.toNat = k
    · rw [if_pos e, if_pos (by rw [tbl_len]; omega), tbl_get hk, if_pos (by omega)]
    · rw [if_neg e, tbl_get hk, tbl_get hk, if_neg (by omega)]
  · rw [List.getElem?_eq_none (by rw [List.length_set, tbl_len]; omega), List.getElem?_eq_none (by rw [tbl_len]; omega)]
theorem tbl_rep {T : Type} (n : Nat) (v : T) : List.replicate n v = tbl n fun _ => v := by
  unfold tbl; rw [List.map_const', List.length_range]
def kidSum (n : Node) (k : Int) (j : Int) : Int := (((kidsOf (tabOf n) k).filter fun c => decide (j ≤ c)).map (szAt n)).sum
theorem kidSum_all {n : Node} {k : Int} (h0 : 0 ≤ k) (h1 : k < size n) : kidSum n k (k + 1) + 1 = szAt n k := by
  obtain ⟨v, hv⟩ : ∃ v, (subs n)[k.toNat]? = some v := ⟨_, List.getElem?_eq_getElem (by rw [subs_len]; omega)⟩
  have ev := szAt_some hv
  obtain ⟨k1, k2⟩ := kid_sub hv
  rw [show ((k.toNat : Nat) : Int) = k by omega] at ev k1
  unfold kidSum
  have hf : (kidsOf (tabOf n) k).filter (fun c => decide (k + 1 ≤ c)) = kidsOf (tabOf n) k := by
    rw [List.filter_eq_self]
    intro c hc
    have := kids_lt (tabOf_tbl n) hc
    simp; omega
  rw [hf, k1, k2, ev, size_eq v]
  have key : ∀ (l : List Node), (l.map fun w => (size w : Int)).sum = (sizes l : Int) := by
    intro l
    induction l with
    | nil => rfl
    | cons w l ih => rw [List.map_cons, List.sum_cons, ih, sizes]; omega
  rw [key]; omega
theorem filter_step : ∀ {l : List Int} {i : Int}, l.Pairwise (· < ·) → (l.filter fun c => decide (i ≤ c)) = if i ∈ l then i :: l.filter (fun c => decide (i + 1 ≤ c)) else l.filter fun c => decide (i + 1 ≤ c)
  | [], i, _ => by simp
  | v :: l, i, h => by
    obtain ⟨h1, h2⟩ := List.pairwise_cons.1 h
    have ih := filter_step (i := i) h2
    by_cases hv : i < v
    · have hn : ¬ i ∈ l := fun e => by have := h1 i e; omega
      rw [if_neg hn] at ih
      rw [if_neg (by intro e; rcases List.mem_cons.1 e with e | e; omega; exact hn e), List.filter_cons_of_pos (by simp; omega), List.filter_cons_of_pos (by simp; omega), ih]
    · by_cases hvi : v = i
      · subst hvi
        have hall : ∀ c ∈ l, v + 1 ≤ c := fun c hc => by have := h1 c hc; omega
        rw [if_pos List.mem_cons_self, List.filter_cons_of_pos (by simp), List.filter_cons_of_neg (by simp; omega)]
        congr 1
        rw [List.filter_eq_self.2 fun c hc => by have := hall c hc; simp; omega, List.filter_eq_self.2 fun c hc => by have := hall c hc; simp; omega]
      · rw [List.filter_cons_of_neg (by simp; omega), List.filter_cons_of_neg (by simp; omega), ih]
        by_cases hm : i ∈ l
        · rw [if_pos hm, if_pos (List.mem_cons_of_mem _ hm)]
        · rw [if_neg hm, if_neg (by intro e; rcases List.mem_cons.1 e with e | e; omega; exact hm e)]
theorem kidSum_step {n : Node} {k i : Int} (hk : 0 ≤ k ∧ k < size n) (hi : 0 ≤ i ∧ i < size n) : kidSum n k i = if par (tabOf n) i = k then szAt n i + kidSum n k (i + 1) else kidSum n k (i + 1) := by
  have hl := tabOf_len n
  unfold kidSum
  rw [filter_step (kids_asc (tabOf_tbl n) k)]
  have hiff := kids_iff (tabOf_tbl n) (i := k) ⟨hk.1, by omega⟩ (j := i)
  by_cases hp : par (tabOf n) i = k
  · rw [if_pos hp, if_pos (hiff.2 ⟨hi.1, by omega, hp⟩), List.map_cons, List.sum_cons]
  · rw [if_neg hp, if_neg (fun e => hp (hiff.1 e).2.2)]
theorem kidSum_le {n : Node} {k i : Int} (hk : 0 ≤ k ∧ k < size n) (hi : 0 ≤ i) : 0 ≤ kidSum n k i ∧ kidSum n k i < szAt n k := by
  have hall := kidSum_all hk.1 hk.2
  have nn : ∀ (l : List Int), (∀ c ∈ l, 0 ≤ szAt n c) → 0 ≤ (l.map (szAt n)).sum := by
    intro l
    induction l with
    | nil => intro _; simp
    | cons c l ih => intro h; rw [List.map_cons, List.sum_cons]; have := h c List.mem_cons_self; have := ih fun c hc => h c (List.mem_cons_of_mem _ hc); omega
  have hsz : ∀ c ∈ kidsOf (tabOf n) k, 0 ≤ szAt n c := fun c hc => by
    have := kids_lt (tabOf_tbl n) hc
    have hl := tabOf_len n
    have := szAt_lt (n := n) (i := c) (by omega) (by omega)
    omega
  have mono : ∀ (l : List Int) (q : Int → Bool), (∀ c ∈ l, 0 ≤ szAt n c) → ((l.filter q).map (szAt n)).sum ≤ (l.map (szAt n)).sum := by
    intro l q
    induction l with
    | nil => intro _; simp
    | cons c l ih =>
      intro h
      have h1 := ih fun c hc => h c (List.mem_cons_of_mem _ hc)
      have h2 := h c List.mem_cons_self
      by_cases hq : q c = true
      · rw [List.filter_cons_of_pos hq, List.map_cons, List.sum_cons, List.map_cons, List.sum_cons]; omega
      · rw [List.filter_cons_of_neg hq, List.map_cons, List.sum_cons]; omega
  have hf : (kidsOf (tabOf n) k).filter (fun c => decide (k + 1 ≤ c)) = kidsOf (tabOf n) k := by
    rw [List.filter_eq_self]
    intro c hc
    have := kids_lt (tabOf_tbl n) hc
    simp; omega
  unfold kidSum at hall ⊢
  rw [hf] at hall
  have := mono (kidsOf (tabOf n) k) (fun c => decide (i ≤ c)) hsz
  refine ⟨nn _ fun c hc => hsz c (List.mem_filter.1 hc).1, by omega⟩
theorem sizes_eq {n : Node} (hn : size n < 2 ^ 29) (hg : gapsB n = true) : similar_sizes n = some (tbl (size n) (szAt n)) := by
  unfold similar_sizes
  rw [tree_rows_eq (by omega) hg, Option.bind_some]
  have hl := tabOf_len n
  have hpos := size_pos n
  have ht := tabOf_tbl n
  rw [if_pos (by omega), Int.toNat_natCast, hl]
  let st : Nat → Int × List Int := fun m => ((size n : Int) - 1 - m, tbl (size n) fun k => if (size n : Int) - m ≤ k then szAt n k else kidSum n k ((size n : Int) - m))
  have h0 : (w64 ((size n : Int) - 1), List.replicate (size n) (0 : Int)) = st 0 := by
    show _ = ((size n : Int) - 1 - (0 : Nat), _)
    rw [w64_id (by omega) (by omega), tbl_rep]
    congr 1
    · omega
    · refine tbl_ext fun k hk0 hk1 => ?_
      rw [if_neg (by omega)]
      unfold kidSum
      rw [List.filter_eq_nil_iff.2 (fun c hc => by have := kids_lt ht hc; simp; omega)]
      rfl
  rw [h0, iter_to st (size n) (fun m hm => by
    have hi : 0 ≤ (size n : Int) - 1 - m ∧ (size n : Int) - 1 - m < size n := by omega
    generalize he : (size n : Int) - 1 - m = i at hi
    have e1 : (size n : Int) - m = i + 1 := by omega
    have e2 : (size n : Int) - ((m + 1 : Nat) : Int) = i := by omega
    have e3 : (size n : Int) - 1 - ((m + 1 : Nat) : Int) = i - 1 := by omega
    simp only [st, he, e1, e2, e3]
    have hrd : rd (tabOf n) i = some ((tabOf n)[i.toNat]'(by omega)) := rd_lt hi.1 (by omega)
    have hpar := par_rd hrd
    have hsi := szAt_lt hi.1 hi.2
    have hall := kidSum_all hi.1 hi.2
    simp only [similar_sizes_L0, hrd, Option.bind_some]
    rw [if_pos hi.1, tbl_rd hi.1 hi.2, Option.bind_some, if_neg (by omega : ¬ i + 1 ≤ i), ← hpar]
    have ew : w64 (kidSum n i (i + 1) + 1) = szAt n i := by rw [w64_id (by omega) (by omega)]; exact hall
    rw [ew, tbl_set hi.1]
    by_cases hp : 0 ≤ par (tabOf n) i
    · have hi0 : i ≠ 0 := fun e => by rw [e, par_zero ht] at hp; omega
      have hpp := par_pos ht (i := i) (by omega) (by omega)
      have hle := kidSum_le (n := n) (k := par (tabOf n) i) ⟨hpp.1, by omega⟩ (i := i + 1) (by omega)
      have hsp := szAt_lt (n := n) (i := par (tabOf n) i) hpp.1 (by omega)
      rw [if_pos hp, tbl_rd hpp.1 (by omega), Option.bind_some, tbl_rd hi.1 hi.2, Option.bind_some, if_pos rfl, if_neg (by omega), if_neg (by omega), tbl_set hpp.1,
        w64_id (x := kidSum n (par (tabOf n) i) (i + 1) + szAt n i) (by omega) (by omega), w64_id (x := i - 1) (by omega) (by omega)]
      congr 3
      refine tbl_ext fun k hk0 hk1 => ?_
      by_cases c1 : k = par (tabOf n) i
      · rw [if_pos c1, if_neg (by omega), c1, kidSum_step ⟨hpp.1, by omega⟩ hi, if_pos rfl]; omega
      · rw [if_neg c1]
        by_cases c2 : k = i
        · rw [if_pos c2, if_pos (by omega), c2]
        · rw [if_neg c2]
          by_cases c3 : i + 1 ≤ k
          · rw [if_pos c3, if_pos (by omega)]
          · rw [if_neg c3, if_neg (by omega), kidSum_step ⟨hk0, hk1⟩ hi, if_neg (fun e => c1 e.symm)]
    · rw [if_neg hp, w64_id (x := i - 1) (by omega) (by omega)]
      congr 3
      refine tbl_ext fun k hk0 hk1 => ?_
      by_cases c2 : k = i
      · rw [if_pos c2, if_pos (by omega), c2]
      · rw [if_neg c2]
        by_cases c3 : i + 1 ≤ k
        · rw [if_pos c3, if_pos (by omega)]
        · rw [if_neg c3, if_neg (by omega), kidSum_step ⟨hk0, hk1⟩ hi, if_neg (by omega)])]
  rw [iter_jmp (n := 0) (s' := (-1, tbl (size n) (szAt n)))]
  · rfl
  · simp only [st]
    have : (size n : Int) - 1 - (size n : Nat) = -1 := by omega
    rw [this]
    simp only [similar_sizes_L0]
    rw [if_neg (by omega)]
    congr 3
    exact tbl_ext fun k hk0 hk1 => by rw [if_pos (by omega)]
end Xn

set_option linter.unusedVariables false
namespace Xn
open Go Go.Ev
theorem walk_eq {b : Node} (hb : size b < 2 ^ 29) {s2 s3 s17 s18 : Int} {y0 : List Pair} : ∀ (d : Nat) (z : Int), z ≤ d → 0 ≤ z → z < size b → ∀ (f : Int → Int), (∀ k, 0 ≤ k → k < z → 0 ≤ f k ∧ f k < 2 ^ 61) →
    iter (similar_above_L1 (tabOf b) s2 s3 s17 s18 y0) (par (tabOf b) z, tbl (size b) f) = some (.jmp 2 (-1, tbl (size b) fun k => f k + if Below b z k then 1 else 0)) := by
  have ht := tabOf_tbl b
  have hl := tabOf_len b
  have hpos := size_pos b
  intro d
  induction d with
  | zero =>
    intro z h1 h2 h3 f hf
    obtain rfl : z = 0 := by omega
    rw [par_zero ht, iter_jmp (n := 2) (s' := (-1, tbl (size b) f))]
    · congr 3
      exact tbl_ext fun k _ _ => by rw [if_neg below_zero]; omega
    · simp only [similar_above_L1]
      rw [if_neg (by omega)]
  | succ d ih =>
    intro z h1 h2 h3 f hf
    by_cases hz : z = 0
    · subst hz
      rw [par_zero ht, iter_jmp (n := 2) (s' := (-1, tbl (size b) f))]
      · congr 3
        exact tbl_ext fun k _ _ => by rw [if_neg below_zero]; omega
      · simp only [similar_above_L1]
        rw [if_neg (by omega)]
    · have hq := par_pos ht (i := z) (by omega) (by omega)
      have hbp := fun k => below_par (n := b) (z := z) (k := k) (by omega) h3
      generalize par (tabOf b) z = q at hq hbp
      have hrd : rd (tabOf b) q = some ((tabOf b)[q.toNat]'(by omega)) := rd_lt hq.1 (by omega)
      have hpar := par_rd hrd
      have hfq := hf q hq.1 hq.2
      have hstep : similar_above_L1 (tabOf b) s2 s3 s17 s18 y0 (q, tbl (size b) f) = some (.next (par (tabOf b) q, tbl (size b) fun k => if k = q then f q + 1 else f k)) := by
        simp only [similar_above_L1]
        rw [if_pos hq.1, tbl_rd hq.1 (by omega), Option.bind_some, hrd, Option.bind_some, w64_id (by omega) (by omega), tbl_set hq.1, hpar]
      rw [iter_next hstep, ih q (by omega) hq.1 (by omega) _ (fun k hk0 hk1 => by rw [if_neg (by omega)]; exact hf k hk0 (by omega))]
      congr 3
      refine tbl_ext fun k hk0 hk1 => ?_
      by_cases c1 : k = q
      · subst c1
        rw [if_pos rfl, if_neg (fun h => by have := h.1; omega), if_pos ((hbp k).2 (.inl rfl))]; omega
      · rw [if_neg c1]
        by_cases c2 : Below b q k
        · rw [if_pos c2, if_pos ((hbp k).2 (.inr c2))]
        · rw [if_neg c2, if_neg (fun h => ((hbp k).1 h).elim c1 c2)]
theorem above_eq {a b : Node} {O : List Pair} {i : Int} (hb : size b < 2 ^ 29) (ha : size a < 2 ^ 29) (hi : 0 ≤ i ∧ i < size a) (hO : O.length < 2 ^ 60) (hr : ∀ p ∈ O, 0 ≤ p.New ∧ p.New < size b) :
    similar_above (tabOf b) O i (szAt a i) = some (tbl (size b) fun k => (cntB a b O i k : Int)) := by
  unfold similar_above
  have hl := tabOf_len b
  have hsi := szAt_lt hi.1 hi.2
  rw [if_pos (by omega), Int.toNat_natCast, hl, tbl_rep]
  have h1 := iter_to (step := similar_above_L0 (tabOf b) i (szAt a i) (O.length : Int) O) (fun n => ((n : Int), tbl (size b) fun k => (cntB a b (O.take n) i k : Int))) O.length (fun n hn => by
    have hp := hr _ (List.getElem_mem hn)
    simp only [similar_above_L0, rd_nat, List.getElem?_eq_getElem hn, Option.bind_some]
    rw [if_pos (by omega), below_eq _ _ _ (by omega), Option.bind_some]
    have e : ∀ k, (cntB a b (O.take (n + 1)) i k : Int) = cntB a b (O.take n) i k + if (Below a O[n].Old i ∧ Below b O[n].New k) then 1 else 0 := by
      intro k
      unfold cntB
      rw [List.take_succ_eq_append_getElem hn, List.countP_append]
      by_cases h : Below a O[n].Old i ∧ Below b O[n].New k <;> simp [h]
    simp only [e]
    by_cases c1 : Below a O[n].Old i
    · rw [if_pos (decide_eq_true (show i < O[n].Old ∧ O[n].Old < i + szAt a i from c1))]
      have hrd : rd (tabOf b) O[n].New = some ((tabOf b)[O[n].New.toNat]'(by omega)) := rd_lt hp.1 (by omega)
      rw [hrd, Option.bind_some, ← par_rd hrd, walk_eq hb (size b) O[n].New (by omega) hp.1 hp.2 _ (fun k _ _ => by have := cntB_le a b (O.take n) i k; rw [List.length_take] at this; omega), Option.bind_some]
      simp only [c1, true_and]
      rw [w64_succ (by omega)]
    · rw [if_neg (by simpa using fun h1 h2 => c1 ⟨h1, h2⟩), w64_succ (by omega)]
      simp only [c1, false_and, if_false, Int.add_zero])
  have h2 : iter (similar_above_L0 (tabOf b) i (szAt a i) (O.length : Int) O) ((0 : Int), tbl (size b) fun _ => (0 : Int)) = _ := h1
  rw [h2, iter_jmp (n := 0) (s' := ((O.length : Int), tbl (size b) fun k => (cntB a b O i k : Int)))]
  · rfl
  · simp only [similar_above_L0, List.take_length]
    rw [if_neg (by omega)]
end Xn

set_option linter.unusedVariables false
namespace Xn
open Go Go.Ev
def knd (x : List Row) (i : Int) : Int := ((rd x i).map Row.Kind).getD 0
theorem knd_rd {x : List Row} {i : Int} {r : Row} (h : rd x i = some r) : knd x i = r.Kind := by unfold knd; rw [h]; rfl
def bstep (a b : Node) (O : List Pair) (i : Int) (st : Int × Int × Int) (k : Int) : Int × Int × Int :=
  if hasN O k = true ∨ kidsOf (tabOf b) k = [] ∨ knd (tabOf a) i ≠ knd (tabOf b) k then st
  else if szAt a i + szAt b k - 2 < 4 * (cntB a b O i k : Int) ∧ (st.1 < 0 ∨ st.2.1 * (szAt a i + szAt b k - 2) < (cntB a b O i k : Int) * st.2.2) then (k, (cntB a b O i k : Int), szAt a i + szAt b k - 2)
  else st
def bfold (a b : Node) (O : List Pair) (i : Int) : Nat → Int × Int × Int
  | 0 => (-1, 0, 1)
  | m + 1 => bstep a b O i (bfold a b O i m) ((m : Int) + 1)
def bestAt (a b : Node) (O : List Pair) (i : Int) : Int := (bfold a b O i (size b - 1)).1
def BI (b : Node) (L : Int) (st : Int × Int × Int) : Prop := (st.1 = -1 ∧ st.2.1 = 0 ∧ st.2.2 = 1) ∨ (1 ≤ st.1 ∧ st.1 < size b ∧ 0 < st.2.1 ∧ st.2.1 ≤ L ∧ 0 ≤ st.2.2 ∧ st.2.2 < 2 ^ 30)
theorem bfold_inv {a b : Node} {O : List Pair} {i : Int} (ha : size a < 2 ^ 29) (hb : size b < 2 ^ 29) (hi : 0 ≤ i ∧ i < size a) : ∀ m, m < size b → BI b O.length (bfold a b O i m)
  | 0, _ => .inl ⟨rfl, rfl, rfl⟩
  | m + 1, h => by
    have ih := bfold_inv (O := O) ha hb hi m (by omega)
    have hsi := szAt_lt hi.1 hi.2
    have hsk := szAt_lt (n := b) (i := (m : Int) + 1) (by omega) (by omega)
    have hc := cntB_le a b O i ((m : Int) + 1)
    rw [bfold, bstep]
    split
    · exact ih
    · split
      · rename_i h1
        right
        exact ⟨by simp only []; omega, by simp only []; omega, by simp only []; omega, by simp only []; omega, by simp only []; omega, by simp only []; omega⟩
      · exact ih
theorem mul_bound {x y : Int} (hx : 0 ≤ x ∧ x < 2 ^ 30) (hy : 0 ≤ y ∧ y < 2 ^ 30) : 0 ≤ x * y ∧ x * y < 2 ^ 60 := by
  have h1 : 0 ≤ x * y := Int.mul_nonneg hx.1 hy.1
  have h2 : x * y ≤ 2 ^ 30 * y := Int.mul_le_mul_of_nonneg_right (by omega) hy.1
  omega
theorem BI.bounds {b : Node} {L : Int} {st : Int × Int × Int} (h : BI b L st) (hL : L < 2 ^ 30) : (0 ≤ st.2.1 ∧ st.2.1 < 2 ^ 30) ∧ (0 ≤ st.2.2 ∧ st.2.2 < 2 ^ 30) ∧ (st.1 < 0 ↔ st.1 = -1) := by
  rcases h with ⟨h1, h2, h3⟩ | h
  · omega
  · omega
theorem best_eq {a b : Node} {O : List Pair} {i : Int} {y3 : List Bool} {y5 : List Pair} (ha : size a < 2 ^ 29) (hb : size b < 2 ^ 29) (hi : 0 ≤ i ∧ i < size a) (hO : O.length < 2 ^ 30) :
    iter (similar_Match_L2 (tabOf a) (tabOf b) (tbl (size a) (szAt a)) (tbl (size b) (szAt b)) i (tbl (size b) fun k => (cntB a b O i k : Int)) y3 (tbl (size b) (hasN O)) y5) ((-1 : Int), (0 : Int), (1 : Int), (1 : Int)) =
      some (.jmp 4 ((bfold a b O i (size b - 1)).1, (bfold a b O i (size b - 1)).2.1, (bfold a b O i (size b - 1)).2.2, (size b : Int))) := by
  have hla := tabOf_len a
  have hlb := tabOf_len b
  have hpos := size_pos b
  have hsi := szAt_lt hi.1 hi.2
  let st : Nat → Int × Int × Int × Int := fun m => ((bfold a b O i m).1, (bfold a b O i m).2.1, (bfold a b O i m).2.2, (m : Int) + 1)
  have h0 : ((-1 : Int), (0 : Int), (1 : Int), (1 : Int)) = st 0 := rfl
  rw [h0, iter_to st (size b - 1) (fun m hm => by
    have hinv := (bfold_inv (O := O) ha hb hi m (by omega)).bounds (by omega)
    have hk : 0 ≤ (m : Int) + 1 ∧ (m : Int) + 1 < size b := by omega
    have hsk := szAt_lt hk.1 hk.2
    have hc := cntB_le a b O i ((m : Int) + 1)
    have e1 : st (m + 1) = ((bstep a b O i (bfold a b O i m) ((m : Int) + 1)).1, (bstep a b O i (bfold a b O i m) ((m : Int) + 1)).2.1, (bstep a b O i (bfold a b O i m) ((m : Int) + 1)).2.2, (m : Int) + 1 + 1) := by
      simp only [st, bfold]; congr 3
    rw [e1]
    simp only [st]
    generalize bfold a b O i m = q at hinv
    obtain ⟨s, c, t⟩ := q
    simp only [] at hinv ⊢
    generalize (m : Int) + 1 = k at *
    have hw : w64 (k + 1) = k + 1 := w64_id (by omega) (by omega)
    have hrb : rd (tabOf b) k = some ((tabOf b)[k.toNat]'(by omega)) := rd_lt hk.1 (by omega)
    have hra : rd (tabOf a) i = some ((tabOf a)[i.toNat]'(by omega)) := rd_lt hi.1 (by omega)
    have hkk := kidsOf_rd hrb
    have hkb := knd_rd hrb
    have hka := knd_rd hra
    simp only [similar_Match_L2, hrb, hra, Option.bind_some]
    rw [if_pos (by omega), tbl_rd hk.1 hk.2, Option.bind_some, hw]
    unfold bstep
    by_cases c1 : hasN O k = true
    · rw [if_pos c1, if_pos (.inl c1)]
    rw [if_neg c1]
    by_cases c2 : kidsOf (tabOf b) k = []
    · rw [if_pos (by rw [← hkk, c2]; rfl), if_pos (.inr (.inl c2))]
    rw [if_neg (by rw [← hkk]; intro e; exact c2 (List.length_eq_zero_iff.1 (by omega)))]
    by_cases c3 : knd (tabOf a) i = knd (tabOf b) k
    case neg => rw [if_neg (by rw [← hka, ← hkb]; exact c3), if_pos (.inr (.inr c3))]
    rw [if_pos (by rw [← hka, ← hkb]; exact c3), tbl_rd hk.1 hk.2, Option.bind_some, tbl_rd hi.1 hi.2, Option.bind_some, tbl_rd hk.1 hk.2, Option.bind_some, if_neg (show ¬ (hasN O k = true ∨ kidsOf (tabOf b) k = [] ∨ knd (tabOf a) i ≠ knd (tabOf b) k) from by rintro (h | h | h); exact c1 h; exact c2 h; exact h c3)]
    rw [w64_id (x := szAt a i + szAt b k) (by omega) (by omega), w64_id (x := szAt a i + szAt b k - 2) (by omega) (by omega), w64_id (x := 4 * (cntB a b O i k : Int)) (by omega) (by omega)]
    have m1 := mul_bound (x := c) (y := szAt a i + szAt b k - 2) hinv.1 (by omega)
    have m2 := mul_bound (x := (cntB a b O i k : Int)) (y := t) (by omega) hinv.2.1
    rw [w64_id (x := c * (szAt a i + szAt b k - 2)) (by omega) (by omega), w64_id (x := (cntB a b O i k : Int) * t) (by omega) (by omega)]
    by_cases c4 : szAt a i + szAt b k - 2 < 4 * (cntB a b O i k : Int)
    · rw [if_pos c4]
      by_cases c5 : s < 0
      · rw [if_pos c5, if_pos ⟨c4, .inl c5⟩]
      · rw [if_neg c5]
        by_cases c6 : c * (szAt a i + szAt b k - 2) < (cntB a b O i k : Int) * t
        · rw [if_pos c6, if_pos ⟨c4, .inr c6⟩]
        · rw [if_neg c6, if_neg (fun h => h.2.elim c5 c6)]
    · rw [if_neg c4, if_neg (fun h => c4 h.1)])]
  refine (iter_jmp (n := 4) (s' := st (size b - 1)) ?_).trans ?_
  · simp only [st, similar_Match_L2]
    rw [if_neg (by omega)]
  · simp only [st]
    congr 5
    omega
end Xn

set_option linter.unusedVariables false
namespace Xn
open Go Go.Ev
structure Inv (a b : Node) (O : List Pair) : Prop where
  old : (O.map Pair.Old).Nodup
  new : (O.map Pair.New).Nodup
  rng : ∀ p ∈ O, 0 ≤ p.Old ∧ p.Old < size a ∧ 0 ≤ p.New ∧ p.New < size b
  kind : ∀ p ∈ O, knd (tabOf a) p.Old = knd (tabOf b) p.New
  root : ∀ p ∈ O, p.Old = 0 ↔ p.New = 0
theorem Inv.len {a b : Node} {O : List Pair} (h : Inv a b O) : O.length ≤ size a := by
  have := nodup_le (O.map Pair.Old) ((List.range (size a)).map fun k : Nat => (k : Int)) h.old (fun v hv => by
    obtain ⟨p, hp, rfl⟩ := List.mem_map.1 hv
    have := h.rng p hp
    exact List.mem_map.2 ⟨p.Old.toNat, List.mem_range.2 (by omega), by omega⟩)
  simpa using this
theorem Inv.perm {a b : Node} {O S : List Pair} (h : Inv a b O) (hp : S.Perm O) : Inv a b S where
  old := (hp.map _).nodup_iff.2 h.old
  new := (hp.map _).nodup_iff.2 h.new
  rng p hm := h.rng p (hp.mem_iff.1 hm)
  kind p hm := h.kind p (hp.mem_iff.1 hm)
  root p hm := h.root p (hp.mem_iff.1 hm)
theorem hasO_app (O : List Pair) (p : Pair) (k : Int) : hasO (O ++ [p]) k = (hasO O k || decide (p.Old = k)) := by
  unfold hasO; rw [List.any_append]; simp
theorem hasN_app (O : List Pair) (p : Pair) (k : Int) : hasN (O ++ [p]) k = (hasN O k || decide (p.New = k)) := by
  unfold hasN; rw [List.any_append]; simp
theorem Inv.add {a b : Node} {O : List Pair} {i k : Int} (h : Inv a b O) (h1 : ¬ hasO O i = true) (h2 : ¬ hasN O k = true) (hi : 0 ≤ i ∧ i < size a) (hk : 0 ≤ k ∧ k < size b) (hkd : knd (tabOf a) i = knd (tabOf b) k) (hr : i = 0 ↔ k = 0) : Inv a b (O ++ [⟨i, k⟩]) where
  old := by
    rw [List.map_append, List.nodup_append]
    refine ⟨h.old, by simp, fun v hv w hw => ?_⟩
    simp only [List.map_cons, List.map_nil, List.mem_singleton] at hw
    subst hw
    rintro rfl
    obtain ⟨p, hp, e⟩ := List.mem_map.1 hv
    exact h1 (hasO_iff.2 ⟨p, hp, e⟩)
  new := by
    rw [List.map_append, List.nodup_append]
    refine ⟨h.new, by simp, fun v hv w hw => ?_⟩
    simp only [List.map_cons, List.map_nil, List.mem_singleton] at hw
    subst hw
    rintro rfl
    obtain ⟨p, hp, e⟩ := List.mem_map.1 hv
    exact h2 (hasN_iff.2 ⟨p, hp, e⟩)
  rng p hp := by
    rcases List.mem_append.1 hp with hp | hp
    · exact h.rng p hp
    · obtain rfl := List.mem_singleton.1 hp; exact ⟨hi.1, hi.2, hk.1, hk.2⟩
  kind p hp := by
    rcases List.mem_append.1 hp with hp | hp
    · exact h.kind p hp
    · obtain rfl := List.mem_singleton.1 hp; exact hkd
  root p hp := by
    rcases List.mem_append.1 hp with hp | hp
    · exact h.root p hp
    · obtain rfl := List.mem_singleton.1 hp; exact hr
def Cand (a b : Node) (O : List Pair) (i : Int) (st : Int × Int × Int) : Prop := st.1 = -1 ∨
  (1 ≤ st.1 ∧ st.1 < size b ∧ ¬ hasN O st.1 = true ∧ kidsOf (tabOf b) st.1 ≠ [] ∧ knd (tabOf a) i = knd (tabOf b) st.1 ∧ st.2.1 = (cntB a b O i st.1 : Int) ∧ st.2.2 = szAt a i + szAt b st.1 - 2 ∧ st.2.2 < 4 * st.2.1)
theorem bfold_cand {a b : Node} {O : List Pair} {i : Int} : ∀ m, m < size b → Cand a b O i (bfold a b O i m)
  | 0, _ => .inl rfl
  | m + 1, h => by
    have ih := bfold_cand (a := a) (b := b) (O := O) (i := i) m (by omega)
    rw [bfold, bstep]
    split
    · exact ih
    · rename_i h0
      split
      · rename_i h1
        right
        refine ⟨by simp only []; omega, by simp only []; omega, fun e => h0 (.inl e), fun e => h0 (.inr (.inl e)), ?_, rfl, rfl, h1.1⟩
        exact Classical.byContradiction fun e => h0 (.inr (.inr e))
      · exact ih
theorem bestAt_cand {a b : Node} {O : List Pair} {i : Int} (h : 0 < bestAt a b O i) : 1 ≤ bestAt a b O i ∧ bestAt a b O i < size b ∧ ¬ hasN O (bestAt a b O i) = true ∧ kidsOf (tabOf b) (bestAt a b O i) ≠ [] ∧ knd (tabOf a) i = knd (tabOf b) (bestAt a b O i) ∧
    szAt a i + szAt b (bestAt a b O i) - 2 < 4 * (cntB a b O i (bestAt a b O i) : Int) := by
  have hpos := size_pos b
  unfold bestAt at h ⊢
  rcases bfold_cand (a := a) (b := b) (O := O) (i := i) (size b - 1) (by omega) with h1 | ⟨h1, h2, h3, h4, h5, h6, h7, h8⟩
  · omega
  · rw [h6, h7] at h8
    exact ⟨h1, h2, h3, h4, h5, h8⟩
def stepM (a b : Node) (O : List Pair) (i : Int) : List Pair :=
  if hasO O i = true then O else if kidsOf (tabOf a) i = [] then O else if 0 < bestAt a b O i then O ++ [⟨i, bestAt a b O i⟩] else O
def runM (a b : Node) (O : List Pair) : Nat → List Pair
  | 0 => O
  | n + 1 => stepM a b (runM a b O n) ((size a : Int) - 1 - n)
theorem stepM_inv {a b : Node} {O : List Pair} {i : Int} (h : Inv a b O) (hi : 0 < i ∧ i < size a) : Inv a b (stepM a b O i) := by
  unfold stepM
  split
  · exact h
  · split
    · exact h
    · split
      · rename_i h1 h2 h3
        obtain ⟨c1, c2, c3, c4, c5, c6⟩ := bestAt_cand h3
        exact h.add h1 c3 ⟨by omega, hi.2⟩ ⟨by omega, c2⟩ c5 (by omega)
      · exact h
theorem runM_inv {a b : Node} {O : List Pair} (h : Inv a b O) : ∀ n, n < size a → Inv a b (runM a b O n)
  | 0, _ => h
  | n + 1, hn => stepM_inv (runM_inv h n (by omega)) (by omega)
theorem loop_eq {a b : Node} {O : List Pair} (ha : size a < 2 ^ 29) (hb : size b < 2 ^ 29) (h : Inv a b O) :
    iter (similar_Match_L1 (tabOf a) (tabOf b) (tbl (size a) (szAt a)) (tbl (size b) (szAt b))) (w64 (((tabOf a).length : Int) - 1), tbl (size a) (hasO O), tbl (size b) (hasN O), O) =
      some (.jmp 2 (0, tbl (size a) (hasO (runM a b O (size a - 1))), tbl (size b) (hasN (runM a b O (size a - 1))), runM a b O (size a - 1))) := by
  have hla := tabOf_len a
  have hlb := tabOf_len b
  have hpa := size_pos a
  let st : Nat → Int × List Bool × List Bool × List Pair := fun n => ((size a : Int) - 1 - n, tbl (size a) (hasO (runM a b O n)), tbl (size b) (hasN (runM a b O n)), runM a b O n)
  have h0 : (w64 (((tabOf a).length : Int) - 1), tbl (size a) (hasO O), tbl (size b) (hasN O), O) = st 0 := by
    simp only [st, runM]
    rw [w64_id (by omega) (by omega), hla]
    congr 1
    omega
  rw [h0, iter_to st (size a - 1) (fun n hn => by
    have hinv := runM_inv h n (by omega)
    have hlen := hinv.len
    have e1 : st (n + 1) = ((size a : Int) - 1 - n - 1, tbl (size a) (hasO (stepM a b (runM a b O n) ((size a : Int) - 1 - n))), tbl (size b) (hasN (stepM a b (runM a b O n) ((size a : Int) - 1 - n))), stepM a b (runM a b O n) ((size a : Int) - 1 - n)) := by
      simp only [st, runM]; congr 1; omega
    rw [e1]
    simp only [st]
    generalize runM a b O n = O at *
    have hi : 0 < (size a : Int) - 1 - n ∧ (size a : Int) - 1 - n < size a := by omega
    generalize (size a : Int) - 1 - n = i at *
    have hw : w64 (i - 1) = i - 1 := w64_id (by omega) (by omega)
    have hra : rd (tabOf a) i = some ((tabOf a)[i.toNat]'(by omega)) := rd_lt (by omega) (by omega)
    have hkk := kidsOf_rd hra
    simp only [similar_Match_L1, hra, Option.bind_some]
    rw [if_pos hi.1, tbl_rd (by omega) hi.2, Option.bind_some, hw]
    unfold stepM
    by_cases c1 : hasO O i = true
    · rw [if_pos c1, if_pos c1]
    rw [if_neg c1, if_neg c1]
    by_cases c2 : kidsOf (tabOf a) i = []
    · rw [if_pos (by rw [← hkk, c2]; rfl), if_pos c2]
    rw [if_neg (show ¬ (((tabOf a)[i.toNat]'(by omega)).Kids.length : Int) = 0 from by rw [← hkk]; intro e; exact c2 (List.length_eq_zero_iff.1 (by omega))), if_neg c2, tbl_rd (by omega) hi.2, Option.bind_some,
      above_eq hb ha ⟨by omega, hi.2⟩ (by omega) (fun p hp => ⟨(hinv.rng p hp).2.2.1, (hinv.rng p hp).2.2.2⟩), Option.bind_some, best_eq ha hb ⟨by omega, hi.2⟩ (by omega), Option.bind_some]
    simp only []
    show (if 0 < bestAt a b O i then _ else _) = _
    by_cases c3 : 0 < bestAt a b O i
    · obtain ⟨d1, d2, d3, d4, d5, d6⟩ := bestAt_cand c3
      rw [if_pos c3, if_pos c3]
      have e2 : similar_Match_c1 i (bestAt a b O i) O (tbl (size a) (hasO O)) (tbl (size b) (hasN O)) = some (tbl (size a) (hasO (O ++ [⟨i, bestAt a b O i⟩])), tbl (size b) (hasN (O ++ [⟨i, bestAt a b O i⟩])), O ++ [⟨i, bestAt a b O i⟩]) := by
        unfold similar_Match_c1
        rw [if_pos (by omega), tbl_rd (by omega) hi.2, Option.bind_some, tbl_rd (by omega) d2, Option.bind_some, tbl_set (by omega), tbl_set (by omega)]
        congr 2
        · refine tbl_ext fun k _ _ => ?_
          rw [hasO_app]
          by_cases e : k = i
          · subst e; rw [if_pos rfl]; simp
          · rw [if_neg e, decide_eq_false (fun e' => e e'.symm), Bool.or_false]
        · congr 1
          refine tbl_ext fun k _ _ => ?_
          rw [hasN_app]
          by_cases e : k = bestAt a b O i
          · rw [if_pos e, decide_eq_true e.symm, Bool.or_true]
          · rw [if_neg e, decide_eq_false (fun e' => e e'.symm), Bool.or_false]
      show (similar_Match_c1 i (bestAt a b O i) O (tbl (size a) (hasO O)) (tbl (size b) (hasN O))).bind _ = _
      rw [e2, Option.bind_some]
      simp only [tbl_len, and_self, if_true]
    · rw [if_neg c3, if_neg c3])]
  refine (iter_jmp (n := 2) (s' := st (size a - 1)) ?_).trans ?_
  · simp only [st, similar_Match_L1]
    rw [if_neg (by omega)]
  · simp only [st]
    congr 3
    omega
end Xn

set_option linter.unusedVariables false
namespace Xn
open Go Go.Ev
theorem part_inv {a b : Node} {m : List Pair} (h : PartOk a b m) : Inv a b m ∧ m.Pairwise (fun p q => p.Old < q.Old) := by
  have hla := tabOf_len a
  have hlb := tabOf_len b
  have hget : ∀ (i j : Nat) (p q : Pair), i < j → m[i]? = some p → m[j]? = some q → p.Old < q.Old ∧ p.New ≠ q.New := by
    intro i j p q hij hp hq
    obtain ⟨p', u, v, g1, g2, g3, g4, g5, g6, g7, g8⟩ := h j (List.getElem?_eq_some_iff.1 hq).1
    rw [hq] at g1; obtain rfl := Option.some.inj g1
    exact g6 i hij p hp
  have hs : m.Pairwise (fun p q => p.Old < q.Old ∧ p.New ≠ q.New) := List.pairwise_iff_getElem.2 fun i j hi hj hij => hget i j _ _ hij (List.getElem?_eq_getElem hi) (List.getElem?_eq_getElem hj)
  have hm : ∀ p ∈ m, ∃ u v, 0 ≤ p.Old ∧ (tabOf a)[p.Old.toNat]? = some u ∧ 0 ≤ p.New ∧ (tabOf b)[p.New.toNat]? = some v ∧ u.Kind = v.Kind ∧ (p.Old = 0 ↔ p.New = 0) := by
    intro p hp
    obtain ⟨i, hi⟩ := List.getElem?_of_mem hp
    obtain ⟨p', u, v, g1, g2, g3, g4, g5, g6, g7, g8⟩ := h i (List.getElem?_eq_some_iff.1 hi).1
    rw [hi] at g1; obtain rfl := Option.some.inj g1
    exact ⟨u, v, g2, g3, g4, g5, g7, g8⟩
  refine ⟨⟨?_, ?_, fun p hp => ?_, fun p hp => ?_, fun p hp => ?_⟩, hs.imp fun h => h.1⟩
  · exact List.pairwise_map.2 (hs.imp fun h => by omega)
  · exact List.pairwise_map.2 (hs.imp fun h => h.2)
  · obtain ⟨u, v, g1, g2, g3, g4, g5, g6⟩ := hm p hp
    have := (List.getElem?_eq_some_iff.1 g2).1
    have := (List.getElem?_eq_some_iff.1 g4).1
    omega
  · obtain ⟨u, v, g1, g2, g3, g4, g5, g6⟩ := hm p hp
    rw [knd_rd (r := u) (by unfold rd; rw [if_pos (by omega)]; exact g2), knd_rd (r := v) (by unfold rd; rw [if_pos (by omega)]; exact g4), g5]
  · obtain ⟨u, v, g1, g2, g3, g4, g5, g6⟩ := hm p hp
    exact g6
theorem inv_part {a b : Node} {m : List Pair} (h : Inv a b m) (hs : m.Pairwise (fun p q => p.Old < q.Old)) : PartOk a b m := by
  have hla := tabOf_len a
  have hlb := tabOf_len b
  intro i hi
  have hp := List.getElem_mem hi
  have hr := h.rng _ hp
  have h1 : (tabOf a)[(m[i].Old).toNat]? = some ((tabOf a)[(m[i].Old).toNat]'(by omega)) := List.getElem?_eq_getElem _
  have h2 : (tabOf b)[(m[i].New).toNat]? = some ((tabOf b)[(m[i].New).toNat]'(by omega)) := List.getElem?_eq_getElem _
  refine ⟨m[i], _, _, List.getElem?_eq_getElem hi, hr.1, h1, hr.2.2.1, h2, fun j hj q hq => ?_, ?_, h.root _ hp⟩
  · obtain ⟨hjl, e⟩ := List.getElem?_eq_some_iff.1 hq
    subst e
    refine ⟨List.pairwise_iff_getElem.1 hs j i hjl hi hj, ?_⟩
    have := List.pairwise_iff_getElem.1 (List.pairwise_map.1 h.new) j i hjl hi hj
    exact this
  · have := h.kind _ hp
    rwa [knd_rd (r := (tabOf a)[(m[i].Old).toNat]'(by omega)) (by unfold rd; rw [if_pos (by omega)]; exact h1), knd_rd (r := (tabOf b)[(m[i].New).toNat]'(by omega)) (by unfold rd; rw [if_pos (by omega)]; exact h2)] at this
theorem c2_keyed {O : List Pair} (h : ∀ p ∈ O, 0 ≤ p.Old ∧ p.Old < 2 ^ 40) : Keyed similar_Match_c2 Pair.Old O := by
  intro x hx y hy
  have := h x hx
  have := h y hy
  refine ⟨x.Old - y.Old, ?_, by omega⟩
  unfold similar_Match_c2
  rw [w64_id (by omega) (by omega)]
def startO (a b : Node) (m : List Pair) : List Pair := if a.Kind = b.Kind ∧ ¬ hasO m 0 = true then m ++ [⟨0, 0⟩] else m
def matchO (a b : Node) (m : List Pair) : List Pair := runM a b (startO a b m) (size a - 1)
theorem root_knd (a : Node) : ∃ r, rd (tabOf a) 0 = some r ∧ r.Kind = a.Kind := by
  obtain ⟨r, h1, h2⟩ := tab_kind a
  exact ⟨r, (rd_nat (i := 0)).trans h1, h2⟩
theorem start_inv {a b : Node} {m : List Pair} (h : Inv a b m) : Inv a b (startO a b m) := by
  unfold startO
  have hpa := size_pos a
  have hpb := size_pos b
  split
  · rename_i hc
    obtain ⟨ra, h1, h2⟩ := root_knd a
    obtain ⟨rb, h3, h4⟩ := root_knd b
    refine h.add hc.2 (fun e => ?_) (by omega) (by omega) (by rw [knd_rd h1, knd_rd h3, h2, h4]; exact hc.1) (by omega)
    obtain ⟨p, hp, e⟩ := hasN_iff.1 e
    exact hc.2 (hasO_iff.2 ⟨p, hp, (h.root p hp).2 e⟩)
  · exact h
theorem match_inv {a b : Node} {m : List Pair} (h : Inv a b m) : Inv a b (matchO a b m) := runM_inv (start_inv h) _ (by have := size_pos a; omega)
theorem flags_eq {a b : Node} {m : List Pair} {s10 s11 : List Int} {y5 : List Pair} (hm : m.length < 2 ^ 60) (h : ∀ p ∈ m, 0 ≤ p.Old ∧ p.Old < size a ∧ 0 ≤ p.New ∧ p.New < size b) :
    iter (similar_Match_L0 (tabOf a) (tabOf b) s10 s11 m (m.length : Int) y5) ((0 : Int), List.replicate (size a) false, List.replicate (size b) false) = some (.jmp 0 ((m.length : Int), tbl (size a) (hasO m), tbl (size b) (hasN m))) := by
  let st : Nat → Int × List Bool × List Bool := fun n => ((n : Int), tbl (size a) (hasO (m.take n)), tbl (size b) (hasN (m.take n)))
  have h0 : ((0 : Int), List.replicate (size a) false, List.replicate (size b) false) = st 0 := by
    simp only [st, tbl_rep]; rfl
  rw [h0, iter_to st m.length (fun n hn => by
    have hp := h _ (List.getElem_mem hn)
    simp only [st, similar_Match_L0, rd_nat, List.getElem?_eq_getElem hn, Option.bind_some]
    rw [if_pos (by omega), tbl_rd hp.1 hp.2.1, Option.bind_some, tbl_rd hp.2.2.1 hp.2.2.2, Option.bind_some, tbl_set hp.1, tbl_set hp.2.2.1, w64_succ (by omega), List.take_succ_eq_append_getElem hn]
    congr 3
    · congr 1
      · refine tbl_ext fun k _ _ => ?_
        rw [hasO_app]
        by_cases e : k = m[n].Old
        · rw [if_pos e, decide_eq_true e.symm, Bool.or_true]
        · rw [if_neg e, decide_eq_false (fun e' => e e'.symm), Bool.or_false]
      · refine tbl_ext fun k _ _ => ?_
        rw [hasN_app]
        by_cases e : k = m[n].New
        · rw [if_pos e, decide_eq_true e.symm, Bool.or_true]
        · rw [if_neg e, decide_eq_false (fun e' => e e'.symm), Bool.or_false])]
  refine (iter_jmp (n := 0) (s' := st m.length) ?_).trans ?_
  · simp only [st, similar_Match_L0]
    rw [if_neg (by omega)]
  · simp only [st, List.take_length]
open Classical in
theorem match_eq {a b : Node} {m : List Pair} (ha : size a ≤ 60000) (hb : size b < 2 ^ 29) (hga : gapsB a = true) (hgb : gapsB b = true) (hm : m.length < 2 ^ 40) :
    (PartOk a b m → ∃ t, similar_Match a b m = some (t, 0) ∧ t.Perm (matchO a b m) ∧ t.Pairwise (fun p q => p.Old < q.Old)) ∧ (¬ PartOk a b m → similar_Match a b m = some ([], 15)) := by
  have hla := tabOf_len a
  have hlb := tabOf_len b
  have hpa := size_pos a
  have hpb := size_pos b
  constructor
  · intro hP
    obtain ⟨hinv, hsorted⟩ := part_inv hP
    have hMinv := match_inv hinv
    have hMlen := hMinv.len
    obtain ⟨t, h1, h2, h3⟩ := sort_all (p := similar_Match_c2) (key := Pair.Old) (l := matchO a b m) (c2_keyed fun p hp => by have := hMinv.rng p hp; omega) hMinv.old (by omega)
    refine ⟨t, ?_, h2, h3⟩
    obtain ⟨ra, r1, r2⟩ := root_knd a
    obtain ⟨rb, r3, r4⟩ := root_knd b
    unfold similar_Match
    rw [tree_rows_eq (by omega) hga, Option.bind_some, tree_rows_eq (by omega) hgb, Option.bind_some, partial_eq (by omega) (by omega) (by omega), Option.bind_some, if_pos (decide_eq_true hP),
      sizes_eq (by omega) hga, Option.bind_some, sizes_eq hb hgb, Option.bind_some, if_pos (by omega), if_pos (by omega)]
    unfold slices_Clone
    rw [if_pos (by omega), Option.bind_some, Int.toNat_natCast, Int.toNat_natCast, hla, hlb, flags_eq (by omega) hinv.rng, Option.bind_some]
    simp only [r1, r3, Option.bind_some, r2, r4]
    have fin : ∀ {O : List Pair}, runM a b O (size a - 1) = matchO a b m → Inv a b O → (iter (similar_Match_L1 (tabOf a) (tabOf b) (tbl (size a) (szAt a)) (tbl (size b) (szAt b))) (w64 ((size a : Int) - 1), tbl (size a) (hasO O), tbl (size b) (hasN O), O)) = some (.jmp 2 (0, tbl (size a) (hasO (matchO a b m)), tbl (size b) (hasN (matchO a b m)), matchO a b m)) := by
      intro O e hO
      have := loop_eq (by omega) hb hO
      rw [hla, e] at this
      exact this
    by_cases hk : a.Kind = b.Kind
    · rw [if_pos hk, tbl_rd (by omega) (by omega), Option.bind_some]
      by_cases h0 : hasO m 0 = true
      · have e : runM a b m (size a - 1) = matchO a b m := by unfold matchO startO; rw [if_neg (fun h => h.2 h0)]
        rw [if_pos h0, fin e hinv, Option.bind_some]
        simp only [h1, Option.bind_some, h2.length_eq, if_true]
      · have e : runM a b (m ++ [⟨0, 0⟩]) (size a - 1) = matchO a b m := by unfold matchO startO; rw [if_pos ⟨hk, h0⟩]
        have hO : Inv a b (m ++ [⟨0, 0⟩]) := by have := start_inv hinv; unfold startO at this; rwa [if_pos ⟨hk, h0⟩] at this
        have e2 : similar_Match_c1 0 0 m (tbl (size a) (hasO m)) (tbl (size b) (hasN m)) = some (tbl (size a) (hasO (m ++ [⟨0, 0⟩])), tbl (size b) (hasN (m ++ [⟨0, 0⟩])), m ++ [⟨0, 0⟩]) := by
          unfold similar_Match_c1
          rw [if_pos (by omega), tbl_rd (by omega) (by omega), Option.bind_some, tbl_rd (by omega) (by omega), Option.bind_some, tbl_set (by omega), tbl_set (by omega)]
          congr 2
          · refine tbl_ext fun k _ _ => ?_
            rw [hasO_app]
            by_cases e : k = 0
            · rw [if_pos e, decide_eq_true e.symm, Bool.or_true]
            · rw [if_neg e, decide_eq_false (fun e' => e e'.symm), Bool.or_false]
          · congr 1
            refine tbl_ext fun k _ _ => ?_
            rw [hasN_app]
            by_cases e : k = 0
            · rw [if_pos e, decide_eq_true e.symm, Bool.or_true]
            · rw [if_neg e, decide_eq_false (fun e' => e e'.symm), Bool.or_false]
        rw [if_neg h0, e2, Option.bind_some]
        simp only [tbl_len, and_self, if_true]
        rw [fin e hO, Option.bind_some]
        simp only [h1, Option.bind_some, h2.length_eq, if_true]
    · have e : runM a b m (size a - 1) = matchO a b m := by unfold matchO startO; rw [if_neg (fun h => hk h.1)]
      rw [if_neg hk, fin e hinv, Option.bind_some]
      simp only [h1, Option.bind_some, h2.length_eq, if_true]
  · intro hP
    unfold similar_Match
    rw [tree_rows_eq (by omega) hga, Option.bind_some, tree_rows_eq (by omega) hgb, Option.bind_some, partial_eq (by omega) (by omega) (by omega), Option.bind_some, if_neg (by rw [decide_eq_false hP]; simp)]
end Xn

set_option linter.unusedVariables false

set_option linter.unusedVariables false

set_option linter.unusedVariables false
namespace Xn
open Go Go.Ev
def idm (n : Nat) : List Pair := (List.range n).map fun k : Nat => (⟨(k : Int), (k : Int)⟩ : Pair)
theorem idm_len (n : Nat) : (idm n).length = n := by simp [idm]
theorem idm_mem {n : Nat} {p : Pair} : p ∈ idm n ↔ p.Old = p.New ∧ 0 ≤ p.Old ∧ p.Old < n := by
  unfold idm
  rw [List.mem_map]
  constructor
  · rintro ⟨k, hk, rfl⟩
    have := List.mem_range.1 hk
    exact ⟨rfl, by simp only []; omega, by simp only []; omega⟩
  · rintro ⟨h1, h2, h3⟩
    refine ⟨p.Old.toNat, List.mem_range.2 (by omega), ?_⟩
    cases p
    simp only [Pair.mk.injEq] at *
    omega
theorem idm_succ (n : Nat) : idm (n + 1) = idm n ++ [⟨(n : Int), (n : Int)⟩] := by
  unfold idm; rw [List.range_succ, List.map_append]; rfl
theorem idm_asc : ∀ n, (idm n).Pairwise (fun p q => p.Old < q.Old)
  | 0 => List.Pairwise.nil
  | n + 1 => by
    rw [idm_succ, List.pairwise_append]
    refine ⟨idm_asc n, List.pairwise_singleton _ _, fun p hp q hq => ?_⟩
    obtain rfl := List.mem_singleton.1 hq
    have := idm_mem.1 hp
    simp only []; omega
theorem idm_inv (a : Node) : Inv a a (idm (size a)) where
  old := List.pairwise_map.2 ((idm_asc _).imp fun h => by omega)
  new := by
    have e : (idm (size a)).map Pair.New = (idm (size a)).map Pair.Old := List.map_congr_left fun p hp => (idm_mem.1 hp).1.symm
    rw [e]
    exact List.pairwise_map.2 ((idm_asc _).imp fun h => by omega)
  rng p hp := by have := idm_mem.1 hp; omega
  kind p hp := by rw [(idm_mem.1 hp).1]
  root p hp := by rw [(idm_mem.1 hp).1]
theorem idm_has {n : Nat} {i : Int} (h0 : 0 ≤ i) (h1 : i < n) : hasO (idm n) i = true := hasO_iff.2 ⟨⟨i, i⟩, idm_mem.2 ⟨rfl, h0, h1⟩, rfl⟩
theorem idm_match (a : Node) : matchO a a (idm (size a)) = idm (size a) := by
  have hpa := size_pos a
  have e : startO a a (idm (size a)) = idm (size a) := by unfold startO; rw [if_neg (fun h => h.2 (idm_has (by omega) (by omega)))]
  unfold matchO
  rw [e]
  have key : ∀ n, n < size a → runM a a (idm (size a)) n = idm (size a) := by
    intro n
    induction n with
    | zero => intro _; rfl
    | succ n ih =>
      intro hn
      rw [runM, ih (by omega)]
      unfold stepM
      rw [if_pos (idm_has (by omega) (by omega))]
  exact key _ (by omega)
theorem cnt_range (lo hi : Int) (h0 : 0 ≤ lo) : ∀ n : Nat, (((idm n).countP fun p => decide (lo < p.Old ∧ p.Old < hi) : Nat) : Int) = max 0 (min (n : Int) hi - min (n : Int) (lo + 1))
  | 0 => by simp only [idm, List.range_zero, List.map_nil, List.countP_nil]; omega
  | n + 1 => by
    have ih := cnt_range lo hi h0 n
    rw [idm_succ, List.countP_append]
    have e : ([(⟨(n : Int), (n : Int)⟩ : Pair)].countP fun p => decide (lo < p.Old ∧ p.Old < hi)) = if lo < (n : Int) ∧ (n : Int) < hi then 1 else 0 := by
      by_cases h : lo < (n : Int) ∧ (n : Int) < hi <;> simp [h]
    rw [e]
    by_cases h : lo < (n : Int) ∧ (n : Int) < hi
    · rw [if_pos h]; omega
    · rw [if_neg h]; omega
theorem idm_cnt {a : Node} {i : Int} (hi : 0 ≤ i ∧ i < size a) : (cntB a a (idm (size a)) i i : Int) = szAt a i - 1 := by
  have hs := szAt_lt hi.1 hi.2
  have e : cntB a a (idm (size a)) i i = (idm (size a)).countP fun p => decide (i < p.Old ∧ p.Old < i + szAt a i) := by
    unfold cntB
    refine List.countP_congr fun p hp => ?_
    have h1 := (idm_mem.1 hp).1
    rw [decide_eq_true_eq, decide_eq_true_eq, ← h1]
    exact ⟨fun h => h.1, fun h => ⟨h, h⟩⟩
  rw [e, cnt_range i (i + szAt a i) hi.1]
  omega
theorem plain_self (a : Node) (wa : Wf_Node a) (i : Int) (wi : wfInt .i64 i) : law22_SimilarSelf a i = some true := by
  unfold law22_SimilarSelf law22_awake
  rw [small22_eq a, Option.bind_some]
  by_cases h1 : (size a : Int) ≤ 40 ∧ (height a : Int) ≤ 30
  case neg => rw [if_neg (by simpa using h1)]; rfl
  have hpa := size_pos a
  have hi63 := int_hi wi
  rw [if_pos (decide_eq_true h1)]
  unfold R06_SizeS
  rw [if_pos (by omega), Option.bind_some]
  have l1 := iter_to (step := law22_SimilarSelf_L0 i (size a : Int) a.Kind a.Text a.Gaps a.Kids) (fun n => ((n : Int), idm n)) (size a) (fun n hn => by
    simp only [law22_SimilarSelf_L0]
    rw [if_pos (by omega), if_pos (by rw [idm_len]; omega), w64_succ (by omega), idm_succ])
  have l2 : iter (law22_SimilarSelf_L0 i (size a : Int) a.Kind a.Text a.Gaps a.Kids) ((0 : Int), ([] : List Pair)) = _ := l1
  rw [l2, iter_jmp (n := 0) (s' := ((size a : Int), idm (size a))) (by simp only [law22_SimilarSelf_L0]; rw [if_neg (by omega)]), Option.bind_some]
  simp only []
  have hP := inv_part (idm_inv a) (idm_asc _)
  obtain ⟨t, e1, e2, e3⟩ := (match_eq (a := a) (b := a) (m := idm (size a)) (by omega) (by omega) (wf_gaps a wa) (wf_gaps a wa) (by rw [idm_len]; omega)).1 hP
  rw [idm_match] at e2
  have ht : t = idm (size a) := sorted_ext (key := Pair.Old) e3 (idm_asc _) fun v => e2.mem_iff
  subst ht
  rw [score_eq (by omega) (by omega) (wf_gaps a wa) (wf_gaps a wa) (by rw [idm_len]; omega) hi63.2 hi63.2, Option.bind_some, e1, Option.bind_some, if_pos rfl, pairs_same _ (by rw [idm_len]; omega), Option.bind_some, if_pos rfl]
  have hout : ¬ (0 ≤ i ∧ i < size a) → scoreV a a (idm (size a)) i i = (0, 0) := fun h => by unfold scoreV; rw [if_neg (fun e => h e.1)]
  unfold R06_At
  by_cases c1 : i < 0
  · rw [if_pos c1, Option.bind_some, if_neg (by simp), hout (by omega)]
    rfl
  rw [if_neg c1]
  unfold R06_findS
  rw [if_pos ⟨by omega, by omega, hi63.2⟩, Option.bind_some, Option.bind_some]
  by_cases c2 : i < size a
  · obtain ⟨v, hv⟩ : ∃ v, (subs a)[i.toNat]? = some v := ⟨_, List.getElem?_eq_getElem (by rw [subs_len]; omega)⟩
    have ev := szAt_some hv
    rw [show ((i.toNat : Nat) : Int) = i by omega] at ev
    have hs := szAt_lt (n := a) (i := i) (by omega) c2
    rw [hv]
    dsimp only
    have hsc : scoreV a a (idm (size a)) i i = (szAt a i - 1, szAt a i + szAt a i - 2) := by
      unfold scoreV; rw [if_pos ⟨⟨by omega, c2⟩, by omega, c2⟩, idm_cnt ⟨by omega, c2⟩]
    rw [if_pos rfl, if_pos (by omega), Option.bind_some, hsc, ← ev]
    dsimp only
    rw [w64_id (x := szAt a i - 1) (by omega) (by omega), if_pos rfl, w64_id (x := 2 * (szAt a i - 1)) (by omega) (by omega), if_pos (by omega)]
    rfl
  · rw [List.getElem?_eq_none (by rw [subs_len]; omega)]
    dsimp only
    rw [if_neg (by simp), hout (fun h => c2 h.2)]
    rfl
end Xn

