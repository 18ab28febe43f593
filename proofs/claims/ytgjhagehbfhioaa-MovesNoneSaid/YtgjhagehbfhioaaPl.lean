/- A part of the proof: Pl. No conditions of its own. -/
import Derived.Test.YtgjhagehbfhioaaT
import Derived.Test.YtgjhagehbfhioaaE3
set_option linter.unusedVariables false
namespace Xn
open Go Go.Ev
structure Forest (F : List Row) (pos : Nat) (par : Int) (R : List Int) : Prop where
  roots : R.Pairwise (· < ·)
  inside : ∀ j ∈ R, (pos : Int) ≤ j ∧ j < (pos : Int) + F.length
  up : ∀ (i : Nat) (row : Row), F[i]? = some row → (((pos + i : Nat) : Int) ∈ R ∧ row.Parent = par) ∨ (((pos + i : Nat) : Int) ∉ R ∧ ∃ k, k < i ∧ row.Parent = ((pos + k : Nat) : Int))
  asc : ∀ (i : Nat) (row : Row), F[i]? = some row → row.Kids.Pairwise (· < ·)
  kids : ∀ (i : Nat) (row : Row), F[i]? = some row → ∀ j : Int, j ∈ row.Kids ↔ ∃ (k : Nat) (rowk : Row), F[k]? = some rowk ∧ j = ((pos + k : Nat) : Int) ∧ rowk.Parent = ((pos + i : Nat) : Int)
theorem Forest.nil (pos : Nat) (par : Int) : Forest [] pos par [] where
  roots := .nil
  inside := fun j h => by cases h
  up := fun i row h => by simp at h
  asc := fun i row h => by simp at h
  kids := fun i row h => by simp at h
theorem Forest.append {F G : List Row} {pos : Nat} {par : Int} {R S : List Int} (hf : Forest F pos par R) (hg : Forest G (pos + F.length) par S) (hp : par < pos) : Forest (F ++ G) pos par (R ++ S) where
  roots := by
    refine List.pairwise_append.2 ⟨hf.roots, hg.roots, fun a ha b hb => ?_⟩
    have := hf.inside a ha
    have := hg.inside b hb
    omega
  inside := fun j h => by
    rw [List.length_append]
    rcases List.mem_append.1 h with h | h
    · have := hf.inside j h; omega
    · have := hg.inside j h; omega
  up := fun i row h => by
    by_cases hi : i < F.length
    · rw [List.getElem?_append_left hi] at h
      rcases hf.up i row h with ⟨h1, h2⟩ | ⟨h1, h2⟩
      · exact .inl ⟨List.mem_append_left _ h1, h2⟩
      · refine .inr ⟨fun hm => ?_, h2⟩
        rcases List.mem_append.1 hm with hm | hm
        · exact h1 hm
        · have := hg.inside _ hm; omega
    · rw [List.getElem?_append_right (by omega)] at h
      have e : pos + F.length + (i - F.length) = pos + i := by omega
      rcases hg.up _ row h with ⟨h1, h2⟩ | ⟨h1, k, hk, h2⟩
      · rw [e] at h1
        exact .inl ⟨List.mem_append_right _ h1, h2⟩
      · rw [e] at h1
        refine .inr ⟨fun hm => ?_, F.length + k, by omega, by rw [h2]; congr 1; omega⟩
        rcases List.mem_append.1 hm with hm | hm
        · have := hf.inside _ hm; omega
        · exact h1 hm
  asc := fun i row h => by
    by_cases hi : i < F.length
    · rw [List.getElem?_append_left hi] at h; exact hf.asc i row h
    · rw [List.getElem?_append_right (by omega)] at h; exact hg.asc _ row h
  kids := fun i row h j => by
    by_cases hi : i < F.length
    · rw [List.getElem?_append_left hi] at h
      rw [hf.kids i row h]
      constructor
      · rintro ⟨k, rk, h1, h2, h3⟩
        exact ⟨k, rk, by rw [List.getElem?_append_left (List.getElem?_eq_some_iff.1 h1).1]; exact h1, h2, h3⟩
      · rintro ⟨k, rk, h1, h2, h3⟩
        by_cases hk : k < F.length
        · rw [List.getElem?_append_left hk] at h1; exact ⟨k, rk, h1, h2, h3⟩
        · rw [List.getElem?_append_right (by omega)] at h1
          rcases hg.up _ rk h1 with ⟨_, h4⟩ | ⟨_, q, _, h4⟩
          · omega
          · omega
    · rw [List.getElem?_append_right (by omega)] at h
      have e : pos + F.length + (i - F.length) = pos + i := by omega
      rw [hg.kids _ row h, e]
      constructor
      · rintro ⟨k, rk, h1, h2, h3⟩
        exact ⟨F.length + k, rk, by rw [List.getElem?_append_right (by omega), Nat.add_sub_cancel_left]; exact h1, by rw [h2]; congr 1; omega, h3⟩
      · rintro ⟨k, rk, h1, h2, h3⟩
        by_cases hk : k < F.length
        · rw [List.getElem?_append_left hk] at h1
          rcases hf.up _ rk h1 with ⟨_, h4⟩ | ⟨_, q, _, h4⟩
          · omega
          · omega
        · rw [List.getElem?_append_right (by omega)] at h1
          exact ⟨k - F.length, rk, h1, by rw [h2]; congr 1; omega, h3⟩
theorem Forest.root {F : List Row} {pos : Nat} {par : Int} {row : Row} (hf : Forest F (pos + 1) pos row.Kids) (hp : row.Parent = par) (hpar : par < pos) : Forest (row :: F) pos par [(pos : Int)] where
  roots := List.pairwise_singleton _ _
  inside := fun j h => by
    obtain rfl : j = pos := by simpa using h
    simp only [List.length_cons]; omega
  up := fun i r h => by
    cases i with
    | zero =>
      obtain rfl : row = r := by simpa using h
      exact .inl ⟨by simp, hp⟩
    | succ i =>
      have h' : F[i]? = some r := by simpa using h
      refine .inr ⟨fun hm => ?_, ?_⟩
      · have : ((pos + (i + 1) : Nat) : Int) = (pos : Int) := by simpa using hm
        omega
      · rcases hf.up i r h' with ⟨h1, h2⟩ | ⟨h1, k, hk, h2⟩
        · exact ⟨0, by omega, by rw [h2]; rfl⟩
        · exact ⟨k + 1, by omega, by rw [h2]; congr 1; omega⟩
  asc := fun i r h => by
    cases i with
    | zero =>
      obtain rfl : row = r := by simpa using h
      exact hf.roots
    | succ i => exact hf.asc i r (by simpa using h)
  kids := fun i r h j => by
    cases i with
    | zero =>
      obtain rfl : row = r := by simpa using h
      constructor
      · intro hj
        have h1 := hf.inside j hj
        obtain ⟨k, hk⟩ : ∃ k : Nat, j = ((pos + 1 + k : Nat) : Int) := ⟨(j - (pos + 1 : Nat)).toNat, by omega⟩
        have hkl : k < F.length := by omega
        refine ⟨k + 1, F[k], by simp, by rw [hk]; congr 1; omega, ?_⟩
        rcases hf.up k F[k] (List.getElem?_eq_getElem hkl) with ⟨_, h3⟩ | ⟨h3, _⟩
        · rw [h3]; rfl
        · rw [← hk] at h3; exact absurd hj h3
      · rintro ⟨k, rk, h1, h2, h3⟩
        cases k with
        | zero =>
          obtain rfl : row = rk := by simpa using h1
          rw [hp] at h3; simp only [Nat.add_zero] at h3; omega
        | succ k =>
          rcases hf.up k rk (by simpa using h1) with ⟨h4, _⟩ | ⟨_, q, _, h4⟩
          · rw [h2]; rw [show pos + (k + 1) = pos + 1 + k by omega]; exact h4
          · simp only [Nat.add_zero] at h3; omega
    | succ i =>
      have h' : F[i]? = some r := by simpa using h
      rw [hf.kids i r h']
      have e : pos + 1 + i = pos + (i + 1) := by omega
      rw [e]
      constructor
      · rintro ⟨k, rk, h1, h2, h3⟩
        exact ⟨k + 1, rk, by simpa using h1, by rw [h2]; congr 1; omega, h3⟩
      · rintro ⟨k, rk, h1, h2, h3⟩
        cases k with
        | zero =>
          obtain rfl : row = rk := by simpa using h1
          rw [hp] at h3; omega
        | succ k => exact ⟨k, rk, by simpa using h1, by rw [h2]; congr 1; omega, h3⟩
mutual
theorem tab_forest : ∀ (n : Node) (pos : Nat) (par : Int), par < pos → Forest (tab n pos par) pos par [(pos : Int)]
  | ⟨k, t, g, ks⟩, pos, par, h => by
    rw [tab]
    exact Forest.root (tabs_forest ks (pos + 1) pos (by omega)) rfl h
theorem tabs_forest : ∀ (l : List Node) (pos : Nat) (par : Int), par < pos → Forest (tabs l pos par) pos par (kidPos l pos)
  | [], pos, par, h => by rw [tabs, kidPos]; exact Forest.nil pos par
  | n :: ks, pos, par, h => by
    rw [tabs, kidPos]
    have h1 := tab_forest n pos par h
    have h2 := tabs_forest ks (pos + size n) par (by omega)
    rw [← tab_len n pos par] at h2
    have := Forest.append h1 h2 h
    rw [tab_len n pos par] at this
    exact this
end
def tabOf (n : Node) : List Row := tab n 0 (-1)
theorem tabOf_len (n : Node) : (tabOf n).length = size n := tab_len n 0 (-1)
structure Tbl (x : List Row) : Prop where
  pos : 0 < x.length
  root : ∀ r, x[0]? = some r → r.Parent = -1
  up : ∀ (i : Nat) r, x[i]? = some r → 0 < i → ∃ k : Nat, k < i ∧ r.Parent = (k : Int)
  asc : ∀ (i : Nat) r, x[i]? = some r → r.Kids.Pairwise (· < ·)
  kids : ∀ (i : Nat) r, x[i]? = some r → ∀ j : Int, j ∈ r.Kids ↔ ∃ (k : Nat) (rk : Row), x[k]? = some rk ∧ j = (k : Int) ∧ rk.Parent = (i : Int)
theorem tabOf_tbl (n : Node) : Tbl (tabOf n) := by
  have h := tab_forest n 0 (-1) (by omega)
  have hl := tabOf_len n
  have hp := size_pos n
  refine ⟨by omega, fun r hr => ?_, fun i r hr hi => ?_, h.asc, fun i r hr j => ?_⟩
  · rcases h.up 0 r hr with ⟨_, h2⟩ | ⟨_, k, hk, _⟩
    · exact h2
    · omega
  · rcases h.up i r hr with ⟨h1, _⟩ | ⟨_, k, hk, h2⟩
    · have : ((0 + i : Nat) : Int) = 0 := by simpa using h1
      omega
    · exact ⟨k, hk, by rw [h2, Nat.zero_add]⟩
  · rw [h.kids i r hr j]
    simp only [Nat.zero_add]
    exact Iff.rfl
theorem Tbl.lt {x : List Row} (h : Tbl x) {i : Nat} {r : Row} (hr : x[i]? = some r) {j : Int} (hj : j ∈ r.Kids) : (i : Int) < j ∧ j < x.length := by
  obtain ⟨k, rk, h1, h2, h3⟩ := (h.kids i r hr j).1 hj
  have hk := (List.getElem?_eq_some_iff.1 h1).1
  have h0 : 0 < k := by
    rcases Nat.eq_zero_or_pos k with e | e
    · subst e
      have := h.root rk h1
      omega
    · exact e
  obtain ⟨q, hq, hq2⟩ := h.up k rk h1 h0
  omega
theorem tree_list_tab {n : Node} (h : size n < 2 ^ 30) (hg : gapsB n = true) : tree_listS ([] : List Row) n (-1) = some (tabOf n) := by
  unfold tree_listS
  rw [if_pos ⟨by simpa using h, hg⟩]; rfl
theorem tab_kind (n : Node) : ∃ r, (tabOf n)[0]? = some r ∧ r.Kind = n.Kind := by
  unfold tabOf
  rw [tab_eq]
  exact ⟨_, rfl, rfl⟩
end Xn

set_option linter.unusedVariables false
namespace Xn
open Go Go.Ev
theorem fits_eq (n : Node) (a b : Int) (h : -2 ^ 40 ≤ a ∧ a < 2 ^ 40 ∧ -2 ^ 40 ≤ b ∧ b < 2 ^ 40) : R06_Fits n a b = some (decide ((size n : Int) ≤ a ∧ (height n : Int) ≤ b)) := by
  unfold R06_Fits R06_leftS
  rw [if_pos h, Option.bind_some]
  congr 1
  unfold leftV
  by_cases hc : (size n : Int) ≤ a ∧ (height n : Int) ≤ b
  · rw [if_pos hc, decide_eq_decide]; constructor
    · intro _; exact hc
    · intro _; omega
  · rw [if_neg hc, decide_eq_decide]; constructor
    · intro h'; omega
    · intro h'; exact absurd h' hc
mutual
theorem wf_gaps : ∀ (n : Node), Wf_Node n → gapsB n = true
  | ⟨k, t, g, ks⟩, h => by
    cases h with
    | mk _ _ _ _ h1 h2 h3 h4 h5 =>
      rw [gapsB, Bool.and_eq_true, decide_eq_true_eq]
      have := h3.1.2
      have hr : reachBytes = 140737488351232 := rfl
      exact ⟨by omega, wf_gapss ks h5⟩
theorem wf_gapss : ∀ (l : List Node), (∀ x ∈ l, Wf_Node x) → gapsBs l = true
  | [], _ => rfl
  | n :: ks, h => by
    rw [gapsBs, Bool.and_eq_true]
    exact ⟨wf_gaps n (h n List.mem_cons_self), wf_gapss ks fun x hx => h x (List.mem_cons_of_mem _ hx)⟩
end
theorem tree_rows_eq {n : Node} (h : size n < 2 ^ 30) (hg : gapsB n = true) : tree_Rows n = some (tabOf n) := by
  unfold tree_Rows; rw [tree_list_tab h hg]; rfl
def fnd (m : List Pair) (n : Int) : Option Int := m.findSome? fun p => if p.Old = n then some p.New else none
theorem fnd_map {ρ : Type} (g : Int → ρ) (n : Int) : ∀ (m : List Pair), (m.findSome? fun p => if p.Old = n then some (g p.New) else none) = (fnd m n).map g
  | [] => rfl
  | p :: m => by
    have := fnd_map g n m
    unfold fnd at this ⊢
    simp only [List.findSome?_cons]
    by_cases hc : p.Old = n
    · rw [if_pos hc, if_pos hc]; rfl
    · rw [if_neg hc, if_neg hc]; exact this
theorem match_find_eq (m : List Pair) (n : Int) (h : m.length < 2 ^ 60) : match_Find m n = some (match fnd m n with | some k => (k, true) | none => (0, false)) := by
  unfold match_Find
  have := iter_first (step := match_Find_L0 n m (m.length : Int)) (fun i => (i : Int)) (fun _ (p : Pair) => if p.Old = n then some (p.New, true) else none) 0 (m.length : Int) m 0 (fun j v hj => by
    have hjl := (List.getElem?_eq_some_iff.1 hj).1
    simp only [match_Find_L0, Nat.zero_add, rd_nat, hj, Option.bind_some]
    rw [if_pos (by omega)]
    by_cases hc : v.Old = n
    · rw [if_pos hc, if_pos hc]
    · rw [if_neg hc, if_neg hc, w64_succ (by omega)]) (by
    simp only [match_Find_L0, Nat.zero_add]
    rw [if_neg (by omega)])
  rw [show ((0 : Nat) : Int) = 0 from rfl] at this
  rw [this, firstI_find, fnd_map (fun k => (k, true))]
  cases fnd m n <;> rfl
def GoodAt (x y : List Row) (m : List Pair) (i : Nat) : Prop :=
  ∃ p u v, m[i]? = some p ∧ 0 ≤ p.Old ∧ x[p.Old.toNat]? = some u ∧ 0 ≤ p.New ∧ y[p.New.toNat]? = some v ∧ (∀ j, j < i → ∀ q, m[j]? = some q → q.Old < p.Old ∧ q.New ≠ p.New) ∧ u.Kind = v.Kind ∧ (p.Old = 0 ↔ p.New = 0)
def MapOk (a b : Node) (m : List Pair) : Prop := (∀ i, i < m.length → GoodAt (tabOf a) (tabOf b) m i) ∧ (a.Kind = b.Kind → ∃ q, m[0]? = some q ∧ q.Old = 0)
def lastOld (m : List Pair) : Nat → Int
  | 0 => -1
  | i + 1 => match m[i]? with | some q => q.Old | none => -1
theorem lastOld_nn {x y : List Row} {m : List Pair} {i : Nat} (hg : ∀ j, j < i → GoodAt x y m j) : -1 ≤ lastOld m i ∧ (0 < i → 0 ≤ lastOld m i) := by
  cases i with
  | zero => exact ⟨Int.le_refl _, fun h => by omega⟩
  | succ i =>
    obtain ⟨p, u, v, h1, h2, _⟩ := hg i (by omega)
    simp only [lastOld, h1]
    exact ⟨by omega, fun _ => h2⟩
theorem lastOld_iff {x y : List Row} {m : List Pair} {i : Nat} (hg : ∀ j, j < i → GoodAt x y m j) (z : Int) : (∀ j, j < i → ∀ q, m[j]? = some q → q.Old < z) ↔ (i = 0 ∨ lastOld m i < z) := by
  cases i with
  | zero => exact ⟨fun _ => .inl rfl, fun _ j h => by omega⟩
  | succ i =>
    obtain ⟨p, u, v, h1, h2, h3, h4, h5, h6, h7⟩ := hg i (by omega)
    simp only [lastOld, h1]
    constructor
    · intro h; exact .inr (h i (by omega) p h1)
    · rintro (h | h) j hj q hq
      · omega
      · by_cases hji : j = i
        · subst hji; rw [h1] at hq; obtain rfl := Option.some.inj hq; exact h
        · have := (h6 j (by omega) q hq).1; omega
open Classical in
def takenB (m : List Pair) (i : Nat) (k : Nat) : Bool := (m.take i).any fun q => decide (q.New = (k : Int))
def takenL (m : List Pair) (i n : Nat) : List Bool := (List.range n).map (takenB m i)
theorem takenL_get {m : List Pair} {i n k : Nat} (h : k < n) : (takenL m i n)[k]? = some (takenB m i k) := by
  unfold takenL
  rw [List.getElem?_map, List.getElem?_range h]; rfl
theorem takenL_zero (m : List Pair) (n : Nat) : takenL m 0 n = List.replicate n false := by
  apply List.ext_getElem?
  intro k
  by_cases h : k < n
  · rw [takenL_get h, List.getElem?_replicate, if_pos h]; simp [takenB]
  · rw [List.getElem?_eq_none (by simp [takenL]; omega), List.getElem?_eq_none (by simp; omega)]
theorem takenL_succ {m : List Pair} {i n : Nat} {p : Pair} (hp : m[i]? = some p) (h0 : 0 ≤ p.New) : takenL m (i + 1) n = (takenL m i n).set p.New.toNat true := by
  apply List.ext_getElem?
  intro k
  by_cases h : k < n
  · rw [takenL_get h, List.getElem?_set]
    have e : takenB m (i + 1) k = (takenB m i k || decide (p.New = (k : Int))) := by
      unfold takenB
      obtain ⟨hi, e⟩ := List.getElem?_eq_some_iff.1 hp
      rw [List.take_add_one, hp, List.any_append]
      simp
    by_cases hk : p.New.toNat = k
    · rw [if_pos hk, if_pos (by simp [takenL]; omega), e, decide_eq_true (by omega), Bool.or_true]
    · rw [if_neg hk, e, decide_eq_false (by omega), Bool.or_false, takenL_get h]
  · rw [List.getElem?_eq_none (by simp [takenL]; omega), List.getElem?_eq_none (by simp [takenL]; omega)]
theorem takenB_iff {m : List Pair} {i k : Nat} : takenB m i k = true ↔ ∃ j, j < i ∧ ∃ q, m[j]? = some q ∧ q.New = (k : Int) := by
  unfold takenB
  rw [List.any_eq_true]
  constructor
  · rintro ⟨q, q1, q2⟩
    obtain ⟨j, hj⟩ := List.getElem?_of_mem q1
    rw [List.getElem?_take] at hj
    split at hj
    · exact ⟨j, by assumption, q, hj, by simpa using q2⟩
    · cases hj
  · rintro ⟨j, hj, q, q1, q2⟩
    exact ⟨q, List.mem_of_getElem? (i := j) (by rw [List.getElem?_take, if_pos hj]; exact q1), by simpa using q2⟩
open Classical in
theorem match_check_eq {a b : Node} {m : List Pair} (ha : size a < 2 ^ 30) (hb : size b < 2 ^ 30) (hga : gapsB a = true) (hgb : gapsB b = true) (hm : m.length < 2 ^ 60) : match_Check a b m = some (if MapOk a b m then 0 else 15) := by
  unfold match_Check
  rw [tree_rows_eq ha hga, Option.bind_some, tree_rows_eq hb hgb, Option.bind_some]
  have hlb := tabOf_len b
  have hlbp := size_pos b
  have hrow0 := tab_kind b
  generalize hx : tabOf a = x
  generalize hy : tabOf b = y at hlb hrow0 ⊢
  rw [if_pos (by omega), Int.toNat_natCast]
  have key := iter_all (step := match_Check_L0 x y m (m.length : Int) a.Kind a.Text a.Gaps a.Kids b.Kind b.Text b.Gaps b.Kids) (fun i => (lastOld m i, (i : Int), takenL m i y.length)) (GoodAt x y m) (15 : Int) 0 (lastOld m m.length, (m.length : Int), takenL m m.length y.length) m.length (fun i hi hg => by
    obtain ⟨p, hp⟩ : ∃ p, m[i]? = some p := ⟨_, List.getElem?_eq_getElem hi⟩
    have hrd : rd m (i : Int) = some p := by rw [rd_nat]; exact hp
    have hlast := lastOld_nn hg
    simp only [match_Check_L0, hrd, Option.bind_some]
    rw [if_pos (by omega)]
    by_cases h1 : p.Old ≤ lastOld m i
    · rw [if_pos h1, if_neg]
      rintro ⟨p', u, v, g1, g2, g3, g4, g5, g6, _⟩; rw [hp] at g1; cases g1
      rcases (lastOld_iff hg p.Old).1 (fun j hj q hq => (g6 j hj q hq).1) with h | h
      · subst h; simp only [lastOld] at h1; omega
      · omega
    rw [if_neg h1]
    by_cases h2 : (x.length : Int) ≤ p.Old
    · rw [if_pos h2, if_neg]; rintro ⟨p', u, v, g1, g2, g3, _⟩; rw [hp] at g1; cases g1; have := (List.getElem?_eq_some_iff.1 g3).1; omega
    rw [if_neg h2]
    by_cases h3 : p.New < 0
    · rw [if_pos h3, if_neg]; rintro ⟨p', u, v, g1, g2, g3, g4, _⟩; rw [hp] at g1; cases g1; omega
    rw [if_neg h3]
    by_cases h4 : (y.length : Int) ≤ p.New
    · rw [if_pos h4, if_neg]; rintro ⟨p', u, v, g1, g2, g3, g4, g5, _⟩; rw [hp] at g1; cases g1; have := (List.getElem?_eq_some_iff.1 g5).1; omega
    rw [if_neg h4]
    obtain ⟨u, hu⟩ : ∃ u, x[p.Old.toNat]? = some u := ⟨_, List.getElem?_eq_getElem (by omega)⟩
    obtain ⟨v, hv⟩ : ∃ v, y[p.New.toNat]? = some v := ⟨_, List.getElem?_eq_getElem (by omega)⟩
    have hru : rd x p.Old = some u := by unfold rd; rw [if_pos (by omega)]; exact hu
    have hrv : rd y p.New = some v := by unfold rd; rw [if_pos (by omega)]; exact hv
    have hrt : rd (takenL m i y.length) p.New = some (takenB m i p.New.toNat) := by unfold rd; rw [if_pos (by omega), takenL_get (by omega)]
    have hgood : GoodAt x y m i ↔ (¬ takenB m i p.New.toNat = true ∧ u.Kind = v.Kind ∧ (p.Old = 0 ↔ p.New = 0)) := by
      rw [takenB_iff, show ((p.New.toNat : Nat) : Int) = p.New by omega]
      constructor
      · rintro ⟨p', u', v', g1, g2, g3, g4, g5, g6, g7, g8⟩
        rw [hp] at g1; cases g1
        rw [hu] at g3; cases g3
        rw [hv] at g5; cases g5
        exact ⟨fun ⟨j, hj, q, q1, q2⟩ => (g6 j hj q q1).2 q2, g7, g8⟩
      · rintro ⟨g2, g3, g4⟩
        exact ⟨p, u, v, hp, by omega, hu, by omega, hv, fun j hj q hq => ⟨(lastOld_iff hg p.Old).2 (.inr (by omega)) j hj q hq, fun e => g2 ⟨j, hj, q, hq, e⟩⟩, g3, g4⟩
    simp only [hru, hrv, hrt, Option.bind_some]
    by_cases h6 : takenB m i p.New.toNat = true
    · rw [if_pos h6, if_neg (fun h => (hgood.1 h).1 h6)]
    · rw [if_neg h6]
      by_cases h7 : u.Kind = v.Kind
      · rw [if_pos h7]
        by_cases h8 : (p.Old = 0 ↔ p.New = 0)
        · rw [if_pos (decide_eq_decide.2 h8), if_pos (hgood.2 ⟨h6, h7, h8⟩), w64_succ (by omega), takenL_succ hp (by omega)]
          simp only [lastOld, hp]
        · rw [if_neg (fun e => h8 (decide_eq_decide.1 e)), if_neg (fun h => h8 (hgood.1 h).2.2)]
      · rw [if_neg h7, if_neg (fun h => h7 (hgood.1 h).2.1)]) (fun _ => by
    simp only [match_Check_L0]
    rw [if_neg (by omega)])
  simp only [takenL_zero, lastOld] at key
  rw [show ((0 : Nat) : Int) = 0 from rfl] at key
  rw [key]
  unfold MapOk
  rw [hx, hy]
  by_cases hall : ∀ i, i < m.length → GoodAt x y m i
  · rw [if_pos hall, Option.bind_some]
    simp only
    by_cases hk : a.Kind = b.Kind
    · rw [if_pos hk, show rd (takenL m m.length y.length) 0 = some (takenB m m.length 0) from (rd_nat (i := 0)).trans (takenL_get (by omega)), Option.bind_some]
      have hiff : takenB m m.length 0 = true ↔ ∃ q, m[0]? = some q ∧ q.Old = 0 := by
        rw [takenB_iff]
        constructor
        · rintro ⟨j, hj, q, hq, h0⟩
          obtain ⟨p, u, v, g1, g2, g3, g4, g5, g6, g7, g8⟩ := hall j hj
          rw [hq] at g1; cases g1
          have hq0 : q.Old = 0 := g8.2 h0
          obtain ⟨p0, u0, v0, k1, k2, _⟩ := hall 0 (by omega)
          by_cases hj0 : j = 0
          · subst hj0; exact ⟨q, hq, hq0⟩
          · have := (g6 0 (by omega) p0 k1).1
            omega
        · rintro ⟨q, hq, h0⟩
          have hl := (List.getElem?_eq_some_iff.1 hq).1
          obtain ⟨p, u, v, g1, g2, g3, g4, g5, g6, g7, g8⟩ := hall 0 hl
          rw [hq] at g1; cases g1
          exact ⟨0, hl, q, hq, g8.1 h0⟩
      by_cases h0 : takenB m m.length 0 = true
      · rw [if_pos h0, if_pos ⟨hall, fun _ => hiff.1 h0⟩]
      · rw [if_neg h0, if_neg (fun h => h0 (hiff.2 (h.2 hk)))]
    · rw [if_neg hk, if_pos ⟨hall, fun h => absurd h hk⟩]
  · rw [if_neg hall, Option.bind_some]
    simp only
    rw [if_neg (fun h => hall h.1)]
end Xn

set_option linter.unusedVariables false
set_option linter.unusedSimpArgs false
namespace Xn
open Go Go.Ev
def best (x : Int) (l ls : List Int) : Int := (l.zip ls).foldl (fun m p => if p.1 > x then max m (p.2 + 1) else m) 1
def lngs : List Int → List Int
  | [] => []
  | x :: l => best x l (lngs l) :: lngs l
theorem lngs_len : ∀ l, (lngs l).length = l.length
  | [] => rfl
  | x :: l => by simp [lngs, lngs_len l]
def mostOf (ls : List Int) : Int := ls.foldr (fun a m => max m a) 0
def takeUp : List (Int × Int) → Nat → Int → Option Int → List Int
  | [], _, _, _ => []
  | (x, n) :: l, i, most, last =>
    if n = most ∧ (∀ y ∈ last, x > y) then (i : Int) :: takeUp l (i + 1) (most - 1) (some x) else takeUp l (i + 1) most last
def rising (l : List Int) : List Int := takeUp (l.zip (lngs l)) 0 (mostOf (lngs l)) none
def up1 (x : Int) (m : Int) (p : Int × Int) : Int := if p.1 > x then max m (p.2 + 1) else m
def mid (l a : List Int) (i : Nat) (x m : Int) (k : Nat) : Int := (((l.zip a).drop (i + 1)).take (k - (i + 1))).foldl (up1 x) m
theorem mid_start (l a : List Int) (i : Nat) (x m : Int) : mid l a i x m (i + 1) = m := by simp [mid]
theorem mid_step {l a : List Int} {i k : Nat} {x m : Int} (hk : i < k) (hl : k < l.length) (ha : a.length = l.length) : mid l a i x m (k + 1) = up1 x (mid l a i x m k) (l[k], a[k]) := by
  unfold mid
  have e : k + 1 - (i + 1) = (k - (i + 1)) + 1 := by omega
  have hlt : k - (i + 1) < ((l.zip a).drop (i + 1)).length := by simp [List.length_zip]; omega
  rw [e, List.take_add_one, List.foldl_append, List.getElem?_eq_getElem hlt]
  have e2 : ((l.zip a).drop (i + 1))[k - (i + 1)] = (l[k], a[k]) := by
    simp only [List.getElem_drop, List.getElem_zip]
    have e3 : i + 1 + (k - (i + 1)) = k := by omega
    simp only [e3]
  rw [e2]; rfl
theorem mid_end {l a : List Int} {i : Nat} {x m : Int} (ha : a.length = l.length) : mid l a i x m l.length = ((l.zip a).drop (i + 1)).foldl (up1 x) m := by
  unfold mid
  rw [List.take_of_length_le (by simp [List.length_zip]; omega)]
theorem fold_bound {x : Int} {B : Int} : ∀ (l : List (Int × Int)) (m : Int), (∀ p ∈ l, p.2 ≤ B) → 1 ≤ m → m ≤ B + 1 → 1 ≤ l.foldl (up1 x) m ∧ l.foldl (up1 x) m ≤ B + 1
  | [], m, _, h1, h2 => ⟨h1, h2⟩
  | p :: l, m, h, h1, h2 => by
    rw [List.foldl_cons]
    have hp := h p (by simp)
    refine fold_bound l _ (fun q hq => h q (by simp [hq])) ?_ ?_ <;> (unfold up1; split <;> omega)
theorem best_eq (x : Int) (l ls : List Int) : best x l ls = (l.zip ls).foldl (up1 x) 1 := rfl
theorem lngs_bound : ∀ (l : List Int) (v : Int), v ∈ lngs l → 1 ≤ v ∧ v ≤ l.length
  | [], v, h => by simp [lngs] at h
  | x :: l, v, h => by
    simp only [lngs, List.mem_cons] at h
    rcases h with rfl | h
    · have hb : ∀ p ∈ l.zip (lngs l), p.2 ≤ (l.length : Int) := fun p hp => (lngs_bound l p.2 (List.of_mem_zip (a := p.1) (b := p.2) hp).2).2
      have := fold_bound (x := x) (l.zip (lngs l)) 1 hb (by omega) (by omega)
      rw [best_eq]; simp only [List.length_cons]; omega
    · have := lngs_bound l v h
      simp only [List.length_cons]; omega
theorem lngs_drop {l : List Int} {i : Nat} (h : i < l.length) : lngs (l.drop i) = best l[i] (l.drop (i + 1)) (lngs (l.drop (i + 1))) :: lngs (l.drop (i + 1)) := by
  rw [List.drop_eq_getElem_cons h, lngs]
theorem mostOf_bound : ∀ (ls : List Int) (B : Int), 0 ≤ B → (∀ v ∈ ls, v ≤ B) → 0 ≤ mostOf ls ∧ mostOf ls ≤ B
  | [], B, hB, _ => ⟨Int.le_refl _, hB⟩
  | v :: ls, B, hB, h => by
    have h1 := mostOf_bound ls B hB fun w hw => h w (by simp [hw])
    have h2 := h v (by simp)
    simp only [mostOf, List.foldr_cons] at h1 ⊢
    omega
def mo (l : List Int) (j : Nat) : Int := mostOf (lngs (l.drop j))
theorem ris_L1 (l a0 : List Int) (most : Int) (i : Nat) (hi : i < l.length) (hl : l.length < 2 ^ 40) (ha : a0.length = l.length) (hb : ∀ j (h : j < a0.length), 0 ≤ a0[j] ∧ a0[j] ≤ 2 ^ 40) :
    iter (lcs_Rising_L1 l most (i : Int)) (((i + 1 : Nat) : Int), a0) = some (.jmp 2 ((l.length : Int), a0.set i (mid l a0 i l[i] a0[i] l.length))) := by
  have key : ∀ d k, i < k → k + d = l.length → iter (lcs_Rising_L1 l most (i : Int)) ((k : Int), a0.set i (mid l a0 i l[i] a0[i] k)) = some (.jmp 2 ((l.length : Int), a0.set i (mid l a0 i l[i] a0[i] l.length))) := by
    intro d
    induction d with
    | zero =>
      intro k hk hkl
      obtain rfl : k = l.length := by omega
      apply iter_jmp
      simp only [lcs_Rising_L1]
      rw [if_neg (by omega)]
    | succ d ih =>
      intro k hk hkl
      have hkl' : k < l.length := by omega
      have e1 : rd l (k : Int) = some l[k] := by rw [rd_nat, List.getElem?_eq_getElem]
      have e2 : rd l (i : Int) = some l[i] := by rw [rd_nat, List.getElem?_eq_getElem]
      have hal : ∀ z, (a0.set i z)[i]? = some z := fun z => by rw [List.getElem?_set_self (by omega)]
      have hak : ∀ z, (a0.set i z)[k]? = some (a0[k]'(by omega)) := fun z => by rw [List.getElem?_set_ne (by omega), List.getElem?_eq_getElem]
      have hbk := hb k (by omega)
      have hms := mid_step (l := l) (a := a0) (i := i) (k := k) (x := l[i]) (m := a0[i]'(by omega)) hk hkl' ha
      have hstep : lcs_Rising_L1 l most (i : Int) ((k : Int), a0.set i (mid l a0 i l[i] a0[i] k)) = some (.next (((k + 1 : Nat) : Int), a0.set i (mid l a0 i l[i] a0[i] (k + 1)))) := by
        simp only [lcs_Rising_L1, e1, e2, Option.bind_some, w64_succ (show k < 2 ^ 62 by omega)]
        rw [if_pos (by omega), hms, up1]
        by_cases h3 : l[i] < l[k]
        · rw [if_pos h3, if_pos h3, rd_nat, hal, Option.bind_some, rd_nat, hak, Option.bind_some, w64_id (by omega) (by omega), Int.toNat_natCast, List.set_set]
        · rw [if_neg h3, if_neg (by omega)]
      rw [iter_next hstep]
      exact ih (k + 1) (by omega) (by omega)
  have := key (l.length - (i + 1)) (i + 1) (by omega) (by omega)
  rw [mid_start, List.set_getElem_self] at this
  exact this
theorem ris_L0 (l : List Int) (hl : l.length < 2 ^ 39) :
    iter (lcs_Rising_L0 l) ((0 : Int), w64 ((l.length : Int) - 1), List.replicate l.length 0) = some (.jmp 0 (mostOf (lngs l), -1, lngs l)) := by
  have key : ∀ (j : Nat) (a : List Int), j ≤ l.length → a.length = l.length → a.drop j = lngs (l.drop j) → (∀ k (h : k < a.length), 0 ≤ a[k] ∧ a[k] ≤ l.length) →
      iter (lcs_Rising_L0 l) (mo l j, (j : Int) - 1, a) = some (.jmp 0 (mostOf (lngs l), -1, lngs l)) := by
    intro j
    induction j with
    | zero =>
      intro a h1 h2 h3 h4
      simp only [List.drop_zero] at h3
      subst h3
      apply iter_jmp
      simp only [lcs_Rising_L0, mo, List.drop_zero]
      rw [if_neg (by omega)]
      rfl
    | succ i ih =>
      intro a h1 hal had hab
      have hi : i < l.length := by omega
      have hia : i < a.length := by omega
      have e1 : ((i + 1 : Nat) : Int) - 1 = i := by omega
      have hb : ∀ j (h : j < (a.set i 1).length), 0 ≤ (a.set i 1)[j] ∧ (a.set i 1)[j] ≤ 2 ^ 40 := by
        intro j h
        rw [List.getElem_set]
        split
        · omega
        · have := hab j (by simpa using h); omega
      have hi1 : i < (a.set i 1).length := by simpa using hia
      have hz : ((l.zip (a.set i 1)).drop (i + 1)).foldl (up1 l[i]) (a.set i 1)[i] = best l[i] (l.drop (i + 1)) (lngs (l.drop (i + 1))) := by
        rw [show l.zip (a.set i 1) = List.zipWith Prod.mk l (a.set i 1) from rfl, List.drop_zipWith, List.drop_set_of_lt (by omega), had, best_eq]; simp [List.zip]
      have h1' := ris_L1 l (a.set i 1) (mo l (i + 1)) i hi (by omega) (by simp [hal]) hb
      rw [mid_end (by simp [hal]), hz] at h1'
      generalize hv : best l[i] (l.drop (i + 1)) (lngs (l.drop (i + 1))) = v at *
      rw [List.set_set] at h1'
      have hget : (a.set i v)[i]? = some v := by rw [List.getElem?_set_self (by omega)]
      have hget' : (a.set i v)[i]'(by simpa using hia) = v := by simp
      have hdr : (a.set i v).drop i = lngs (l.drop i) := by
        rw [List.drop_eq_getElem_cons (by simpa using hia), hget', lngs_drop hi, hv, List.drop_set_of_lt (by omega), had]
      have hvb : 1 ≤ v ∧ v ≤ l.length := by
        have := lngs_bound (l.drop i) v (by rw [lngs_drop hi, hv]; simp)
        simp only [List.length_drop] at this
        omega
      have hmo : mo l i = max (mo l (i + 1)) v := by
        unfold mo; rw [lngs_drop hi, hv]; simp [mostOf]
      have hstep : lcs_Rising_L0 l (mo l (i + 1), ((i + 1 : Nat) : Int) - 1, a) = some (.next (mo l i, (i : Int) - 1, a.set i v)) := by
        simp only [lcs_Rising_L0, e1]
        rw [if_pos (by omega), rd_nat, List.getElem?_eq_getElem hia, Option.bind_some, w64_succ (by omega), Int.toNat_natCast, h1', Option.bind_some]
        simp only
        rw [rd_nat, hget, Option.bind_some, ← hmo, w64_id (by omega) (by omega)]
      rw [iter_next hstep]
      refine ih (a.set i v) (by omega) (by simpa using hal) hdr fun j h => ?_
      simp only [List.getElem_set]
      split
      · omega
      · exact hab j (by simpa using h)
  have h0 := key l.length (List.replicate l.length 0) (Nat.le_refl _) (by simp) (by simp [lngs]) (fun k h => by simp)
  have e : mo l l.length = 0 := by simp [mo, lngs, mostOf]
  rw [e] at h0
  rw [w64_id (by omega) (by omega)]
  exact h0
structure UpI (l ls goal : List Int) (x : Nat × Int × List Int × Option Nat) : Prop where
  le : x.1 ≤ l.length
  eq : goal = x.2.2.1 ++ takeUp ((l.zip ls).drop x.1) x.1 x.2.1 (x.2.2.2.map fun p => l.getD p 0)
  none : x.2.2.2 = none → x.2.2.1 = []
  some : ∀ p, x.2.2.2 = some p → p < l.length ∧ ∃ o, x.2.2.1 = o ++ [(p : Int)]
  len : x.2.2.1.length ≤ x.1
  most : x.2.1 ≤ 2 ^ 40 ∧ x.2.1 + x.1 ≥ 0
theorem upI_start (l : List Int) (hl : l.length < 2 ^ 39) : UpI l (lngs l) (rising l) (0, mostOf (lngs l), [], none) where
  le := by simp
  eq := by simp [rising]
  none := fun _ => rfl
  some := fun p h => by cases h
  len := by simp
  most := by
    have := mostOf_bound (lngs l) l.length (by omega) fun v hv => (lngs_bound l v hv).2
    simp only; omega
theorem ris_L2 (l ls goal : List Int) (hl : l.length < 2 ^ 39) (hls : ls.length = l.length) (x : Nat × Int × List Int × Option Nat) (hx : UpI l ls goal x) :
    ∃ most, iter (lcs_Rising_L2 l (l.length : Int) ls) (x.2.1, (x.1 : Int), x.2.2.1) = some (.jmp 4 (most, (l.length : Int), goal)) := by
  have key : ∀ d (x : Nat × Int × List Int × Option Nat), x.1 + d = l.length → UpI l ls goal x → ∃ most, iter (lcs_Rising_L2 l (l.length : Int) ls) (x.2.1, (x.1 : Int), x.2.2.1) = some (.jmp 4 (most, (l.length : Int), goal)) := by
    intro d
    induction d with
    | zero =>
      intro ⟨i, most, out, last⟩ hd ⟨hi, heq, hn, hs, hlen, hm1, hm2⟩
      simp only at hd hi heq hn hs hlen hm1 hm2 ⊢
      obtain rfl : i = l.length := by omega
      have : goal = out := by rw [heq, List.drop_eq_nil_of_le (by simp [List.length_zip]; omega)]; simp [takeUp]
      refine ⟨most, iter_jmp ?_⟩
      simp only [lcs_Rising_L2]
      rw [if_neg (by omega), this]
    | succ d ih =>
      intro ⟨i, most, out, last⟩ hd ⟨hi, heq, hn, hs, hlen, hm1, hm2⟩
      simp only at hd hi heq hn hs hlen hm1 hm2 ⊢
      have h2 : i < l.length := by omega
      have h2' : i < ls.length := by omega
      have hdr : (l.zip ls).drop i = (l[i], ls[i]) :: (l.zip ls).drop (i + 1) := by
        rw [List.drop_eq_getElem_cons (by simp [List.length_zip]; omega)]; simp
      rw [hdr] at heq
      have e1 : rd ls (i : Int) = some ls[i] := by rw [rd_nat, List.getElem?_eq_getElem]
      have e2 : rd l (i : Int) = some l[i] := by rw [rd_nat, List.getElem?_eq_getElem]
      have em : ls[i] = most → w64 (most - 1) = most - 1 := fun h => w64_id (by omega) (by omega)
      have fin : ∀ (y : Nat × Int × List Int × Option Nat), y.1 = i + 1 → UpI l ls goal y → lcs_Rising_L2 l (l.length : Int) ls (most, (i : Int), out) = some (.next (y.2.1, (y.1 : Int), y.2.2.1)) →
          ∃ most', iter (lcs_Rising_L2 l (l.length : Int) ls) (most, (i : Int), out) = some (.jmp 4 (most', (l.length : Int), goal)) := by
        intro y hy hu hst
        rw [iter_next hst]
        exact ih y (by omega) hu
      by_cases h3 : ls[i] = most
      · cases last with
        | none =>
          have ho := hn rfl
          refine fin (i + 1, most - 1, out ++ [(i : Int)], some i) rfl ⟨by simp only; omega, ?_, by simp, ?_, by simp; omega, by simp only; omega⟩ ?_
          · rw [heq, takeUp, if_pos ⟨h3, by simp⟩]; simp [h2, ho]
          · intro p hp; simp only [Option.some.injEq] at hp; subst hp; exact ⟨h2, out, rfl⟩
          · simp only [lcs_Rising_L2, e1, Option.bind_some]
            rw [if_pos (by omega), if_pos h3, if_pos (by rw [ho]; rfl), if_pos (by rw [ho]; decide), w64_succ (by omega), em h3]
        | some p =>
          obtain ⟨hp, o, ho⟩ := hs p rfl
          have hne : ¬ (out.length : Int) = 0 := by rw [ho]; simp; omega
          have hol : 0 < out.length := by omega
          have e3 : w64 ((out.length : Int) - 1) = ((out.length - 1 : Nat) : Int) := by rw [w64_id (by omega) (by omega)]; omega
          have e4 : out[out.length - 1]? = some (p : Int) := by rw [List.getElem?_eq_getElem (by omega)]; simp [ho]
          have e5 : rd l (p : Int) = some l[p] := by rw [rd_nat, List.getElem?_eq_getElem]
          by_cases h4 : l[p] < l[i]
          · refine fin (i + 1, most - 1, out ++ [(i : Int)], some i) rfl ⟨by simp only; omega, ?_, by simp, ?_, by simp; omega, by simp only; omega⟩ ?_
            · rw [heq, takeUp, if_pos ⟨h3, by simp [hp]; omega⟩]; simp [h2]
            · intro p hp; simp only [Option.some.injEq] at hp; subst hp; exact ⟨h2, out, rfl⟩
            · simp only [lcs_Rising_L2, e1, e2, e3, Option.bind_some]
              rw [if_pos (by omega), if_pos h3, if_neg hne, rd_nat, e4, Option.bind_some, e5, Option.bind_some, if_pos h4, if_pos (by omega), w64_succ (by omega), em h3]
          · refine fin (i + 1, most, out, some p) rfl ⟨by simp only; omega, ?_, by simp, hs, by simp only; omega, by simp only; omega⟩ ?_
            · rw [heq, takeUp, if_neg (fun h => h4 (by have := h.2 l[p] (by simp [hp]); omega))]
            · simp only [lcs_Rising_L2, e1, e2, e3, Option.bind_some]
              rw [if_pos (by omega), if_pos h3, if_neg hne, rd_nat, e4, Option.bind_some, e5, Option.bind_some, if_neg h4, w64_succ (by omega)]
      · refine fin (i + 1, most, out, last) rfl ⟨by simp only; omega, ?_, hn, hs, by simp only; omega, by simp only; omega⟩ ?_
        · rw [heq, takeUp, if_neg (fun h => h3 h.1)]
        · simp only [lcs_Rising_L2, e1, Option.bind_some]
          rw [if_pos (by omega), if_neg h3, w64_succ (by omega)]
  exact key (l.length - x.1) x (by have := hx.le; omega) hx
theorem lcs_rising_eq (l : List Int) (hl : l.length < 2 ^ 39) : lcs_Rising l = some (rising l) := by
  unfold lcs_Rising
  rw [if_pos (by omega), Int.toNat_natCast, ris_L0 l hl, Option.bind_some]
  simp only
  obtain ⟨most, h⟩ := ris_L2 l (lngs l) (rising l) hl (lngs_len l) (0, mostOf (lngs l), [], none) (upI_start l hl)
  have h' : iter (lcs_Rising_L2 l (l.length : Int) (lngs l)) (mostOf (lngs l), (0 : Int), []) = _ := h
  rw [h']; rfl
def outs (r : List Int) : Nat → List Int
  | 0 => []
  | i + 1 => if (i : Int) ∈ r then outs r i else outs r i ++ [(i : Int)]
def walk (r : List Int) : Nat → List Int × List Int
  | 0 => (r, [])
  | i + 1 => if (walk r i).1.head? = some (i : Int) then ((walk r i).1.tail, (walk r i).2) else ((walk r i).1, (walk r i).2 ++ [(i : Int)])
theorem walk_len (r : List Int) : ∀ n, (walk r n).2.length ≤ n ∧ (walk r n).1.length ≤ r.length
  | 0 => by simp [walk]
  | n + 1 => by
    have := walk_len r n
    unfold walk; split <;> simp <;> omega
theorem filt_head {r : List Int} (hs : r.Pairwise (· < ·)) (i : Int) : (r.filter fun v => decide (i ≤ v)).head? = some i ↔ i ∈ r := by
  induction r with
  | nil => simp
  | cons x r ih =>
    obtain ⟨h1, h2⟩ := List.pairwise_cons.1 hs
    by_cases h : i ≤ x
    · rw [List.filter_cons_of_pos (by simpa using h)]
      simp only [List.head?_cons, Option.some.injEq, List.mem_cons]
      constructor
      · intro e; exact .inl e.symm
      · rintro (e | e)
        · exact e.symm
        · have := h1 i e; omega
    · rw [List.filter_cons_of_neg (by simpa using h), ih h2, List.mem_cons]
      constructor
      · exact .inr
      · rintro (e | e)
        · omega
        · exact e
theorem filt_same {r : List Int} {i : Int} (h : i ∉ r) : (r.filter fun v => decide (i ≤ v)) = r.filter fun v => decide (i + 1 ≤ v) := by
  apply List.filter_congr
  intro x hx
  have : x ≠ i := fun e => h (e ▸ hx)
  simp only [decide_eq_decide]
  omega
theorem filt_tail {r : List Int} (hs : r.Pairwise (· < ·)) {i : Int} (h : i ∈ r) : (r.filter fun v => decide (i ≤ v)).tail = r.filter fun v => decide (i + 1 ≤ v) := by
  induction r with
  | nil => simp at h
  | cons x r ih =>
    obtain ⟨h1, h2⟩ := List.pairwise_cons.1 hs
    rcases List.mem_cons.1 h with e | e
    · subst e
      rw [List.filter_cons_of_pos (by simp), List.tail_cons, List.filter_cons_of_neg (by simp; omega)]
      exact filt_same fun hm => by have := h1 i hm; omega
    · have := h1 i e
      rw [List.filter_cons_of_neg (by simp; omega), ih h2 e, List.filter_cons_of_neg (by simp; omega)]
theorem walk_eq {r : List Int} (hs : r.Pairwise (· < ·)) (h0 : ∀ v ∈ r, 0 ≤ v) : ∀ n, (walk r n).1 = (r.filter fun v => decide ((n : Int) ≤ v)) ∧ (walk r n).2 = outs r n
  | 0 => by
    refine ⟨?_, rfl⟩
    rw [walk]
    exact (List.filter_eq_self.2 fun v hv => by simpa using h0 v hv).symm
  | n + 1 => by
    obtain ⟨h1, h2⟩ := walk_eq hs h0 n
    have hc : ((n + 1 : Nat) : Int) = (n : Int) + 1 := by omega
    rw [walk, outs, h1, h2, hc]
    by_cases h : (n : Int) ∈ r
    · rw [if_pos ((filt_head hs _).2 h), if_pos h]
      exact ⟨filt_tail hs h, rfl⟩
    · rw [if_neg (fun e => h ((filt_head hs _).1 e)), if_neg h]
      exact ⟨filt_same h, rfl⟩
theorem takeUp_mem : ∀ (L : List (Int × Int)) (i : Nat) (m : Int) (last : Option Int) (v : Int), v ∈ takeUp L i m last → (i : Int) ≤ v ∧ v < i + L.length
  | [], i, m, last, v, h => by simp [takeUp] at h
  | (x, n) :: L, i, m, last, v, h => by
    rw [takeUp] at h
    simp only [List.length_cons]
    split at h
    · rcases List.mem_cons.1 h with e | e
      · omega
      · have := takeUp_mem L _ _ _ v e; omega
    · have := takeUp_mem L _ _ _ v h; omega
theorem takeUp_sorted : ∀ (L : List (Int × Int)) (i : Nat) (m : Int) (last : Option Int), (takeUp L i m last).Pairwise (· < ·)
  | [], i, m, last => by simp [takeUp]
  | (x, n) :: L, i, m, last => by
    rw [takeUp]
    split
    · refine List.pairwise_cons.2 ⟨fun v hv => ?_, takeUp_sorted L _ _ _⟩
      have := takeUp_mem L _ _ _ v hv; omega
    · exact takeUp_sorted L _ _ _
theorem takeUp_len : ∀ (L : List (Int × Int)) (i : Nat) (m : Int) (last : Option Int), (takeUp L i m last).length ≤ L.length
  | [], i, m, last => by simp [takeUp]
  | (x, n) :: L, i, m, last => by
    rw [takeUp]
    split
    · have := takeUp_len L (i + 1) (m - 1) (some x); simp only [List.length_cons]; omega
    · have := takeUp_len L (i + 1) m last; simp only [List.length_cons]; omega
theorem rising_len (l : List Int) : (rising l).length ≤ l.length := by
  have := takeUp_len (l.zip (lngs l)) 0 (mostOf (lngs l)) none
  simp only [List.length_zip, lngs_len] at this
  unfold rising; omega
theorem rising_sorted (l : List Int) : (rising l).Pairwise (· < ·) := takeUp_sorted _ _ _ _
theorem rising_mem {l : List Int} {v : Int} (h : v ∈ rising l) : 0 ≤ v ∧ v < l.length := by
  have := takeUp_mem _ _ _ _ v h
  simp only [List.length_zip, lngs_len] at this
  omega
theorem least_same (l : List Int) : (walk (rising l) l.length).2 = outs (rising l) l.length := (walk_eq (rising_sorted l) (fun v hv => (rising_mem hv).1) l.length).2
end Xn

set_option linter.unusedVariables false
namespace Xn
open Go Go.Ev
def leastOf (l : List Int) : List Int := outs (rising l) l.length
theorem moves_least_eq (l : List Int) (h : l.length < 2 ^ 39) : moves_Least l = some (leastOf l) := by
  unfold moves_Least
  rw [lcs_rising_eq l h, Option.bind_some]
  have hr := rising_len l
  have h1 := iter_to (step := moves_Least_L0 (l.length : Int)) (fun i => ((walk (rising l) i).1, (i : Int), (walk (rising l) i).2)) l.length (fun i hi => by
    have hol := walk_len (rising l) i
    simp only [moves_Least_L0]
    rw [if_pos (by omega), walk]
    cases hw : (walk (rising l) i).1 with
    | nil =>
      simp only [List.length_nil, List.head?_nil, reduceCtorEq, if_false]
      rw [if_neg (by omega), if_pos (by omega), w64_succ (by omega)]
    | cons x t =>
      rw [hw] at hol
      simp only [List.length_cons] at hol
      simp only [List.length_cons, List.head?_cons, Option.some.injEq]
      rw [if_pos (by omega), show rd (x :: t) 0 = some x from rfl, Option.bind_some]
      by_cases hx : x = (i : Int)
      · rw [if_pos hx, if_pos hx, if_pos (by omega), w64_succ (by omega)]
        rfl
      · rw [if_neg hx, if_neg hx, if_pos (by omega), w64_succ (by omega)])
  have h2 : iter (moves_Least_L0 (l.length : Int)) (rising l, (0 : Int), ([] : List Int)) = _ := h1
  rw [h2, iter_jmp (n := 0) (s' := ((walk (rising l) l.length).1, (l.length : Int), (walk (rising l) l.length).2))]
  · simp only [Option.bind_some, least_same]; rfl
  · simp only [moves_Least_L0]
    rw [if_neg (by omega)]
theorem outs_mem {r : List Int} : ∀ {n : Nat} {v : Int}, v ∈ outs r n ↔ 0 ≤ v ∧ v < n ∧ v ∉ r
  | 0, v => by simp only [outs, List.not_mem_nil, false_iff]; omega
  | n + 1, v => by
    rw [outs]
    by_cases h : (n : Int) ∈ r
    · rw [if_pos h, outs_mem]
      constructor
      · rintro ⟨h1, h2, h3⟩; exact ⟨h1, by omega, h3⟩
      · rintro ⟨h1, h2, h3⟩
        refine ⟨h1, ?_, h3⟩
        have : v ≠ n := fun e => h3 (e ▸ h)
        omega
    · rw [if_neg h, List.mem_append, outs_mem, List.mem_singleton]
      constructor
      · rintro (⟨h1, h2, h3⟩ | rfl)
        · exact ⟨h1, by omega, h3⟩
        · exact ⟨by omega, by omega, h⟩
      · rintro ⟨h1, h2, h3⟩
        by_cases e : v = n
        · exact .inr e
        · exact .inl ⟨h1, by omega, h3⟩
theorem outs_sorted (r : List Int) : ∀ n, (outs r n).Pairwise (· < ·)
  | 0 => by simp [outs]
  | n + 1 => by
    rw [outs]
    split
    · exact outs_sorted r n
    · refine List.pairwise_append.2 ⟨outs_sorted r n, List.pairwise_singleton _ _, fun a ha b hb => ?_⟩
      have := (outs_mem.1 ha).2.1
      obtain rfl : b = n := by simpa using hb
      exact this
theorem leastOf_mem {l : List Int} {v : Int} : v ∈ leastOf l ↔ 0 ≤ v ∧ v < l.length ∧ v ∉ rising l := outs_mem
theorem leastOf_sorted (l : List Int) : (leastOf l).Pairwise (· < ·) := outs_sorted _ _
theorem best_mono {f : Int → Int} (x : Int) : ∀ (l ls : List Int) (m : Int), (∀ y ∈ l, (x < y ↔ f x < f y)) → ((l.map f).zip ls).foldl (up1 (f x)) m = (l.zip ls).foldl (up1 x) m
  | [], ls, m, _ => rfl
  | y :: l, [], m, _ => rfl
  | y :: l, v :: ls, m, h => by
    simp only [List.map_cons, List.zip_cons_cons, List.foldl_cons]
    have e : up1 (f x) m (f y, v) = up1 x m (y, v) := by
      unfold up1
      have := h y List.mem_cons_self
      simp only [gt_iff_lt, this]
    rw [e]
    exact best_mono x l ls _ fun z hz => h z (List.mem_cons_of_mem _ hz)
theorem lngs_map {f : Int → Int} : ∀ (l : List Int), (∀ x ∈ l, ∀ y ∈ l, (x < y ↔ f x < f y)) → lngs (l.map f) = lngs l
  | [], _ => rfl
  | x :: l, h => by
    have ih := lngs_map l fun a ha b hb => h a (List.mem_cons_of_mem _ ha) b (List.mem_cons_of_mem _ hb)
    simp only [List.map_cons, lngs, ih, best_eq]
    rw [best_mono x l (lngs l) 1 fun y hy => h x List.mem_cons_self y (List.mem_cons_of_mem _ hy)]
theorem takeUp_map {f : Int → Int} : ∀ (l ls : List Int) (i : Nat) (most : Int) (last : Option Int), (∀ x ∈ l, ∀ y ∈ l, (x < y ↔ f x < f y)) → (∀ y ∈ last, ∀ x ∈ l, (y < x ↔ f y < f x)) →
    takeUp ((l.map f).zip ls) i most (last.map f) = takeUp (l.zip ls) i most last
  | [], ls, i, most, last, _, _ => rfl
  | x :: l, [], i, most, last, _, _ => rfl
  | x :: l, n :: ls, i, most, last, h, hl => by
    simp only [List.map_cons, List.zip_cons_cons, takeUp]
    have hc : (n = most ∧ ∀ y ∈ last.map f, f x > y) ↔ (n = most ∧ ∀ y ∈ last, x > y) := by
      refine and_congr_right fun _ => ?_
      cases last with
      | none => simp
      | some y =>
        have := hl y rfl x List.mem_cons_self
        simp only [Option.map_some, Option.mem_def, Option.some.injEq, forall_eq', gt_iff_lt]
        exact this.symm
    have h' : ∀ a ∈ l, ∀ b ∈ l, (a < b ↔ f a < f b) := fun a ha b hb => h a (List.mem_cons_of_mem _ ha) b (List.mem_cons_of_mem _ hb)
    by_cases hh : n = most ∧ ∀ y ∈ last, x > y
    · rw [if_pos (hc.2 hh), if_pos hh]
      have := takeUp_map l ls (i + 1) (most - 1) (some x) h' (fun y hy b hb => by cases hy; exact h x List.mem_cons_self b (List.mem_cons_of_mem _ hb))
      rw [← this]; rfl
    · rw [if_neg (fun g => hh (hc.1 g)), if_neg hh]
      exact takeUp_map l ls (i + 1) most last h' (fun y hy b hb => hl y hy b (List.mem_cons_of_mem _ hb))
theorem rising_map {f : Int → Int} {l : List Int} (h : ∀ x ∈ l, ∀ y ∈ l, (x < y ↔ f x < f y)) : rising (l.map f) = rising l := by
  unfold rising
  rw [lngs_map l h]
  exact takeUp_map l (lngs l) 0 _ none h (fun y hy => by cases hy)
theorem leastOf_map {f : Int → Int} {l : List Int} (h : ∀ x ∈ l, ∀ y ∈ l, (x < y ↔ f x < f y)) : leastOf (l.map f) = leastOf l := by
  unfold leastOf; rw [rising_map h, List.length_map]
theorem best_ge {x : Int} : ∀ (l : List (Int × Int)) (m : Int), m ≤ l.foldl (up1 x) m
  | [], m => Int.le_refl _
  | p :: l, m => by
    rw [List.foldl_cons]
    have := best_ge (x := x) l (up1 x m p)
    have : m ≤ up1 x m p := by unfold up1; split <;> omega
    omega
theorem best_mem {x : Int} : ∀ (l : List (Int × Int)) (m : Int) (p : Int × Int), p ∈ l → x < p.1 → p.2 + 1 ≤ l.foldl (up1 x) m
  | [], m, p, h, _ => by cases h
  | q :: l, m, p, h, hx => by
    rw [List.foldl_cons]
    rcases List.mem_cons.1 h with rfl | h
    · have := best_ge (x := x) l (up1 x m p)
      have : p.2 + 1 ≤ up1 x m p := by unfold up1; rw [if_pos hx]; omega
      omega
    · exact best_mem l _ p h hx
theorem best_from {x : Int} : ∀ (l : List (Int × Int)) (m : Int), l.foldl (up1 x) m = m ∨ ∃ p ∈ l, x < p.1 ∧ l.foldl (up1 x) m = p.2 + 1
  | [], m => .inl rfl
  | q :: l, m => by
    rw [List.foldl_cons]
    rcases best_from (x := x) l (up1 x m q) with h | ⟨p, h1, h2, h3⟩
    · rw [h]
      unfold up1
      by_cases hq : q.1 > x
      · rw [if_pos hq]
        by_cases hm : q.2 + 1 ≤ m
        · exact .inl (by omega)
        · exact .inr ⟨q, List.mem_cons_self, hq, by omega⟩
      · rw [if_neg hq]; exact .inl rfl
    · exact .inr ⟨p, List.mem_cons_of_mem _ h1, h2, h3⟩
theorem chain_le : ∀ (l : List Int) (c : List Int), c.Sublist l → c.Pairwise (· < ·) → (c.length : Int) ≤ mostOf (lngs l) ∧ (∀ x, c.head? = some x → ∃ p ∈ l.zip (lngs l), p.1 = x ∧ (c.length : Int) ≤ p.2)
  | [], c, h, _ => by
    obtain rfl := List.sublist_nil.1 h
    exact ⟨by simp [lngs, mostOf], fun x hx => by cases hx⟩
  | y :: l, c, h, hp => by
    have hmo : mostOf (lngs (y :: l)) = max (mostOf (lngs l)) (best y l (lngs l)) := by simp [lngs, mostOf]
    cases h with
    | cons _ h =>
      obtain ⟨h1, h2⟩ := chain_le l c h hp
      refine ⟨by rw [hmo]; omega, fun x hx => ?_⟩
      obtain ⟨p, h3, h4⟩ := h2 x hx
      exact ⟨p, by rw [lngs, List.zip_cons_cons]; exact List.mem_cons_of_mem _ h3, h4⟩
    | cons_cons _ h =>
      rename_i c'
      obtain ⟨hy, hp'⟩ := List.pairwise_cons.1 hp
      obtain ⟨h1, h2⟩ := chain_le l c' h hp'
      have hb : ((c'.length : Int) + 1) ≤ best y l (lngs l) := by
        cases c' with
        | nil =>
          have := best_ge (x := y) (l.zip (lngs l)) 1
          rw [best_eq]; simpa using this
        | cons z c2 =>
          obtain ⟨p, h3, h4, h5⟩ := h2 z rfl
          have h6 := hy z List.mem_cons_self
          have := best_mem (x := y) (l.zip (lngs l)) 1 p h3 (by omega)
          rw [best_eq]; omega
      refine ⟨by rw [hmo]; simp only [List.length_cons]; omega, fun x hx => ?_⟩
      obtain rfl : y = x := by simpa using hx
      exact ⟨(y, best y l (lngs l)), by rw [lngs, List.zip_cons_cons]; exact List.mem_cons_self, rfl, by simp only [List.length_cons]; omega⟩
def takeV : List (Int × Int) → Int → Option Int → List Int
  | [], _, _ => []
  | (x, n) :: l, most, last => if n = most ∧ (∀ y ∈ last, x > y) then x :: takeV l (most - 1) (some x) else takeV l most last
theorem takeV_len : ∀ (L : List (Int × Int)) (i : Nat) (most : Int) (last : Option Int), (takeUp L i most last).length = (takeV L most last).length
  | [], i, most, last => rfl
  | (x, n) :: L, i, most, last => by
    rw [takeUp, takeV]
    split
    · simp only [List.length_cons, takeV_len L (i + 1)]
    · exact takeV_len L (i + 1) most last
theorem takeV_full : ∀ (l : List Int) (most : Int) (last : Option Int), 0 ≤ most → (most = 0 ∨ ∃ p ∈ l.zip (lngs l), p.2 = most ∧ ∀ y ∈ last, p.1 > y) → ((takeV (l.zip (lngs l)) most last).length : Int) = most
  | [], most, last, h0, h => by
    rcases h with rfl | ⟨p, hp, _⟩
    · rfl
    · simp [lngs] at hp
  | x :: l, most, last, h0, h => by
    have hb1 : 1 ≤ best x l (lngs l) := (lngs_bound (x :: l) _ (by rw [lngs]; exact List.mem_cons_self)).1
    rw [lngs, List.zip_cons_cons, takeV]
    split
    · rename_i hc
      have := takeV_full l (most - 1) (some x) (by omega) (by
        rcases best_from (x := x) (l.zip (lngs l)) 1 with e | ⟨p, h1, h2, h3⟩
        · left; rw [← best_eq] at e; omega
        · right; exact ⟨p, h1, by rw [← best_eq] at h3; omega, fun y hy => by cases hy; exact h2⟩)
      simp only [List.length_cons]; omega
    · rename_i hc
      refine takeV_full l most last h0 ?_
      rcases h with h | ⟨p, hp, hp2, hp3⟩
      · exact .inl h
      · rw [lngs, List.zip_cons_cons] at hp
        rcases List.mem_cons.1 hp with rfl | hp
        · exact absurd ⟨hp2, hp3⟩ hc
        · exact .inr ⟨p, hp, hp2, hp3⟩
theorem mostOf_mem : ∀ (ls : List Int), mostOf ls = 0 ∨ mostOf ls ∈ ls
  | [] => .inl rfl
  | v :: ls => by
    have e : mostOf (v :: ls) = max (mostOf ls) v := rfl
    rw [e]
    by_cases h : mostOf ls ≤ v
    · exact .inr (by rw [Int.max_eq_right h]; exact List.mem_cons_self)
    · rw [Int.max_eq_left (by omega)]
      rcases mostOf_mem ls with h' | h'
      · exact .inl h'
      · exact .inr (List.mem_cons_of_mem _ h')
theorem rising_most (l : List Int) : ((rising l).length : Int) = mostOf (lngs l) := by
  unfold rising
  rw [takeV_len]
  have hb := mostOf_bound (lngs l) l.length (by omega) fun v hv => (lngs_bound l v hv).2
  refine takeV_full l _ none hb.1 ?_
  rcases mostOf_mem (lngs l) with h | h
  · exact .inl h
  · obtain ⟨i, hi⟩ := List.getElem?_of_mem h
    have hil := (List.getElem?_eq_some_iff.1 hi).1
    have hl := lngs_len l
    refine .inr ⟨(l[i]'(by omega), (lngs l)[i]), ?_, ?_, fun y hy => by cases hy⟩
    · refine List.mem_of_getElem? (i := i) ?_
      rw [List.getElem?_zip_eq_some]
      exact ⟨List.getElem?_eq_getElem _, List.getElem?_eq_getElem _⟩
    · exact (List.getElem?_eq_some_iff.1 hi).2
theorem rising_max {l c : List Int} (h : c.Sublist l) (hp : c.Pairwise (· < ·)) : c.length ≤ (rising l).length := by
  have := (chain_le l c h hp).1
  have := rising_most l
  omega
theorem outs_count {r : List Int} (hs : r.Pairwise (· < ·)) : ∀ (n : Nat), (outs r n).length + (r.filter fun v => decide (0 ≤ v ∧ v < (n : Int))).length = n
  | 0 => by
    have : (r.filter fun v => decide (0 ≤ v ∧ v < ((0 : Nat) : Int))) = [] := List.filter_eq_nil_iff.2 fun v _ => by simp only [decide_eq_true_eq]; omega
    rw [this]; rfl
  | n + 1 => by
    have ih := outs_count hs n
    have split : ∀ (r : List Int), r.Pairwise (· < ·) → (r.filter fun v => decide (0 ≤ v ∧ v < ((n + 1 : Nat) : Int))).length = (r.filter fun v => decide (0 ≤ v ∧ v < (n : Int))).length + if (n : Int) ∈ r then 1 else 0 := by
      intro r
      induction r with
      | nil => intro _; simp
      | cons x r ihr =>
        intro hs
        obtain ⟨h1, h2⟩ := List.pairwise_cons.1 hs
        have := ihr h2
        simp only [List.filter_cons, List.mem_cons]
        by_cases hx : x = (n : Int)
        · subst hx
          have hnot : (n : Int) ∉ r := fun hm => by have := h1 _ hm; omega
          rw [if_pos (by simp; omega), if_neg (by simp), if_pos (.inl rfl), List.length_cons, this, if_neg hnot]
        · have e : (n : Int) = x ∨ (n : Int) ∈ r ↔ (n : Int) ∈ r := ⟨fun h => h.resolve_left (fun e => hx e.symm), .inr⟩
          simp only [e]
          by_cases hc : 0 ≤ x ∧ x < (n : Int)
          · rw [if_pos (by simp; omega), if_pos (by simp; omega)]; simp only [List.length_cons, this]; omega
          · rw [if_neg (by simp; omega), if_neg (by simp; omega)]; exact this
    rw [outs, split r hs]
    by_cases h : (n : Int) ∈ r
    · rw [if_pos h, if_pos h]; omega
    · rw [if_neg h, if_neg h]; simp only [List.length_append, List.length_cons, List.length_nil]; omega
theorem leastOf_len (l : List Int) : (leastOf l).length + (rising l).length = l.length := by
  have h := outs_count (rising_sorted l) l.length
  have e : ((rising l).filter fun v => decide (0 ≤ v ∧ v < (l.length : Int))) = rising l := List.filter_eq_self.2 fun v hv => by
    have := rising_mem hv
    simpa using this
  rw [e] at h
  exact h
theorem leastOf_asc {l : List Int} (h : l.Pairwise (· < ·)) : leastOf l = [] := by
  have h1 := rising_max (List.Sublist.refl l) h
  have h2 := leastOf_len l
  exact List.length_eq_zero_iff.1 (by omega)
end Xn

set_option linter.unusedVariables false
namespace Xn
open Go Go.Ev
structure Mp (x y : List Row) (m : List Pair) : Prop where
  old : ∀ p ∈ m, 0 ≤ p.Old ∧ p.Old < x.length
  new : ∀ p ∈ m, 0 ≤ p.New ∧ p.New < y.length
  zero : ∀ p ∈ m, (p.Old = 0 ↔ p.New = 0)
  asc : m.Pairwise (fun p q => p.Old < q.Old)
  inj : m.Pairwise (fun p q => p.New ≠ q.New)
theorem mp_of {x y : List Row} {m : List Pair} (h : ∀ i, i < m.length → GoodAt x y m i) : Mp x y m := by
  have at_ : ∀ p ∈ m, ∃ i, i < m.length ∧ m[i]? = some p := fun p hp => by
    obtain ⟨i, hi⟩ := List.getElem?_of_mem hp
    exact ⟨i, (List.getElem?_eq_some_iff.1 hi).1, hi⟩
  refine ⟨fun p hp => ?_, fun p hp => ?_, fun p hp => ?_, ?_, ?_⟩
  · obtain ⟨i, hi, hip⟩ := at_ p hp
    obtain ⟨p', u, v, g1, g2, g3, _⟩ := h i hi
    rw [hip] at g1; cases g1
    have := (List.getElem?_eq_some_iff.1 g3).1
    exact ⟨g2, by omega⟩
  · obtain ⟨i, hi, hip⟩ := at_ p hp
    obtain ⟨p', u, v, g1, g2, g3, g4, g5, _⟩ := h i hi
    rw [hip] at g1; cases g1
    have := (List.getElem?_eq_some_iff.1 g5).1
    exact ⟨g4, by omega⟩
  · obtain ⟨i, hi, hip⟩ := at_ p hp
    obtain ⟨p', u, v, g1, g2, g3, g4, g5, g6, g7, g8⟩ := h i hi
    rw [hip] at g1; cases g1
    exact g8
  · rw [List.pairwise_iff_getElem]
    intro i j hi hj hij
    obtain ⟨p', u, v, g1, g2, g3, g4, g5, g6, g7, g8⟩ := h j hj
    rw [List.getElem?_eq_getElem hj] at g1
    cases g1
    exact (g6 i hij _ (List.getElem?_eq_getElem hi)).1
  · rw [List.pairwise_iff_getElem]
    intro i j hi hj hij
    obtain ⟨p', u, v, g1, g2, g3, g4, g5, g6, g7, g8⟩ := h j hj
    rw [List.getElem?_eq_getElem hj] at g1
    cases g1
    exact (g6 i hij _ (List.getElem?_eq_getElem hi)).2
theorem fnd_mem {m : List Pair} {i k : Int} (h : fnd m i = some k) : ⟨i, k⟩ ∈ m := by
  unfold fnd at h
  obtain ⟨p, hp, hk⟩ := List.exists_of_findSome?_eq_some h
  split at hk
  · rename_i e
    cases hk
    subst e
    exact hp
  · cases hk
theorem fnd_none {m : List Pair} {i : Int} (h : fnd m i = none) : ∀ p ∈ m, p.Old ≠ i := by
  intro p hp e
  unfold fnd at h
  have := List.findSome?_eq_none_iff.1 h p hp
  rw [if_pos e] at this
  cases this
theorem asc_unique {m : List Pair} (h : m.Pairwise (fun p q => p.Old < q.Old)) {p q : Pair} (hp : p ∈ m) (hq : q ∈ m) (e : p.Old = q.Old) : p = q := by
  obtain ⟨i, hi⟩ := List.getElem?_of_mem hp
  obtain ⟨j, hj⟩ := List.getElem?_of_mem hq
  obtain ⟨hi1, hi2⟩ := List.getElem?_eq_some_iff.1 hi
  obtain ⟨hj1, hj2⟩ := List.getElem?_eq_some_iff.1 hj
  have := List.pairwise_iff_getElem.1 h
  rcases Nat.lt_trichotomy i j with hl | hl | hl
  · have := this i j hi1 hj1 hl; rw [hi2, hj2] at this; omega
  · subst hl; rw [hi] at hj; exact Option.some.inj hj
  · have := this j i hj1 hi1 hl; rw [hi2, hj2] at this; omega
theorem fnd_iff {m : List Pair} (h : m.Pairwise (fun p q => p.Old < q.Old)) {i k : Int} : fnd m i = some k ↔ ⟨i, k⟩ ∈ m := by
  refine ⟨fnd_mem, fun hm => ?_⟩
  cases hf : fnd m i with
  | none => exact absurd rfl (fnd_none hf _ hm)
  | some k' =>
    have := asc_unique h hm (fnd_mem hf) rfl
    cases this; rfl
def fi (m : List Pair) (i : Int) : Int := (fnd m i).getD (-1)
theorem fi_nn {x y : List Row} {m : List Pair} (h : Mp x y m) {i : Int} (h0 : 0 ≤ fi m i) : fnd m i = some (fi m i) ∧ ⟨i, fi m i⟩ ∈ m := by
  unfold fi at h0 ⊢
  cases hf : fnd m i with
  | none => rw [hf] at h0; simp at h0
  | some k => exact ⟨rfl, fnd_mem hf⟩
theorem fi_some {m : List Pair} {i k : Int} (h : fnd m i = some k) : fi m i = k := by unfold fi; rw [h]; rfl
theorem fi_none {m : List Pair} {i : Int} (h : fnd m i = none) : fi m i = -1 := by unfold fi; rw [h]; rfl
def par (x : List Row) (i : Int) : Int := ((rd x i).map Row.Parent).getD (-1)
def kidsOf (x : List Row) (i : Int) : List Int := ((rd x i).map Row.Kids).getD []
theorem par_rd {x : List Row} {i : Int} {r : Row} (h : rd x i = some r) : par x i = r.Parent := by unfold par; rw [h]; rfl
theorem kidsOf_rd {x : List Row} {i : Int} {r : Row} (h : rd x i = some r) : kidsOf x i = r.Kids := by unfold kidsOf; rw [h]; rfl
theorem kids_iff {x : List Row} (h : Tbl x) {i : Int} (hi : 0 ≤ i ∧ i < x.length) {j : Int} : j ∈ kidsOf x i ↔ (0 ≤ j ∧ j < x.length ∧ par x j = i) := by
  have hr : rd x i = some (x[i.toNat]'(by omega)) := rd_lt hi.1 hi.2
  have hr' : x[i.toNat]? = some (x[i.toNat]'(by omega)) := List.getElem?_eq_getElem _
  rw [kidsOf_rd hr, h.kids i.toNat _ hr' j]
  constructor
  · rintro ⟨k, rk, h1, rfl, h3⟩
    have := (List.getElem?_eq_some_iff.1 h1).1
    refine ⟨by omega, by omega, ?_⟩
    rw [par_rd (r := rk) (by rw [rd_nat]; exact h1), h3]; omega
  · rintro ⟨h1, h2, h3⟩
    have hj : rd x j = some (x[j.toNat]'(by omega)) := rd_lt h1 h2
    rw [par_rd hj] at h3
    exact ⟨j.toNat, _, List.getElem?_eq_getElem (by omega), by omega, by omega⟩
theorem kids_lt {x : List Row} (h : Tbl x) {i j : Int} (hj : j ∈ kidsOf x i) : 0 ≤ i ∧ i < x.length ∧ i < j ∧ j < x.length := by
  unfold kidsOf at hj
  cases hr : rd x i with
  | none => rw [hr] at hj; simp at hj
  | some r =>
    rw [hr] at hj
    obtain ⟨h1, h2, h3⟩ := rd_some hr
    have := h.lt h3 (j := j) (by simpa using hj)
    exact ⟨h1, h2, by omega, by omega⟩
theorem kids_asc {x : List Row} (h : Tbl x) (i : Int) : (kidsOf x i).Pairwise (· < ·) := by
  unfold kidsOf
  cases hr : rd x i with
  | none => simp
  | some r => exact h.asc _ r (rd_some hr).2.2
theorem par_pos {x : List Row} (h : Tbl x) {i : Int} (h0 : 0 < i) (h1 : i < x.length) : 0 ≤ par x i ∧ par x i < i := by
  have hr : rd x i = some (x[i.toNat]'(by omega)) := rd_lt (by omega) h1
  rw [par_rd hr]
  obtain ⟨k, hk, e⟩ := h.up i.toNat _ (List.getElem?_eq_getElem (by omega)) (by omega)
  omega
theorem kids_len {x : List Row} (h : Tbl x) (i : Int) : (kidsOf x i).length ≤ x.length := by
  have h1 := kids_asc h i
  have h2 : ∀ j ∈ kidsOf x i, 0 ≤ j ∧ j < x.length := fun j hj => by have := kids_lt h hj; omega
  have key : ∀ (l : List Int) (a : Nat), l.Pairwise (· < ·) → (∀ j ∈ l, (a : Int) ≤ j ∧ j < x.length) → l.length + a ≤ x.length ∨ l = [] := by
    intro l
    induction l with
    | nil => intro a _ _; exact .inr rfl
    | cons v l ih =>
      intro a hp hb
      obtain ⟨hv, hp'⟩ := List.pairwise_cons.1 hp
      have hvb := hb v List.mem_cons_self
      left
      rcases ih (a + 1) hp' (fun j hj => ⟨by have := hv j hj; omega, (hb j (List.mem_cons_of_mem _ hj)).2⟩) with h | h
      · simp only [List.length_cons]; omega
      · subst h; simp only [List.length_cons, List.length_nil]; omega
  rcases key _ 0 h1 (fun j hj => by have := h2 j hj; omega) with h | h
  · omega
  · rw [h]; simp
theorem c1_eq (m : List Pair) (i : Int) (h : m.length < 2 ^ 60) : moves_Moves_c1 i m = some (fi m i) := by
  unfold moves_Moves_c1
  rw [match_find_eq m i h, Option.bind_some]
  unfold fi
  cases fnd m i with
  | none => rfl
  | some k => rfl
def idx (l : List Int) (n : Int) : Int := if n ∈ l then (l.idxOf n : Int) else -1
theorem firstI_idx (n : Int) : ∀ (l : List Int) (i : Nat), firstI (fun j v => if n = v then some ((j : Nat) : Int) else none) l i = if n ∈ l then some ((i + l.idxOf n : Nat) : Int) else none
  | [], i => by simp [firstI]
  | v :: l, i => by
    simp only [firstI, List.mem_cons, List.idxOf_cons]
    by_cases hv : n = v
    · subst hv
      rw [if_pos rfl, if_pos (.inl rfl)]; simp
    · rw [if_neg hv]
      simp only
      rw [firstI_idx n l (i + 1)]
      have hb : (v == n) = false := by simpa using fun e => hv (Eq.symm e)
      by_cases hl : n ∈ l
      · rw [if_pos hl, if_pos (.inr hl), hb]; simp only [cond_false]; congr 2; omega
      · rw [if_neg hl, if_neg (fun h => h.elim hv hl)]
theorem index_eq (l : List Int) (n : Int) (h : l.length < 2 ^ 60) : slices_Index_int_int l n = some (idx l n) := by
  unfold slices_Index_int_int
  have := iter_first (step := slices_Index_int_int_L0 l n (l.length : Int)) (fun i => (i : Int)) (fun j (v : Int) => if n = v then some ((j : Nat) : Int) else none) 0 (l.length : Int) l 0 (fun j v hj => by
    have hjl := (List.getElem?_eq_some_iff.1 hj).1
    simp only [slices_Index_int_int_L0, Nat.zero_add, rd_nat, hj, Option.bind_some]
    rw [if_pos (by omega)]
    by_cases hc : n = v
    · rw [if_pos hc, if_pos hc]
    · rw [if_neg hc, if_neg hc, w64_succ (by omega)]) (by
    simp only [slices_Index_int_int_L0, Nat.zero_add]
    rw [if_neg (by omega)])
  rw [show ((0 : Nat) : Int) = 0 from rfl] at this
  rw [this, firstI_idx]
  unfold idx
  by_cases hl : n ∈ l
  · simp only [if_pos hl, Option.bind_some, Nat.zero_add]
  · simp only [if_neg hl, Option.bind_some]
theorem idx_nn {l : List Int} {n : Int} : 0 ≤ idx l n ↔ n ∈ l := by
  unfold idx
  by_cases hl : n ∈ l
  · rw [if_pos hl]; exact ⟨fun _ => hl, fun _ => by omega⟩
  · rw [if_neg hl]; exact ⟨fun h => by omega, fun h => absurd h hl⟩
theorem idx_mono {l : List Int} (h : l.Pairwise (· < ·)) {a b : Int} (ha : a ∈ l) (hb : b ∈ l) : a < b ↔ idx l a < idx l b := by
  unfold idx
  rw [if_pos ha, if_pos hb]
  have ia := List.idxOf_lt_length_of_mem ha
  have ib := List.idxOf_lt_length_of_mem hb
  have ea : l[l.idxOf a] = a := List.getElem_idxOf ia
  have eb : l[l.idxOf b] = b := List.getElem_idxOf ib
  have hp := List.pairwise_iff_getElem.1 h
  constructor
  · intro hab
    rcases Nat.lt_trichotomy (l.idxOf a) (l.idxOf b) with hl | hl | hl
    · omega
    · have e : l[l.idxOf a] = l[l.idxOf b] := by congr 1
      rw [ea, eb] at e; omega
    · have := hp _ _ ib ia hl; rw [ea, eb] at this; omega
  · intro hab
    have := hp _ _ ia ib (by omega); rw [ea, eb] at this; exact this
def KL (x y : List Row) (m : List Pair) (i k : Int) : List Int := (kidsOf x i).filter fun c => decide (fi m c ∈ kidsOf y k)
theorem KL_mem {x y : List Row} {m : List Pair} {i k c : Int} : c ∈ KL x y m i k ↔ c ∈ kidsOf x i ∧ fi m c ∈ kidsOf y k := by
  unfold KL; rw [List.mem_filter, decide_eq_true_eq]
theorem KL_asc {x y : List Row} {m : List Pair} (h : Tbl x) (i k : Int) : (KL x y m i k).Pairwise (· < ·) := (kids_asc h i).filter _
def RO (x y : List Row) (m : List Pair) (i k : Int) : List Int := leastOf ((KL x y m i k).map (fi m))
def pmL (x y : List Row) (m : List Pair) (i k : Int) : List Move := if 0 < i ∧ 0 < k ∧ fi m (par x i) ≠ par y k then [⟨1, i, k⟩] else []
def omL (x y : List Row) (m : List Pair) (i k : Int) : List Move := (RO x y m i k).map fun at_ => ⟨2, (KL x y m i k).getD at_.toNat 0, fi m ((KL x y m i k).getD at_.toNat 0)⟩
def rowOut (x y : List Row) (m : List Pair) (i : Nat) : List Move := match fnd m i with | none => [] | some k => pmL x y m i k ++ omL x y m i k
theorem RO_places {x y : List Row} {m : List Pair} (hy : Tbl y) (i k : Int) : leastOf ((KL x y m i k).map fun c => idx (kidsOf y k) (fi m c)) = RO x y m i k := by
  unfold RO
  rw [← leastOf_map (f := idx (kidsOf y k)) (l := (KL x y m i k).map (fi m))]
  · rw [List.map_map]; rfl
  · intro a ha b hb
    obtain ⟨c, hc, rfl⟩ := List.mem_map.1 ha
    obtain ⟨d, hd, rfl⟩ := List.mem_map.1 hb
    exact idx_mono (kids_asc hy k) (KL_mem.1 hc).2 (KL_mem.1 hd).2
theorem RO_mem {x y : List Row} {m : List Pair} {i k v : Int} (h : v ∈ RO x y m i k) : 0 ≤ v ∧ v < (KL x y m i k).length := by
  have := leastOf_mem.1 h
  simp only [List.length_map] at this
  exact ⟨this.1, this.2.1⟩
theorem RO_len {x y : List Row} {m : List Pair} (h : Tbl x) (i k : Int) : (RO x y m i k).length ≤ x.length := by
  have h1 := leastOf_len ((KL x y m i k).map (fi m))
  rw [List.length_map] at h1
  have h2 : (KL x y m i k).length ≤ (kidsOf x i).length := List.length_filter_le _ _
  have := kids_len h i
  unfold RO; omega
section
variable {x y : List Row} {m : List Pair}
theorem mv_L1 (hx : Tbl x) (hy : Tbl y) (hxl : x.length < 2 ^ 20) (hyl : y.length < 2 ^ 20) (hm : m.length < 2 ^ 60) {i k : Int} {rk : Row} (hk : rd y k = some rk) (s36 s37 : Int) (y1 : List Move) :
    iter (moves_Moves_L1 y k x s36 s37 (kidsOf x i) ((kidsOf x i).length : Int) m y1) ((0 : Int), ([] : List Int), ([] : List Int)) =
      some (.jmp 2 (((kidsOf x i).length : Int), KL x y m i k, (KL x y m i k).map fun c => idx (kidsOf y k) (fi m c))) := by
  have hkl := kids_len hx i
  have hyk := kids_len hy k
  have ek : kidsOf y k = rk.Kids := kidsOf_rd hk
  generalize hK : kidsOf x i = ks at hkl ⊢
  have h1 := iter_to (step := moves_Moves_L1 y k x s36 s37 ks (ks.length : Int) m y1)
    (fun n => ((n : Int), (ks.take n).filter (fun c => decide (fi m c ∈ kidsOf y k)), ((ks.take n).filter (fun c => decide (fi m c ∈ kidsOf y k))).map fun c => idx (kidsOf y k) (fi m c))) ks.length (fun n hn => by
      obtain ⟨c, hc⟩ : ∃ c, ks[n]? = some c := ⟨_, List.getElem?_eq_getElem hn⟩
      have hlen : ((ks.take n).filter (fun c => decide (fi m c ∈ kidsOf y k))).length ≤ n := by
        refine Nat.le_trans (List.length_filter_le _ _) ?_
        rw [List.length_take]; omega
      simp only [moves_Moves_L1, rd_nat, hc, Option.bind_some, hk, c1_eq m c hm, ← ek, index_eq _ _ (show (kidsOf y k).length < 2 ^ 60 by omega)]
      rw [if_pos (by omega), List.take_add_one, hc]
      simp only [Option.toList_some, List.filter_append]
      by_cases hcc : fi m c ∈ kidsOf y k
      · rw [if_pos (idx_nn.2 hcc), if_pos (by omega), if_pos (by rw [List.length_map]; omega), w64_succ (by omega)]
        simp [hcc]
      · rw [if_neg (fun h => hcc (idx_nn.1 h)), w64_succ (by omega)]
        simp [hcc])
  have h2 : iter (moves_Moves_L1 y k x s36 s37 ks (ks.length : Int) m y1) ((0 : Int), ([] : List Int), ([] : List Int)) = _ := h1
  rw [h2, iter_jmp (n := 2) (s' := ((ks.length : Int), (ks.take ks.length).filter (fun c => decide (fi m c ∈ kidsOf y k)), ((ks.take ks.length).filter (fun c => decide (fi m c ∈ kidsOf y k))).map fun c => idx (kidsOf y k) (fi m c)))]
  · rw [List.take_length]; unfold KL; rw [hK]
  · simp only [moves_Moves_L1]
    rw [if_neg (by omega)]
theorem mv_L2 (hx : Tbl x) (hxl : x.length < 2 ^ 20) (hm : m.length < 2 ^ 60) {i k : Int} (s36 s37 : Int) (out : List Move) (ho : out.length < 2 ^ 41) :
    iter (moves_Moves_L2 y x s36 s37 (RO x y m i k) ((RO x y m i k).length : Int) m (KL x y m i k)) ((0 : Int), out) = some (.jmp 4 (((RO x y m i k).length : Int), out ++ omL x y m i k)) := by
  have hl := RO_len (y := y) (m := m) hx i k
  have hmem : ∀ v ∈ RO x y m i k, _ := fun v hv => RO_mem hv
  have hom : omL x y m i k = (RO x y m i k).map fun at_ => ⟨2, (KL x y m i k).getD at_.toNat 0, fi m ((KL x y m i k).getD at_.toNat 0)⟩ := rfl
  rw [hom]
  generalize RO x y m i k = r at hl hmem ⊢
  generalize KL x y m i k = K at hmem ⊢
  have h1 := iter_to (step := moves_Moves_L2 y x s36 s37 r (r.length : Int) m K) (fun n => ((n : Int), out ++ (r.take n).map fun at_ => (⟨2, K.getD at_.toNat 0, fi m (K.getD at_.toNat 0)⟩ : Move))) r.length (fun n hn => by
    obtain ⟨v, hv⟩ : ∃ v, r[n]? = some v := ⟨_, List.getElem?_eq_getElem hn⟩
    have hb := hmem v (List.mem_of_getElem? hv)
    have hrd : rd K v = some (K.getD v.toNat 0) := by
      rw [rd_lt hb.1 hb.2, List.getD_eq_getElem?_getD, List.getElem?_eq_getElem (by omega)]; rfl
    simp only [moves_Moves_L2, rd_nat, hv, Option.bind_some, hrd, c1_eq m _ hm]
    rw [if_pos (by omega), if_pos (by rw [List.length_append, List.length_map, List.length_take]; omega), w64_succ (by omega), List.take_add_one, hv]
    simp)
  simp only [List.take_zero, List.map_nil, List.append_nil] at h1
  rw [show ((0 : Nat) : Int) = 0 from rfl] at h1
  rw [h1, iter_jmp (n := 4) (s' := ((r.length : Int), out ++ (r.take r.length).map fun at_ => (⟨2, K.getD at_.toNat 0, fi m (K.getD at_.toNat 0)⟩ : Move)))]
  · rw [List.take_length]
  · simp only [moves_Moves_L2]
    rw [if_neg (by omega)]
theorem rowOut_len (hx : Tbl x) (i : Nat) : (rowOut x y m i).length ≤ x.length + 1 := by
  unfold rowOut
  cases fnd m (i : Int) with
  | none => simp
  | some k =>
    simp only [List.length_append]
    have h1 : (pmL x y m i k).length ≤ 1 := by unfold pmL; split <;> simp
    have h2 : (omL x y m i k).length ≤ x.length := by unfold omL; rw [List.length_map]; exact RO_len hx _ _
    omega
theorem outs_bound (hx : Tbl x) : ∀ n, ((List.range n).flatMap (rowOut x y m)).length ≤ n * (x.length + 1)
  | 0 => by simp
  | n + 1 => by
    have h1 := outs_bound hx n
    have h2 := rowOut_len (y := y) (m := m) hx n
    rw [List.range_succ, List.flatMap_append, List.length_append, Nat.succ_mul]
    simp only [List.flatMap_cons, List.flatMap_nil, List.append_nil]
    omega
theorem mv_L0 (hx : Tbl x) (hy : Tbl y) (hxl : x.length < 2 ^ 20) (hyl : y.length < 2 ^ 20) (hm : m.length < 2 ^ 60) (hmp : Mp x y m) :
    iter (moves_Moves_L0 y x (x.length : Int) m) ((0 : Int), ([] : List Move)) = some (.jmp 0 ((x.length : Int), (List.range x.length).flatMap (rowOut x y m))) := by
  have h1 := iter_to (step := moves_Moves_L0 y x (x.length : Int) m) (fun n => ((n : Int), (List.range n).flatMap (rowOut x y m))) x.length (fun i hi => by
    obtain ⟨r, hr⟩ : ∃ r, x[i]? = some r := ⟨_, List.getElem?_eq_getElem hi⟩
    have hrd : rd x (i : Int) = some r := by rw [rd_nat]; exact hr
    have hob := outs_bound (y := y) (m := m) hx i
    have hob2 : ((List.range i).flatMap (rowOut x y m)).length < 2 ^ 40 + 2 ^ 20 + 1 := by
      have : i * (x.length + 1) ≤ 2 ^ 20 * (2 ^ 20 + 1) := Nat.mul_le_mul (by omega) (by omega)
      omega
    rw [show (List.range (i + 1)).flatMap (rowOut x y m) = (List.range i).flatMap (rowOut x y m) ++ rowOut x y m i by rw [List.range_succ, List.flatMap_append]; simp]
    generalize (List.range i).flatMap (rowOut x y m) = out at hob2 ⊢
    simp only [moves_Moves_L0, hrd, Option.bind_some, c1_eq m (i : Int) hm]
    rw [if_pos (by omega)]
    unfold rowOut
    cases hf : fnd m (i : Int) with
    | none =>
      rw [fi_none hf, if_pos (by omega), w64_succ (by omega)]; simp
    | some k =>
      dsimp only
      have hmem := fnd_mem hf
      have hkb := hmp.new _ hmem
      simp only at hkb
      rw [fi_some hf, if_neg (by omega)]
      have hrk : rd y k = some (y[k.toNat]'(by omega)) := rd_lt hkb.1 hkb.2
      generalize y[k.toNat]'(by omega) = rk at hrk
      have ek : r.Kids = kidsOf x (i : Int) := (kidsOf_rd hrd).symm
      have hkl := kids_len hx (i : Int)
      have cont : ∀ (o : List Move), o.length < 2 ^ 41 → ((iter (moves_Moves_L1 y k x (x.length : Int) (i : Int) r.Kids (r.Kids.length : Int) m o) ((0 : Int), ([] : List Int), ([] : List Int))).bind fun z => match z with
          | .jmp _ (s74_125, y2_125, y3_125) =>
            (moves_Least y3_125).bind fun r126 =>
            (iter (moves_Moves_L2 y x (x.length : Int) (i : Int) r126 (r126.length : Int) m y2_125) ((0 : Int), o)).bind fun z => match z with
              | .jmp _ (s101_143, y1_143) => some (Out.next (w64 ((i : Int) + (1 : Int)), y1_143))
              | _ => none
          | _ => none) = (some (.next (((i + 1 : Nat) : Int), o ++ omL x y m i k)) : Option (Out (Int × List Move) (List Move × Int))) := by
        intro o ho
        rw [ek, mv_L1 hx hy hxl hyl hm hrk, Option.bind_some]
        simp only
        rw [moves_least_eq _ (by rw [List.length_map]; have := List.length_filter_le (fun c => decide (fi m c ∈ kidsOf y k)) (kidsOf x (i : Int)); unfold KL; omega), Option.bind_some, RO_places hy, mv_L2 hx hxl hm _ _ o ho, Option.bind_some]
        simp only
        rw [w64_succ (by omega)]
      by_cases hi0 : (0 : Int) < (i : Int)
      · rw [if_pos hi0]
        by_cases hk0 : (0 : Int) < k
        · rw [if_pos hk0, c1_eq m _ hm, Option.bind_some, hrk, Option.bind_some]
          have ep : r.Parent = par x (i : Int) := (par_rd hrd).symm
          have eq : rk.Parent = par y k := (par_rd hrk).symm
          rw [ep, eq]
          by_cases hp : fi m (par x (i : Int)) = par y k
          · rw [if_pos hp]
            have hpm : pmL x y m (i : Int) k = [] := by unfold pmL; rw [if_neg (fun h => h.2.2 hp)]
            rw [hpm, List.nil_append]
            exact cont out (by omega)
          · rw [if_neg hp, if_pos (by omega)]
            have hpm : pmL x y m (i : Int) k = [⟨1, i, k⟩] := by unfold pmL; rw [if_pos ⟨hi0, hk0, hp⟩]
            rw [hpm, ← List.append_assoc]
            exact cont _ (by simp only [List.length_append, List.length_cons, List.length_nil]; omega)
        · rw [if_neg hk0]
          have hpm : pmL x y m (i : Int) k = [] := by unfold pmL; rw [if_neg (fun h => hk0 h.2.1)]
          rw [hpm, List.nil_append]
          exact cont out (by omega)
      · rw [if_neg hi0]
        have hpm : pmL x y m (i : Int) k = [] := by unfold pmL; rw [if_neg (fun h => hi0 h.1)]
        rw [hpm, List.nil_append]
        exact cont out (by omega))
  have h2 : iter (moves_Moves_L0 y x (x.length : Int) m) ((0 : Int), ([] : List Move)) = _ := h1
  rw [h2, iter_jmp (n := 0) (s' := ((x.length : Int), (List.range x.length).flatMap (rowOut x y m)))]
  simp only [moves_Moves_L0]
  rw [if_neg (by omega)]
end
end Xn

set_option linter.unusedVariables false
namespace Xn
open Go Go.Ev
theorem fnd_cons {p : Pair} {m : List Pair} {i : Int} : fnd (p :: m) i = if p.Old = i then some p.New else fnd m i := by
  unfold fnd
  rw [List.findSome?_cons]
  by_cases h : p.Old = i
  · rw [if_pos h, if_pos h]
  · rw [if_neg h, if_neg h]
def byRow {T : Type} (m : List Pair) (G : Int → Int → List T) (i : Nat) : List T := match fnd m (i : Int) with | none => [] | some k => G i k
theorem rows_pairs {T : Type} (G : Int → Int → List T) : ∀ (d a : Nat) (m : List Pair), m.Pairwise (fun p q => p.Old < q.Old) → (∀ p ∈ m, (a : Int) ≤ p.Old ∧ p.Old < (a : Int) + d) →
    (List.range' a d).flatMap (byRow m G) = m.flatMap fun p => G p.Old p.New
  | 0, a, [], _, _ => rfl
  | 0, a, p :: m, _, h => by have := h p List.mem_cons_self; omega
  | d + 1, a, [], _, _ => by
    rw [List.range'_succ, List.flatMap_cons, rows_pairs G d (a + 1) [] .nil (fun p hp => by cases hp)]
    rfl
  | d + 1, a, p :: m, hs, h => by
    obtain ⟨h1, h2⟩ := List.pairwise_cons.1 hs
    have hp := h p List.mem_cons_self
    rw [List.range'_succ, List.flatMap_cons]
    by_cases hpa : p.Old = (a : Int)
    · have e1 : byRow (p :: m) G a = G p.Old p.New := by unfold byRow; rw [fnd_cons, if_pos hpa, ← hpa]
      have e2 : (List.range' (a + 1) d).flatMap (byRow (p :: m) G) = (List.range' (a + 1) d).flatMap (byRow m G) := by
        rw [List.flatMap_def, List.flatMap_def]
        congr 1
        apply List.map_congr_left
        intro i hi
        have := (List.mem_range'_1.1 hi).1
        unfold byRow
        rw [fnd_cons, if_neg (by omega)]
      rw [e1, e2, rows_pairs G d (a + 1) m h2 (fun q hq => by
        have := h1 q hq
        have := h q (List.mem_cons_of_mem _ hq)
        omega), List.flatMap_cons]
    · have e1 : byRow (p :: m) G a = [] := by
        unfold byRow
        have : fnd (p :: m) (a : Int) = none := by
          cases hf : fnd (p :: m) (a : Int) with
          | none => rfl
          | some k =>
            have := fnd_mem hf
            rcases List.mem_cons.1 this with e | e
            · exact absurd (by rw [← e]) hpa
            · have := h1 _ e; simp only at this; omega
        rw [this]
      rw [e1, List.nil_append]
      exact rows_pairs G d (a + 1) (p :: m) hs (fun q hq => by
        have := h q hq
        rcases List.mem_cons.1 hq with e | e
        · subst e; omega
        · have := h1 q e; omega)
def pairOut (x y : List Row) (m : List Pair) (p : Pair) : List Move := pmL x y m p.Old p.New ++ omL x y m p.Old p.New
theorem out_pairs {x y : List Row} {m : List Pair} (h : Mp x y m) : (List.range x.length).flatMap (rowOut x y m) = m.flatMap (pairOut x y m) := by
  have := rows_pairs (fun i k => pmL x y m i k ++ omL x y m i k) x.length 0 m h.asc (fun p hp => by have := h.old p hp; omega)
  rw [List.range_eq_range']
  exact this
section
variable {x y : List Row} {m : List Pair}
theorem pm_mem {i k : Int} {v : Move} : v ∈ pmL x y m i k ↔ (0 < i ∧ 0 < k ∧ fi m (par x i) ≠ par y k) ∧ v = ⟨1, i, k⟩ := by
  unfold pmL
  split
  · rename_i h; simp [h]
  · rename_i h; simp [h]
def Reo (x y : List Row) (m : List Pair) (i k c : Int) : Prop := c ∈ KL x y m i k ∧ ((KL x y m i k).idxOf c : Int) ∈ RO x y m i k
theorem om_mem (hx : Tbl x) {i k : Int} {v : Move} : v ∈ omL x y m i k ↔ ∃ c, Reo x y m i k c ∧ v = ⟨2, c, fi m c⟩ := by
  unfold omL Reo
  have hnd : (KL x y m i k).Nodup := (KL_asc hx i k).imp (fun h => by omega)
  constructor
  · intro hv
    obtain ⟨a, ha, rfl⟩ := List.mem_map.1 hv
    have hb := RO_mem ha
    have hlt : a.toNat < (KL x y m i k).length := by omega
    have hg : (KL x y m i k).getD a.toNat 0 = (KL x y m i k)[a.toNat] := by rw [List.getD_eq_getElem?_getD, List.getElem?_eq_getElem hlt]; rfl
    refine ⟨_, ⟨?_, ?_⟩, rfl⟩
    · rw [hg]; exact List.getElem_mem _
    · rw [hg, hnd.idxOf_getElem _ hlt]
      rw [show ((a.toNat : Nat) : Int) = a by omega]; exact ha
  · rintro ⟨c, ⟨h1, h2⟩, rfl⟩
    refine List.mem_map.2 ⟨_, h2, ?_⟩
    have hlt := List.idxOf_lt_length_of_mem h1
    have hg : (KL x y m i k).getD ((KL x y m i k).idxOf c) 0 = c := by rw [List.getD_eq_getElem?_getD, List.getElem?_eq_getElem hlt, List.getElem_idxOf hlt]; rfl
    simp only [Int.toNat_natCast, hg]
def kd (x y : List Row) (m : List Pair) (p : Pair) : Int :=
  if p.Old = 0 then 0 else
  match fnd m (par x p.Old) with
  | none => 1
  | some q => if q = par y p.New then (if ((KL x y m (par x p.Old) q).idxOf p.Old : Int) ∈ RO x y m (par x p.Old) q then 2 else 0) else 1
def refOut (x y : List Row) (m : List Pair) : List Move := m.filterMap fun p => if kd x y m p = 0 then none else some ⟨kd x y m p, p.Old, p.New⟩
theorem reo_facts (hx : Tbl x) (hy : Tbl y) (h : Mp x y m) {p : Pair} (hp : p ∈ m) {c : Int} (hc : c ∈ KL x y m p.Old p.New) :
    ⟨c, fi m c⟩ ∈ m ∧ fnd m c = some (fi m c) ∧ par x c = p.Old ∧ par y (fi m c) = p.New ∧ p.Old < c ∧ 0 < fi m c := by
  obtain ⟨h1, h2⟩ := KL_mem.1 hc
  have hk := kids_lt hy h2
  have hi := kids_lt hx h1
  obtain ⟨h3, h4⟩ := fi_nn h (i := c) (by omega)
  refine ⟨h4, h3, ((kids_iff hx (h.old p hp)).1 h1).2.2, ((kids_iff hy (h.new p hp)).1 h2).2.2, by omega, by omega⟩
theorem out_ref (hx : Tbl x) (hy : Tbl y) (h : Mp x y m) (v : Move) : v ∈ m.flatMap (pairOut x y m) ↔ v ∈ refOut x y m := by
  unfold refOut
  rw [List.mem_flatMap, List.mem_filterMap]
  constructor
  · rintro ⟨p, hp, hv⟩
    unfold pairOut at hv
    rcases List.mem_append.1 hv with hv | hv
    · obtain ⟨⟨h1, h2, h3⟩, rfl⟩ := pm_mem.1 hv
      have hk : kd x y m p = 1 := by
        unfold kd
        rw [if_neg (by omega)]
        cases hf : fnd m (par x p.Old) with
        | none => rfl
        | some q =>
          simp only
          rw [if_neg]
          rw [fi_some hf] at h3
          exact h3
      exact ⟨p, hp, by rw [hk, if_neg (by omega)]⟩
    · obtain ⟨c, ⟨h1, h2⟩, rfl⟩ := (om_mem hx).1 hv
      obtain ⟨g1, g2, g3, g4, g5, g6⟩ := reo_facts hx hy h hp h1
      have hpo := h.old p hp
      have hk : kd x y m ⟨c, fi m c⟩ = 2 := by
        unfold kd
        rw [if_neg (by simp only; omega)]
        simp only [g3, (fnd_iff h.asc).2 hp, g4]
        rw [if_pos trivial, if_pos h2]
      exact ⟨⟨c, fi m c⟩, g1, by rw [hk, if_neg (by omega)]⟩
  · rintro ⟨p, hp, hv⟩
    have hpo := h.old p hp
    have hpn := h.new p hp
    have hz := h.zero p hp
    by_cases hk0 : kd x y m p = 0
    · rw [if_pos hk0] at hv; cases hv
    · rw [if_neg hk0] at hv
      obtain rfl := Option.some.inj hv
      have h0 : p.Old ≠ 0 := fun e => hk0 (by unfold kd; rw [if_pos e])
      have hn0 : p.New ≠ 0 := fun e => h0 (hz.2 e)
      unfold kd at hk0 ⊢
      rw [if_neg h0] at hk0 ⊢
      cases hf : fnd m (par x p.Old) with
      | none =>
        rw [hf] at hk0
        simp only at hk0 ⊢
        refine ⟨p, hp, List.mem_append_left _ (pm_mem.2 ⟨⟨by omega, by omega, ?_⟩, rfl⟩)⟩
        rw [fi_none hf]
        have := (par_pos hy (i := p.New) (by omega) hpn.2).1
        omega
      | some q =>
        rw [hf] at hk0
        simp only at hk0 ⊢
        by_cases hq : q = par y p.New
        · rw [if_pos hq] at hk0 ⊢
          by_cases hr : ((KL x y m (par x p.Old) q).idxOf p.Old : Int) ∈ RO x y m (par x p.Old) q
          · rw [if_pos hr]
            have hmem := fnd_mem hf
            refine ⟨⟨par x p.Old, q⟩, hmem, List.mem_append_right _ ((om_mem hx).2 ⟨p.Old, ⟨KL_mem.2 ⟨?_, ?_⟩, hr⟩, ?_⟩)⟩
            · exact (kids_iff hx (h.old _ hmem)).2 ⟨hpo.1, hpo.2, rfl⟩
            · rw [fi_some ((fnd_iff h.asc).2 hp)]
              exact (kids_iff hy (h.new _ hmem)).2 ⟨hpn.1, hpn.2, hq.symm⟩
            · rw [fi_some ((fnd_iff h.asc).2 hp)]
          · rw [if_neg hr] at hk0; exact absurd rfl hk0
        · rw [if_neg hq] at hk0 ⊢
          refine ⟨p, hp, List.mem_append_left _ (pm_mem.2 ⟨⟨by omega, by omega, ?_⟩, rfl⟩)⟩
          rw [fi_some hf]; exact hq
theorem refOut_asc (h : Mp x y m) : (refOut x y m).Pairwise (fun a b => a.Old < b.Old) := by
  unfold refOut
  rw [List.pairwise_filterMap]
  refine h.asc.imp ?_
  intro p q hpq a ha b hb
  split at ha
  · cases ha
  · split at hb
    · cases hb
    · cases ha; cases hb; exact hpq
theorem out_old (hx : Tbl x) (hy : Tbl y) (h : Mp x y m) : ((m.flatMap (pairOut x y m)).map Move.Old).Nodup := by
  unfold List.Nodup
  rw [List.pairwise_map, List.pairwise_flatMap]
  constructor
  · intro p hp
    unfold pairOut
    refine List.pairwise_append.2 ⟨?_, ?_, ?_⟩
    · unfold pmL; split <;> simp
    · unfold omL
      rw [List.pairwise_map]
      have hnd : (KL x y m p.Old p.New).Pairwise (· < ·) := KL_asc hx _ _
      have hs : (RO x y m p.Old p.New).Pairwise (· < ·) := leastOf_sorted _
      refine (hs.imp_of_mem (S := fun a b => (KL x y m p.Old p.New).getD a.toNat 0 ≠ (KL x y m p.Old p.New).getD b.toNat 0) ?_)
      intro a b ha hb hab
      have h1 := RO_mem ha
      have h2 := RO_mem hb
      rw [List.getD_eq_getElem?_getD, List.getD_eq_getElem?_getD, List.getElem?_eq_getElem (by omega), List.getElem?_eq_getElem (by omega)]
      have := List.pairwise_iff_getElem.1 hnd a.toNat b.toNat (by omega) (by omega) (by omega)
      simp only [Option.getD_some]
      omega
    · intro a ha b hb
      obtain ⟨_, rfl⟩ := pm_mem.1 ha
      obtain ⟨c, ⟨h1, _⟩, rfl⟩ := (om_mem hx).1 hb
      have := (reo_facts hx hy h hp h1).2.2.2.2.1
      simp only
      omega
  · refine h.asc.imp_of_mem ?_
    intro p q hp hq hpq a ha b hb
    unfold pairOut at ha hb
    rcases List.mem_append.1 ha with ha | ha
    · obtain ⟨_, rfl⟩ := pm_mem.1 ha
      rcases List.mem_append.1 hb with hb | hb
      · obtain ⟨_, rfl⟩ := pm_mem.1 hb
        simp only; omega
      · obtain ⟨c, ⟨h1, _⟩, rfl⟩ := (om_mem hx).1 hb
        have := (reo_facts hx hy h hq h1).2.2.2.2.1
        simp only; omega
    · obtain ⟨c, ⟨h1, _⟩, rfl⟩ := (om_mem hx).1 ha
      obtain ⟨g1, g2, g3, g4, g5, g6⟩ := reo_facts hx hy h hp h1
      rcases List.mem_append.1 hb with hb | hb
      · obtain ⟨⟨_, _, k3⟩, rfl⟩ := pm_mem.1 hb
        simp only
        intro e
        have e2 : fi m q.Old = q.New := fi_some ((fnd_iff h.asc).2 hq)
        apply k3
        rw [← e, g3, fi_some ((fnd_iff h.asc).2 hp), ← e2, ← e, g4]
      · obtain ⟨d, ⟨h2, _⟩, rfl⟩ := (om_mem hx).1 hb
        have k := (reo_facts hx hy h hq h2).2.2.1
        simp only
        intro e
        rw [e, k] at g3
        omega
end
theorem sort_all {T : Type} {p : T → T → Option Int} {key : T → Int} {l : List T} (hk : Keyed p key l) (hn : (l.map key).Nodup) (hl : l.length < 65536) :
    ∃ t, slices_SortFunc p l = some t ∧ t.Perm l ∧ t.Pairwise (fun x y => key x < key y) := by
  have hlen : ∃ k : Int, math_bits_Len (IntKind.wrap .u64 (l.length : Int)) = some k := by
    rw [wrap_u64_id (by omega) (by omega)]
    exact len_some l.length hl
  obtain ⟨k, hk'⟩ := hlen
  obtain ⟨t, h1, h2, h3⟩ := pdqS_all hk hn hl k
  refine ⟨t, ?_, h2, h3⟩
  unfold slices_SortFunc
  rw [hk', Option.bind_some, h1, Option.bind_some, if_pos h2.length_eq]
end Xn

set_option linter.unusedVariables false
namespace Xn
open Go Go.Ev
section
variable {x y : List Row} {m : List Pair}
theorem c2_keyed {l : List Move} (h : ∀ v ∈ l, 0 ≤ v.Old ∧ v.Old < 2 ^ 40) : Keyed moves_Moves_c2 Move.Old l := by
  intro a ha b hb
  have h1 := h a ha
  have h2 := h b hb
  refine ⟨w64 (a.Old - b.Old), rfl, ?_⟩
  rw [w64_id (by omega) (by omega)]
  omega
theorem refOut_mem (h : Mp x y m) {v : Move} (hv : v ∈ refOut x y m) : 0 ≤ v.Old ∧ v.Old < x.length := by
  unfold refOut at hv
  obtain ⟨p, hp, e⟩ := List.mem_filterMap.1 hv
  split at e
  · cases e
  · cases e; exact h.old p hp
theorem small_bound {n : Nat} (h : n ≤ 200) : n * (n + 1) < 65536 := by
  have : n * (n + 1) ≤ 200 * (200 + 1) := Nat.mul_le_mul h (by omega)
  omega
theorem sort_moves (hx : Tbl x) (hy : Tbl y) (h : Mp x y m) (hl : x.length ≤ 200) : slices_SortFunc moves_Moves_c2 ((List.range x.length).flatMap (rowOut x y m)) = some (refOut x y m) := by
  have hb := outs_bound (y := y) (m := m) hx x.length
  have hsb := small_bound hl
  rw [out_pairs h] at hb ⊢
  have hmem := out_ref hx hy h
  obtain ⟨t, h1, h2, h3⟩ := sort_all (p := moves_Moves_c2) (key := Move.Old) (l := m.flatMap (pairOut x y m)) (c2_keyed fun v hv => by
    have := refOut_mem h ((hmem v).1 hv)
    omega) (out_old hx hy h) (by omega)
  rw [h1]
  congr 1
  exact sorted_ext h3 (refOut_asc h) fun v => by rw [h2.mem_iff]; exact hmem v
end
open Classical in
theorem moves_eq {a b : Node} {m : List Pair} (ha : size a ≤ 200) (hb : size b ≤ 200) (hga : gapsB a = true) (hgb : gapsB b = true) (hm : m.length < 2 ^ 60) :
    moves_Moves a b m = some (if MapOk a b m then (refOut (tabOf a) (tabOf b) m, 0) else ([], 15)) := by
  unfold moves_Moves
  rw [match_check_eq (by omega) (by omega) hga hgb hm, Option.bind_some]
  by_cases h : MapOk a b m
  · rw [if_pos h, if_pos rfl, if_pos h, tree_rows_eq (by omega) hga, Option.bind_some, tree_rows_eq (by omega) hgb, Option.bind_some]
    have hx := tabOf_tbl a
    have hy := tabOf_tbl b
    have hxl := tabOf_len a
    have hyl := tabOf_len b
    have hmp := mp_of h.1
    rw [mv_L0 hx hy (by omega) (by omega) hm hmp, Option.bind_some]
    simp only
    have hs := sort_moves hx hy hmp (by omega)
    have hlen : (refOut (tabOf a) (tabOf b) m).length = ((List.range (tabOf a).length).flatMap (rowOut (tabOf a) (tabOf b) m)).length := by
      unfold slices_SortFunc at hs
      simp only [Option.bind_eq_some_iff] at hs
      obtain ⟨_, _, t, _, h3⟩ := hs
      split at h3
      · rename_i e; rw [← Option.some.inj h3, e]
      · cases h3
    rw [hs, Option.bind_some, if_pos hlen]
  · rw [if_neg h, if_neg (by omega), if_neg h]
open Classical in
def stabs (x y : List Row) (m : List Pair) : List Pair := m.filter fun p => decide (kd x y m p = 0)
open Classical in
theorem contains_eq {T : Type} (f : T → Bool) (l : List T) (h : l.length < 2 ^ 60) : slices_ContainsFunc (fun v => some (f v)) l = some (l.any f) := by
  unfold slices_ContainsFunc slices_IndexFunc
  have := iter_first (step := slices_IndexFunc_L0 (fun v => some (f v)) l (l.length : Int)) (fun i => (i : Int)) (fun j (v : T) => if f v = true then some ((j : Nat) : Int) else none) 0 (l.length : Int) l 0 (fun j v hj => by
    have hjl := (List.getElem?_eq_some_iff.1 hj).1
    simp only [slices_IndexFunc_L0, Nat.zero_add, rd_nat, hj, Option.bind_some]
    rw [if_pos (by omega)]
    by_cases hc : f v = true
    · rw [if_pos hc, if_pos hc]
    · rw [if_neg hc, if_neg hc, w64_succ (by omega)]) (by
    simp only [slices_IndexFunc_L0, Nat.zero_add]
    rw [if_neg (by omega)])
  rw [show ((0 : Nat) : Int) = 0 from rfl] at this
  rw [this]
  cases hf : firstI (fun j (v : T) => if f v = true then some ((j : Nat) : Int) else none) l 0 with
  | none =>
    simp only [Option.bind_some]
    have hall := firstI_none.1 hf
    have : l.any f = false := by
      rw [List.any_eq_false]
      intro v hv
      obtain ⟨j, hj⟩ := List.getElem?_of_mem hv
      have := hall j v hj
      split at this
      · cases this
      · assumption
    rw [this]; rfl
  | some r =>
    simp only [Option.bind_some]
    obtain ⟨j, v, hj, hv, _⟩ := firstI_some hf
    split at hv
    · rename_i hfv
      cases hv
      have : l.any f = true := List.any_eq_true.2 ⟨v, List.mem_of_getElem? hj, hfv⟩
      rw [this, decide_eq_true (by omega)]
    · cases hv
open Classical in
theorem stable_eq {a b : Node} {m : List Pair} (ha : size a ≤ 200) (hb : size b ≤ 200) (hga : gapsB a = true) (hgb : gapsB b = true) (hm : m.length < 2 ^ 40) :
    moves_Stable a b m = some (if MapOk a b m then (stabs (tabOf a) (tabOf b) m, 0) else ([], 15)) := by
  unfold moves_Stable
  rw [moves_eq ha hb hga hgb (by omega), Option.bind_some]
  by_cases h : MapOk a b m
  · rw [if_pos h, if_pos h]
    simp only [if_true]
    have hx := tabOf_tbl a
    have hy := tabOf_tbl b
    have hxl := tabOf_len a
    have hyl := tabOf_len b
    have hmp := mp_of h.1
    generalize tabOf a = x at *
    generalize tabOf b = y at *
    have hrl : (refOut x y m).length ≤ m.length := List.length_filterMap_le _ _
    have hany : ∀ p ∈ m, ((refOut x y m).any fun v => decide (v.Old = p.Old)) = decide (¬ kd x y m p = 0) := by
      intro p hp
      by_cases hk : kd x y m p = 0
      · rw [decide_eq_false (fun h => h hk), List.any_eq_false]
        intro v hv
        unfold refOut at hv
        obtain ⟨q, hq, e⟩ := List.mem_filterMap.1 hv
        split at e
        · cases e
        · rename_i hqk
          cases e
          simp only [decide_eq_true_eq]
          intro e2
          have := asc_unique hmp.asc hq hp e2
          subst this; exact hqk hk
      · rw [decide_eq_true hk, List.any_eq_true]
        exact ⟨⟨kd x y m p, p.Old, p.New⟩, List.mem_filterMap.2 ⟨p, hp, by rw [if_neg hk]⟩, by simp⟩
    have h1 := iter_to (step := moves_Stable_L0 (refOut x y m) m (m.length : Int)) (fun n => ((n : Int), (m.take n).filter fun p => decide (kd x y m p = 0))) m.length (fun n hn => by
      obtain ⟨p, hp⟩ : ∃ p, m[n]? = some p := ⟨_, List.getElem?_eq_getElem hn⟩
      have hlen : ((m.take n).filter fun p => decide (kd x y m p = 0)).length ≤ n := by
        refine Nat.le_trans (List.length_filter_le _ _) ?_
        rw [List.length_take]; omega
      have hc := contains_eq (fun v : Move => decide (v.Old = p.Old)) (refOut x y m) (by omega)
      rw [hany p (List.mem_of_getElem? hp)] at hc
      simp only [moves_Stable_L0, rd_nat, hp, Option.bind_some, moves_Stable_c1, hc]
      rw [if_pos (by omega), List.take_add_one, hp]
      simp only [Option.toList_some, List.filter_append]
      by_cases hk : kd x y m p = 0
      · rw [if_neg (by simp [hk]), if_pos (by omega), w64_succ (by omega)]; simp [hk]
      · rw [if_pos (by simp [hk]), w64_succ (by omega)]; simp [hk])
    have h2 : iter (moves_Stable_L0 (refOut x y m) m (m.length : Int)) ((0 : Int), ([] : List Pair)) = _ := h1
    rw [h2, iter_jmp (n := 0) (s' := ((m.length : Int), stabs x y m))]
    · rfl
    · simp only [moves_Stable_L0]
      rw [if_neg (by omega), List.take_length]; rfl
  · rw [if_neg h, if_neg h]
    simp only
    rw [if_neg (by omega)]
theorem pairs_same (l : List Pair) (h : l.length < 2 ^ 60) : R19_Pairs l l = some true := by
  unfold R19_Pairs
  rw [if_pos rfl]
  have h1 := iter_to (step := R19_Pairs_L0 l l) (fun i => (i : Int)) l.length (fun i hi => by
    simp only [R19_Pairs_L0, rd_nat, List.getElem?_eq_getElem hi, Option.bind_some]
    rw [if_pos (by omega), if_pos (by simp), w64_succ (by omega)])
  rw [show ((0 : Nat) : Int) = 0 from rfl] at h1
  rw [h1, iter_jmp (n := 0) (s' := (l.length : Int))]
  · rfl
  · simp only [R19_Pairs_L0]
    rw [if_neg (by omega)]
theorem small_eq (n : Node) : law27_small n = some (decide ((size n : Int) ≤ 60 ∧ (height n : Int) ≤ 30)) := by
  unfold law27_small
  rw [fits_eq n 60 30 (by omega)]
  rfl
end Xn

set_option linter.unusedVariables false
namespace Xn
open Go Go.Ev
def idm (n : Nat) : List Pair := (List.range n).map fun (i : Nat) => ⟨(i : Int), (i : Int)⟩
theorem idm_get {n i : Nat} (h : i < n) : (idm n)[i]? = some ⟨(i : Int), (i : Int)⟩ := by
  unfold idm
  rw [List.getElem?_map, List.getElem?_range h]; rfl
theorem idm_len (n : Nat) : (idm n).length = n := by unfold idm; simp
theorem idm_mem {n : Nat} {p : Pair} : p ∈ idm n ↔ 0 ≤ p.Old ∧ p.Old < n ∧ p.New = p.Old := by
  unfold idm
  rw [List.mem_map]
  constructor
  · rintro ⟨i, hi, rfl⟩
    have := List.mem_range.1 hi
    exact ⟨by simp only; omega, by simp only; omega, rfl⟩
  · rintro ⟨h1, h2, h3⟩
    refine ⟨p.Old.toNat, List.mem_range.2 (by omega), ?_⟩
    cases p; simp only at h1 h2 h3 ⊢; subst h3
    rw [show ((Int.toNat _ : Nat) : Int) = _ from Int.toNat_of_nonneg h1]
theorem idm_ok (a : Node) : MapOk a a (idm (size a)) := by
  have hl := tabOf_len a
  have hp := size_pos a
  refine ⟨fun i hi => ?_, fun _ => ⟨_, idm_get (by omega), rfl⟩⟩
  rw [idm_len] at hi
  obtain ⟨u, hu⟩ : ∃ u, (tabOf a)[i]? = some u := ⟨_, List.getElem?_eq_getElem (by omega)⟩
  refine ⟨_, u, u, idm_get hi, by simp only; omega, by simpa using hu, by simp only; omega, by simpa using hu, fun j hj q hq => ?_, rfl, Iff.rfl⟩
  rw [idm_get (by omega)] at hq
  cases hq
  simp only
  omega
theorem idm_kd (a : Node) {p : Pair} (hp : p ∈ idm (size a)) : kd (tabOf a) (tabOf a) (idm (size a)) p = 0 := by
  have hx := tabOf_tbl a
  have hl := tabOf_len a
  have hmp := mp_of (idm_ok a).1
  obtain ⟨h1, h2, h3⟩ := idm_mem.1 hp
  unfold kd
  by_cases h0 : p.Old = 0
  · rw [if_pos h0]
  · rw [if_neg h0]
    have hpar := par_pos hx (i := p.Old) (by omega) (by omega)
    have hf : fnd (idm (size a)) (par (tabOf a) p.Old) = some (par (tabOf a) p.Old) := (fnd_iff hmp.asc).2 (idm_mem.2 ⟨hpar.1, by simp only; omega, rfl⟩)
    rw [hf]
    simp only [h3, if_true]
    have hro : RO (tabOf a) (tabOf a) (idm (size a)) (par (tabOf a) p.Old) (par (tabOf a) p.Old) = [] := by
      unfold RO
      apply leastOf_asc
      rw [List.pairwise_map]
      refine (KL_asc hx _ _).imp_of_mem ?_
      intro c d hc hd hcd
      have hc' := kids_lt hx (KL_mem.1 hc).1
      have hd' := kids_lt hx (KL_mem.1 hd).1
      rw [fi_some ((fnd_iff hmp.asc).2 (idm_mem.2 ⟨(show (0 : Int) ≤ c by omega), (show c < (size a : Int) by omega), rfl⟩)), fi_some ((fnd_iff hmp.asc).2 (idm_mem.2 ⟨(show (0 : Int) ≤ d by omega), (show d < (size a : Int) by omega), rfl⟩))]
      exact hcd
    rw [hro, if_neg (by simp)]
theorem plain_none (a : Node) (wa : Wf_Node a) : law27_MovesNone a = some true := by
  unfold law27_MovesNone law27_awake
  rw [small_eq a, Option.bind_some]
  by_cases h1 : (size a : Int) ≤ 60 ∧ (height a : Int) ≤ 30
  case neg => rw [if_neg (by simpa using h1)]; rfl
  rw [if_pos (decide_eq_true h1)]
  have hnode : Node.mk a.Kind a.Text a.Gaps a.Kids = a := by cases a; rfl
  have hsize : R06_SizeS a = some (size a : Int) := by unfold R06_SizeS; rw [if_pos (by omega)]
  have hl := iter_to (step := law27_MovesNone_L0 a.Kind a.Text a.Gaps a.Kids) (fun i => ((i : Int), idm i)) (size a) (fun i hi => by
    have := idm_len i
    simp only [law27_MovesNone_L0, hnode, hsize, Option.bind_some]
    rw [if_pos (by omega), if_pos (by omega), w64_succ (by omega)]
    unfold idm
    rw [List.range_succ, List.map_append]; rfl)
  have h2 : iter (law27_MovesNone_L0 a.Kind a.Text a.Gaps a.Kids) ((0 : Int), ([] : List Pair)) = _ := hl
  rw [h2, iter_jmp (n := 0) (s' := ((size a : Int), idm (size a)))]
  · rw [Option.bind_some]
    simp only
    have hil := idm_len (size a)
    rw [moves_eq (by omega) (by omega) (wf_gaps a wa) (wf_gaps a wa) (by omega), Option.bind_some, stable_eq (by omega) (by omega) (wf_gaps a wa) (wf_gaps a wa) (by omega), Option.bind_some]
    simp only [if_pos (idm_ok a), if_true]
    have hr : refOut (tabOf a) (tabOf a) (idm (size a)) = [] := by
      unfold refOut
      rw [List.filterMap_eq_nil_iff]
      intro p hp
      rw [idm_kd a hp, if_pos rfl]
    have hs : stabs (tabOf a) (tabOf a) (idm (size a)) = idm (size a) := by
      unfold stabs
      rw [List.filter_eq_self]
      intro p hp
      rw [idm_kd a hp]; rfl
    rw [hr, hs, if_pos (show ((([] : List Move).length : Nat) : Int) = 0 from rfl), pairs_same _ (by omega)]
    rfl
  · simp only [law27_MovesNone_L0, hnode, hsize, Option.bind_some]
    rw [if_neg (by omega)]
end Xn

