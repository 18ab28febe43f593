/- A part of the proof: Pl. No conditions of its own. -/
import Derived.Test.YtendihpeaajpmaaGreatDoorT
import Derived.Test.YtendihpeaajpmaaGreatDoorE5
set_option linter.unusedVariables false
namespace Xr
open Go Go.Ev
structure Forest (F : List Row) (pos : Nat) (par : Int) (R : List Int) : Prop where
 roots : R.Pairwise (· < ·)
 inside : ∀ j ∈ R, (pos : Int) ≤ j ∧ j < (pos : Int) + F.length
 up : ∀ (i : Nat) (row : Row), F[i]? = some row → (((pos + i : Nat) : Int) ∈ R ∧ row.Parent = par) ∨ (((pos + i : Nat) : Int) ∉ R ∧ ∃ k, k < i ∧ row.Parent = ((pos + k : Nat) : Int))
 asc : ∀ (i : Nat) (row : Row), F[i]? = some row → row.Kids.Pairwise (· < ·)
 kids : ∀ (i : Nat) (row : Row), F[i]? = some row → ∀ j : Int, j ∈ row.Kids ↔ ∃ (k : Nat) (rowk : Row), F[k]? = some rowk ∧ j = ((pos + k : Nat) : Int) ∧ rowk.Parent = ((pos + i : Nat) : Int)
theorem Forest.nil (pos : Nat) (par : Int) : Forest [] pos par [] where
 roots := .nil
 inside := fun j h => by cases h
 up := fun i row h => by simp at h
 asc := fun i row h => by simp at h
 kids := fun i row h => by simp at h
theorem Forest.append {F G : List Row} {pos : Nat} {par : Int} {R S : List Int} (hf : Forest F pos par R) (hg : Forest G (pos + F.length) par S) (hp : par < pos) : Forest (F ++ G) pos par (R ++ S) where
 roots := by
  refine List.pairwise_append.2 ⟨hf.roots, hg.roots, fun a ha b hb => ?_⟩
  have := hf.inside a ha
  have := hg.inside b hb
  omega
 inside := fun j h => by
  rw [List.length_append]
  rcases List.mem_append.1 h with h | h
  ·have := hf.inside j h; omega
  ·have := hg.inside j h; omega
 up := fun i row h => by
  by_cases hi : i < F.length
  ·rw [List.getElem?_append_left hi] at h
   rcases hf.up i row h with ⟨h1, h2⟩ | ⟨h1, h2⟩
   ·exact .inl ⟨List.mem_append_left _ h1, h2⟩
   ·refine .inr ⟨fun hm => ?_, h2⟩
    rcases List.mem_append.1 hm with hm | hm
    ·exact h1 hm
    ·have := hg.inside _ hm; omega
  ·rw [List.getElem?_append_right (by omega)] at h
   have e : pos + F.length + (i - F.length) = pos + i := by omega
   rcases hg.up _ row h with ⟨h1, h2⟩ | ⟨h1, k, hk, h2⟩
   ·rw [e] at h1
    exact .inl ⟨List.mem_append_right _ h1, h2⟩
   ·rw [e] at h1
    refine .inr ⟨fun hm => ?_, F.length + k, by omega, by rw [h2]; congr 1; omega⟩
    rcases List.mem_append.1 hm with hm | hm
    ·have := hf.inside _ hm; omega
    ·exact h1 hm
 asc := fun i row h => by
  by_cases hi : i < F.length
  ·rw [List.getElem?_append_left hi] at h; exact hf.asc i row h
  ·rw [List.getElem?_append_right (by omega)] at h; exact hg.asc _ row h
 kids := fun i row h j => by
  by_cases hi : i < F.length
  ·rw [List.getElem?_append_left hi] at h
   rw [hf.kids i row h]
   constructor
   ·rintro ⟨k, rk, h1, h2, h3⟩
    exact ⟨k, rk, by rw [List.getElem?_append_left (List.getElem?_eq_some_iff.1 h1).1]; exact h1, h2, h3⟩
   ·rintro ⟨k, rk, h1, h2, h3⟩
    by_cases hk : k < F.length
    ·rw [List.getElem?_append_left hk] at h1; exact ⟨k, rk, h1, h2, h3⟩
    ·rw [List.getElem?_append_right (by omega)] at h1
     rcases hg.up _ rk h1 with ⟨_, h4⟩ | ⟨_, q, _, h4⟩
     ·omega
     ·omega
  ·rw [List.getElem?_append_right (by omega)] at h
   have e : pos + F.length + (i - F.length) = pos + i := by omega
   rw [hg.kids _ row h, e]
   constructor
   ·rintro ⟨k, rk, h1, h2, h3⟩
    exact ⟨F.length + k, rk, by rw [List.getElem?_append_right (by omega), Nat.add_sub_cancel_left]; exact h1, by rw [h2]; congr 1; omega, h3⟩
   ·rintro ⟨k, rk, h1, h2, h3⟩
    by_cases hk : k < F.length
    ·rw [List.getElem?_append_left hk] at h1
     rcases hf.up _ rk h1 with ⟨_, h4⟩ | ⟨_, q, _, h4⟩
     ·omega
     ·omega
    ·rw [List.getElem?_append_right (by omega)] at h1
     exact ⟨k - F.length, rk, h1, by rw [h2]; congr 1; omega, h3⟩
theorem Forest.root {F : List Row} {pos : Nat} {par : Int} {row : Row} (hf : Forest F (pos + 1) pos row.Kids) (hp : row.Parent = par) (hpar : par < pos) : Forest (row :: F) pos par [(pos : Int)] where
 roots := List.pairwise_singleton _ _
 inside := fun j h => by
  obtain rfl : j = pos := by simpa using h
  simp only [List.length_cons]; omega
 up := fun i r h => by
  cases i with
  | zero =>
   obtain rfl : row = r := by simpa using h
   exact .inl ⟨by simp, hp⟩
  | succ i =>
   have h' : F[i]? = some r := by simpa using h
   refine .inr ⟨fun hm => ?_, ?_⟩
   ·have : ((pos + (i + 1) : Nat) : Int) = (pos : Int) := by simpa using hm
    omega
   ·rcases hf.up i r h' with ⟨h1, h2⟩ | ⟨h1, k, hk, h2⟩
    ·exact ⟨0, by omega, by rw [h2]; rfl⟩
    ·exact ⟨k + 1, by omega, by rw [h2]; congr 1; omega⟩
 asc := fun i r h => by
  cases i with
  | zero =>
   obtain rfl : row = r := by simpa using h
   exact hf.roots
  | succ i => exact hf.asc i r (by simpa using h)
 kids := fun i r h j => by
  cases i with
  | zero =>
   obtain rfl : row = r := by simpa using h
   constructor
   ·intro hj
    have h1 := hf.inside j hj
    obtain ⟨k, hk⟩ : ∃ k : Nat, j = ((pos + 1 + k : Nat) : Int) := ⟨(j - (pos + 1 : Nat)).toNat, by omega⟩
    have hkl : k < F.length := by omega
    refine ⟨k + 1, F[k], by simp, by rw [hk]; congr 1; omega, ?_⟩
    rcases hf.up k F[k] (List.getElem?_eq_getElem hkl) with ⟨_, h3⟩ | ⟨h3, _⟩
    ·rw [h3]; rfl
    ·rw [← hk] at h3; exact absurd hj h3
   ·rintro ⟨k, rk, h1, h2, h3⟩
    cases k with
    | zero =>
     obtain rfl : row = rk := by simpa using h1
     rw [hp] at h3; simp only [Nat.add_zero] at h3; omega
    | succ k =>
     rcases hf.up k rk (by simpa using h1) with ⟨h4, _⟩ | ⟨_, q, _, h4⟩
     ·rw [h2]; rw [show pos + (k + 1) = pos + 1 + k by omega]; exact h4
     ·simp only [Nat.add_zero] at h3; omega
  | succ i =>
   have h' : F[i]? = some r := by simpa using h
   rw [hf.kids i r h']
   have e : pos + 1 + i = pos + (i + 1) := by omega
   rw [e]
   constructor
   ·rintro ⟨k, rk, h1, h2, h3⟩
    exact ⟨k + 1, rk, by simpa using h1, by rw [h2]; congr 1; omega, h3⟩
   ·rintro ⟨k, rk, h1, h2, h3⟩
    cases k with
    | zero =>
     obtain rfl : row = rk := by simpa using h1
     rw [hp] at h3; omega
    | succ k => exact ⟨k, rk, by simpa using h1, by rw [h2]; congr 1; omega, h3⟩
def tabOf (n : Node) : List Row := tab n 0 (-1)
theorem tabOf_len (n : Node) : (tabOf n).length = size n := tab_len n 0 (-1)
structure Tbl (x : List Row) : Prop where
 pos : 0 < x.length
 root : ∀ r, x[0]? = some r → r.Parent = -1
 up : ∀ (i : Nat) r, x[i]? = some r → 0 < i → ∃ k : Nat, k < i ∧ r.Parent = (k : Int)
 asc : ∀ (i : Nat) r, x[i]? = some r → r.Kids.Pairwise (· < ·)
 kids : ∀ (i : Nat) r, x[i]? = some r → ∀ j : Int, j ∈ r.Kids ↔ ∃ (k : Nat) (rk : Row), x[k]? = some rk ∧ j = (k : Int) ∧ rk.Parent = (i : Int)
theorem Tbl.lt {x : List Row} (h : Tbl x) {i : Nat} {r : Row} (hr : x[i]? = some r) {j : Int} (hj : j ∈ r.Kids) : (i : Int) < j ∧ j < x.length := by
 obtain ⟨k, rk, h1, h2, h3⟩ := (h.kids i r hr j).1 hj
 have hk := (List.getElem?_eq_some_iff.1 h1).1
 have h0 : 0 < k := by
  rcases Nat.eq_zero_or_pos k with e | e
  ·subst e
   have := h.root rk h1
   omega
  ·exact e
 obtain ⟨q, hq, hq2⟩ := h.up k rk h1 h0
 omega
theorem R06_rows_tab {n : Node} (h : size n < 2 ^ 30) : R06_rowsS ([] : List Row) n (-1) = some (tabOf n) := by
 unfold R06_rowsS
 rw [if_pos (by simpa using h)]; rfl
theorem tree_list_tab {n : Node} (h : size n < 2 ^ 30) (hg : gapsB n = true) : tree_listS ([] : List Row) n (-1) = some (tabOf n) := by
 unfold tree_listS
 rw [if_pos ⟨by simpa using h, hg⟩]; rfl
theorem tab_kind (n : Node) : ∃ r, (tabOf n)[0]? = some r ∧ r.Kind = n.Kind := by
 unfold tabOf
 rw [tab_eq]
 exact ⟨_, rfl, rfl⟩
end Xr

set_option linter.unusedVariables false
namespace Xr
open Go Go.Ev
theorem small_eq (n : Node) : law24_Small n = some (decide ((size n : Int) ≤ 60 ∧ (height n : Int) ≤ 16)) := by
 unfold law24_Small law24_LeftS
 rw [if_pos (by decide), Option.bind_some]
 congr 1
 unfold leftV
 by_cases hc : (size n : Int) ≤ 60 ∧ (height n : Int) ≤ 16
 ·rw [if_pos hc, decide_eq_decide]; constructor
  ·intro _; exact hc
  ·intro _; omega
 ·rw [if_neg hc, decide_eq_decide]; constructor
  ·intro h'; omega
  ·intro h'; exact absurd h' hc
mutual
theorem wf_gaps : ∀ (n : Node), Wf_Node n → gapsB n = true
 | ⟨k, t, g, ks⟩, h => by
  cases h with
  | mk _ _ _ _ h1 h2 h3 h4 h5 =>
   rw [gapsB, Bool.and_eq_true, decide_eq_true_eq]
   have := h3.1.2
   have hr : reachBytes = 140737488351232 := rfl
   exact ⟨by omega, wf_gapss ks h5⟩
theorem wf_gapss : ∀ (l : List Node), (∀ x ∈ l, Wf_Node x) → gapsBs l = true
 | [], _ => rfl
 | n :: ks, h => by
  rw [gapsBs, Bool.and_eq_true]
  exact ⟨wf_gaps n (h n List.mem_cons_self), wf_gapss ks fun x hx => h x (List.mem_cons_of_mem _ hx)⟩
end
theorem tree_rows_eq {n : Node} (h : size n < 2 ^ 30) (hg : gapsB n = true) : tree_Rows n = some (tabOf n) := by
 unfold tree_Rows; rw [tree_list_tab h hg]; rfl
theorem r06_rows_eq {n : Node} (h : size n < 2 ^ 30) : R06_Rows n = some (tabOf n) := by
 unfold R06_Rows; rw [R06_rows_tab h]; rfl
def fnd (m : List Pair) (n : Int) : Option Int := m.findSome? fun p => if p.Old = n then some p.New else none
theorem fnd_map {ρ : Type} (g : Int → ρ) (n : Int) : ∀ (m : List Pair), (m.findSome? fun p => if p.Old = n then some (g p.New) else none) = (fnd m n).map g
 | [] => rfl
 | p :: m => by
  have := fnd_map g n m
  unfold fnd at this ⊢
  simp only [List.findSome?_cons]
  by_cases hc : p.Old = n
  ·rw [if_pos hc, if_pos hc]; rfl
  ·rw [if_neg hc, if_neg hc]; exact this
theorem match_find_eq (m : List Pair) (n : Int) (h : m.length < 2 ^ 60) : match_Find m n = some (match fnd m n with | some k => (k, true) | none => (0, false)) := by
 unfold match_Find
 have := iter_first (step := match_Find_L0 n m (m.length : Int)) (fun i => (i : Int)) (fun _ (p : Pair) => if p.Old = n then some (p.New, true) else none) 0 (m.length : Int) m 0 (fun j v hj => by
  have hjl := (List.getElem?_eq_some_iff.1 hj).1
  simp only [match_Find_L0, Nat.zero_add, rd_nat, hj, Option.bind_some]
  rw [if_pos (by omega)]
  by_cases hc : v.Old = n
  ·rw [if_pos hc, if_pos hc]
  ·rw [if_neg hc, if_neg hc, w64_succ (by omega)]) (by
  simp only [match_Find_L0, Nat.zero_add]
  rw [if_neg (by omega)])
 rw [show ((0 : Nat) : Int) = 0 from rfl] at this
 rw [this, firstI_find, fnd_map (fun k => (k, true))]
 cases fnd m n <;> rfl
theorem r24_find_eq (m : List Pair) (n : Int) (h : m.length < 2 ^ 60) : R24_Find m n = some (match fnd m n with | some k => (k, true) | none => (0, false)) := by
 unfold R24_Find
 have := iter_first (step := R24_Find_L0 m n) (fun i => (i : Int)) (fun _ (p : Pair) => if p.Old = n then some (p.New, true) else none) 0 (m.length : Int) m 0 (fun j v hj => by
  have hjl := (List.getElem?_eq_some_iff.1 hj).1
  simp only [R24_Find_L0, Nat.zero_add, rd_nat, hj, Option.bind_some]
  rw [if_pos (by omega)]
  by_cases hc : v.Old = n
  ·rw [if_pos hc, if_pos hc]
  ·rw [if_neg hc, if_neg hc, w64_succ (by omega)]) (by
  simp only [R24_Find_L0, Nat.zero_add]
  rw [if_neg (by omega)])
 rw [show ((0 : Nat) : Int) = 0 from rfl] at this
 rw [this, firstI_find, fnd_map (fun k => (k, true))]
 cases fnd m n <;> rfl
theorem has_new_eq (m : List Pair) (n : Int) (h : m.length < 2 ^ 60) : R24_hasNew m n = some (decide (∃ p ∈ m, p.New = n)) := by
 unfold R24_hasNew
 have := iter_first (step := R24_hasNew_L0 m n) (fun i => (i : Int)) (fun _ (p : Pair) => if p.New = n then some true else none) 0 (m.length : Int) m 0 (fun j v hj => by
  have hjl := (List.getElem?_eq_some_iff.1 hj).1
  simp only [R24_hasNew_L0, Nat.zero_add, rd_nat, hj, Option.bind_some]
  rw [if_pos (by omega)]
  by_cases hc : v.New = n
  ·rw [if_pos hc, if_pos hc]
  ·rw [if_neg hc, if_neg hc, w64_succ (by omega)]) (by
  simp only [R24_hasNew_L0, Nat.zero_add]
  rw [if_neg (by omega)])
 rw [show ((0 : Nat) : Int) = 0 from rfl] at this
 rw [this, firstI_find]
 have e : (m.findSome? fun p => if p.New = n then some true else none) = if (∃ p ∈ m, p.New = n) then some true else none := by
  clear this h
  induction m with
  | nil => simp
  | cons p m ih =>
   simp only [List.findSome?_cons]
   by_cases hc : p.New = n
   ·rw [if_pos hc, if_pos ⟨p, List.mem_cons_self, hc⟩]
   ·rw [if_neg hc]
    simp only [ih]
    by_cases hd : ∃ p ∈ m, p.New = n
    ·obtain ⟨q, h1, h2⟩ := hd
     rw [if_pos ⟨q, h1, h2⟩, if_pos ⟨q, List.mem_cons_of_mem _ h1, h2⟩]
    ·rw [if_neg hd, if_neg]
     rintro ⟨q, h1, h2⟩
     rcases List.mem_cons.1 h1 with e | e
     ·subst e; exact hc h2
     ·exact hd ⟨q, e, h2⟩
 rw [e]
 by_cases hd : ∃ p ∈ m, p.New = n
 ·simp only [if_pos hd, decide_eq_true hd, Option.bind_some]
 ·simp only [if_neg hd, decide_eq_false hd, Option.bind_some]
def GoodAt (x y : List Row) (m : List Pair) (i : Nat) : Prop :=
 ∃ p u v, m[i]? = some p ∧ 0 ≤ p.Old ∧ x[p.Old.toNat]? = some u ∧ 0 ≤ p.New ∧ y[p.New.toNat]? = some v ∧ (∀ j, j < i → ∀ q, m[j]? = some q → q.Old < p.Old ∧ q.New ≠ p.New) ∧ u.Kind = v.Kind ∧ (p.Old = 0 ↔ p.New = 0)
def MapOk (a b : Node) (m : List Pair) : Prop := (∀ i, i < m.length → GoodAt (tabOf a) (tabOf b) m i) ∧ (a.Kind = b.Kind → ∃ q, m[0]? = some q ∧ q.Old = 0)
def lastOld (m : List Pair) : Nat → Int
 | 0 => -1
 | i + 1 => match m[i]? with | some q => q.Old | none => -1
theorem lastOld_nn {x y : List Row} {m : List Pair} {i : Nat} (hg : ∀ j, j < i → GoodAt x y m j) : -1 ≤ lastOld m i ∧ (0 < i → 0 ≤ lastOld m i) := by
 cases i with
 | zero => exact ⟨Int.le_refl _, fun h => by omega⟩
 | succ i =>
  obtain ⟨p, u, v, h1, h2, _⟩ := hg i (by omega)
  simp only [lastOld, h1]
  exact ⟨by omega, fun _ => h2⟩
theorem lastOld_iff {x y : List Row} {m : List Pair} {i : Nat} (hg : ∀ j, j < i → GoodAt x y m j) (z : Int) : (∀ j, j < i → ∀ q, m[j]? = some q → q.Old < z) ↔ (i = 0 ∨ lastOld m i < z) := by
 cases i with
 | zero => exact ⟨fun _ => .inl rfl, fun _ j h => by omega⟩
 | succ i =>
  obtain ⟨p, u, v, h1, h2, h3, h4, h5, h6, h7⟩ := hg i (by omega)
  simp only [lastOld, h1]
  constructor
  ·intro h; exact .inr (h i (by omega) p h1)
  ·rintro (h | h) j hj q hq
   ·omega
   ·by_cases hji : j = i
    ·subst hji; rw [h1] at hq; obtain rfl := Option.some.inj hq; exact h
    ·have := (h6 j (by omega) q hq).1; omega
open Classical in
theorem r24_check_eq {a b : Node} {m : List Pair} (ha : size a < 2 ^ 30) (hb : size b < 2 ^ 30) (hm : m.length < 2 ^ 60) : R24_Check a b m = some (if MapOk a b m then 0 else 15) := by
 unfold R24_Check
 rw [r06_rows_eq ha, Option.bind_some, r06_rows_eq hb, Option.bind_some]
 generalize hx : tabOf a = x
 generalize hy : tabOf b = y
 have key := iter_all (step := R24_Check_L0 m x y a.Kind a.Text a.Gaps a.Kids b.Kind b.Text b.Gaps b.Kids) (fun i => (i : Int)) (GoodAt x y m) (15 : Int) 0 (m.length : Int) m.length (fun i hi hg => by
  obtain ⟨p, hp⟩ : ∃ p, m[i]? = some p := ⟨_, List.getElem?_eq_getElem hi⟩
  have hrd : rd m (i : Int) = some p := by rw [rd_nat]; exact hp
  simp only [R24_Check_L0, hrd, Option.bind_some]
  rw [if_pos (by omega)]
  by_cases h1 : p.Old < 0
  ·rw [if_pos h1, if_neg]; rintro ⟨p', u, v, g1, g2, _⟩; rw [hp] at g1; cases g1; omega
  rw [if_neg h1]
  by_cases h2 : (x.length : Int) ≤ p.Old
  ·rw [if_pos h2, if_neg]; rintro ⟨p', u, v, g1, g2, g3, _⟩; rw [hp] at g1; cases g1; have := (List.getElem?_eq_some_iff.1 g3).1; omega
  rw [if_neg h2]
  by_cases h3 : p.New < 0
  ·rw [if_pos h3, if_neg]; rintro ⟨p', u, v, g1, g2, g3, g4, _⟩; rw [hp] at g1; cases g1; omega
  rw [if_neg h3]
  by_cases h4 : (y.length : Int) ≤ p.New
  ·rw [if_pos h4, if_neg]; rintro ⟨p', u, v, g1, g2, g3, g4, g5, _⟩; rw [hp] at g1; cases g1; have := (List.getElem?_eq_some_iff.1 g5).1; omega
  rw [if_neg h4]
  obtain ⟨u, hu⟩ : ∃ u, x[p.Old.toNat]? = some u := ⟨_, List.getElem?_eq_getElem (by omega)⟩
  obtain ⟨v, hv⟩ : ∃ v, y[p.New.toNat]? = some v := ⟨_, List.getElem?_eq_getElem (by omega)⟩
  have hru : rd x p.Old = some u := by unfold rd; rw [if_pos (by omega)]; exact hu
  have hrv : rd y p.New = some v := by unfold rd; rw [if_pos (by omega)]; exact hv
  have hhas := has_new_eq (m.take i) p.New (by rw [List.length_take]; omega)
  have hin : (∃ q ∈ m.take i, q.New = p.New) ↔ ∃ j, j < i ∧ ∃ q, m[j]? = some q ∧ q.New = p.New := by
   constructor
   ·rintro ⟨q, q1, q2⟩
    obtain ⟨j, hj⟩ := List.getElem?_of_mem q1
    rw [List.getElem?_take] at hj
    split at hj
    ·exact ⟨j, by assumption, q, hj, q2⟩
    ·cases hj
   ·rintro ⟨j, hj, q, q1, q2⟩
    exact ⟨q, List.mem_of_getElem? (i := j) (by rw [List.getElem?_take, if_pos hj]; exact q1), q2⟩
  have hgood : GoodAt x y m i ↔ ((i = 0 ∨ lastOld m i < p.Old) ∧ ¬ (∃ q ∈ m.take i, q.New = p.New) ∧ u.Kind = v.Kind ∧ (p.Old = 0 ↔ p.New = 0)) := by
   rw [← lastOld_iff hg, hin]
   constructor
   ·rintro ⟨p', u', v', g1, g2, g3, g4, g5, g6, g7, g8⟩
    rw [hp] at g1; cases g1
    rw [hu] at g3; cases g3
    rw [hv] at g5; cases g5
    exact ⟨fun j hj q hq => (g6 j hj q hq).1, fun ⟨j, hj, q, q1, q2⟩ => (g6 j hj q q1).2 q2, g7, g8⟩
   ·rintro ⟨g1, g2, g3, g4⟩
    exact ⟨p, u, v, hp, by omega, hu, by omega, hv, fun j hj q hq => ⟨g1 j hj q hq, fun e => g2 ⟨j, hj, q, hq, e⟩⟩, g3, g4⟩
  have rest : (i = 0 ∨ lastOld m i < p.Old) → (if (i : Int) ≤ (m.length : Int) then
    (R24_hasNew (m.take (i : Int).toNat) p.New).bind fun r21 =>
    if r21 = true then some (Out.ret (15 : Int)) else
     if u.Kind = v.Kind then
      if (decide (p.Old = (0 : Int))) = (decide (p.New = (0 : Int))) then some (.next (w64 ((i : Int) + (1 : Int)))) else some (.ret (15 : Int))
     else some (.ret (15 : Int))
   else none) = if GoodAt x y m i then some (.next ((i + 1 : Nat) : Int)) else some (.ret 15) := by
   intro h5
   rw [if_pos (by omega), Int.toNat_natCast, hhas, Option.bind_some]
   by_cases h6 : ∃ q ∈ m.take i, q.New = p.New
   ·rw [if_pos (decide_eq_true h6), if_neg (fun h => (hgood.1 h).2.1 h6)]
   ·rw [if_neg (by simp only [decide_eq_false h6]; exact Bool.false_ne_true)]
    by_cases h7 : u.Kind = v.Kind
    ·rw [if_pos h7]
     by_cases h8 : (p.Old = 0 ↔ p.New = 0)
     ·rw [if_pos (decide_eq_decide.2 h8), if_pos (hgood.2 ⟨h5, h6, h7, h8⟩), w64_succ (by omega)]
     ·rw [if_neg (fun e => h8 (decide_eq_decide.1 e)), if_neg (fun h => h8 (hgood.1 h).2.2.2)]
    ·rw [if_neg h7, if_neg (fun h => h7 (hgood.1 h).2.2.1)]
  simp only [hru, hrv, Option.bind_some]
  by_cases h5 : (0 : Int) < (i : Int)
  ·rw [if_pos h5]
   obtain ⟨i', rfl⟩ : ∃ i', i = i' + 1 := ⟨i - 1, by omega⟩
   obtain ⟨q, hq⟩ : ∃ q, m[i']? = some q := ⟨_, List.getElem?_eq_getElem (by omega)⟩
   have e1 : w64 (((i' + 1 : Nat) : Int) - 1) = (i' : Int) := by rw [w64_id (by omega) (by omega)]; omega
   have hlast : lastOld m (i' + 1) = q.Old := by simp only [lastOld, hq]
   rw [e1, rd_nat, hq, Option.bind_some]
   by_cases h6 : p.Old ≤ q.Old
   ·rw [if_pos h6, if_neg]
    intro h
    rcases (hgood.1 h).1 with h7 | h7
    ·omega
    ·omega
   ·rw [if_neg h6]
    exact rest (.inr (by omega))
  ·rw [if_neg h5]
   exact rest (.inl (by omega))) (fun _ => by
  simp only [R24_Check_L0]
  rw [if_neg (by omega)])
 rw [show ((0 : Nat) : Int) = 0 from rfl] at key
 rw [key]
 unfold MapOk
 rw [hx, hy]
 by_cases hall : ∀ i, i < m.length → GoodAt x y m i
 ·rw [if_pos hall, Option.bind_some]
  simp only
  by_cases hk : a.Kind = b.Kind
  ·rw [if_pos hk]
   by_cases h0 : (m.length : Int) = 0
   ·rw [if_pos h0, if_neg]
    rintro ⟨_, h2⟩
    obtain ⟨q, h3, _⟩ := h2 hk
    have := (List.getElem?_eq_some_iff.1 h3).1
    omega
   ·rw [if_neg h0]
    obtain ⟨q, hq⟩ : ∃ q, m[0]? = some q := ⟨_, List.getElem?_eq_getElem (by omega)⟩
    rw [show rd m 0 = some q from (rd_nat (i := 0)).trans hq, Option.bind_some]
    by_cases hq0 : q.Old = 0
    ·rw [if_pos hq0, if_pos ⟨hall, fun _ => ⟨q, hq, hq0⟩⟩]
    ·rw [if_neg hq0, if_neg]
     rintro ⟨_, h2⟩
     obtain ⟨q', h3, h4⟩ := h2 hk
     rw [hq] at h3; cases h3; exact hq0 h4
  ·rw [if_neg hk, if_pos ⟨hall, fun h => absurd h hk⟩]
 ·rw [if_neg hall, Option.bind_some]
  simp only
  rw [if_neg (fun h => hall h.1)]
def takenB (m : List Pair) (i : Nat) (k : Nat) : Bool := (m.take i).any fun q => decide (q.New = (k : Int))
def takenL (m : List Pair) (i n : Nat) : List Bool := (List.range n).map (takenB m i)
theorem takenL_get {m : List Pair} {i n k : Nat} (h : k < n) : (takenL m i n)[k]? = some (takenB m i k) := by
 unfold takenL
 rw [List.getElem?_map, List.getElem?_range h]; rfl
theorem takenL_zero (m : List Pair) (n : Nat) : takenL m 0 n = List.replicate n false := by
 apply List.ext_getElem?
 intro k
 by_cases h : k < n
 ·rw [takenL_get h, List.getElem?_replicate, if_pos h]; simp [takenB]
 ·rw [List.getElem?_eq_none (by simp [takenL]; omega), List.getElem?_eq_none (by simp; omega)]
theorem takenL_succ {m : List Pair} {i n : Nat} {p : Pair} (hp : m[i]? = some p) (h0 : 0 ≤ p.New) : takenL m (i + 1) n = (takenL m i n).set p.New.toNat true := by
 apply List.ext_getElem?
 intro k
 by_cases h : k < n
 ·rw [takenL_get h, List.getElem?_set]
  have e : takenB m (i + 1) k = (takenB m i k || decide (p.New = (k : Int))) := by
   unfold takenB
   obtain ⟨hi, e⟩ := List.getElem?_eq_some_iff.1 hp
   rw [List.take_add_one, hp, List.any_append]
   simp
  by_cases hk : p.New.toNat = k
  ·rw [if_pos hk, if_pos (by simp [takenL]; omega), e, decide_eq_true (by omega), Bool.or_true]
  ·rw [if_neg hk, e, decide_eq_false (by omega), Bool.or_false, takenL_get h]
 ·rw [List.getElem?_eq_none (by simp [takenL]; omega), List.getElem?_eq_none (by simp [takenL]; omega)]
theorem takenB_iff {m : List Pair} {i k : Nat} : takenB m i k = true ↔ ∃ j, j < i ∧ ∃ q, m[j]? = some q ∧ q.New = (k : Int) := by
 unfold takenB
 rw [List.any_eq_true]
 constructor
 ·rintro ⟨q, q1, q2⟩
  obtain ⟨j, hj⟩ := List.getElem?_of_mem q1
  rw [List.getElem?_take] at hj
  split at hj
  ·exact ⟨j, by assumption, q, hj, by simpa using q2⟩
  ·cases hj
 ·rintro ⟨j, hj, q, q1, q2⟩
  exact ⟨q, List.mem_of_getElem? (i := j) (by rw [List.getElem?_take, if_pos hj]; exact q1), by simpa using q2⟩
open Classical in
theorem match_check_eq {a b : Node} {m : List Pair} (ha : size a < 2 ^ 30) (hb : size b < 2 ^ 30) (hga : gapsB a = true) (hgb : gapsB b = true) (hm : m.length < 2 ^ 60) : match_Check a b m = some (if MapOk a b m then 0 else 15) := by
 unfold match_Check
 rw [tree_rows_eq ha hga, Option.bind_some, tree_rows_eq hb hgb, Option.bind_some]
 have hlb := tabOf_len b
 have hlbp := size_pos b
 have hrow0 := tab_kind b
 generalize hx : tabOf a = x
 generalize hy : tabOf b = y at hlb hrow0 ⊢
 rw [if_pos (by omega), Int.toNat_natCast]
 have key := iter_all (step := match_Check_L0 x y m (m.length : Int) a.Kind a.Text a.Gaps a.Kids b.Kind b.Text b.Gaps b.Kids) (fun i => (lastOld m i, (i : Int), takenL m i y.length)) (GoodAt x y m) (15 : Int) 0 (lastOld m m.length, (m.length : Int), takenL m m.length y.length) m.length (fun i hi hg => by
  obtain ⟨p, hp⟩ : ∃ p, m[i]? = some p := ⟨_, List.getElem?_eq_getElem hi⟩
  have hrd : rd m (i : Int) = some p := by rw [rd_nat]; exact hp
  have hlast := lastOld_nn hg
  simp only [match_Check_L0, hrd, Option.bind_some]
  rw [if_pos (by omega)]
  by_cases h1 : p.Old ≤ lastOld m i
  ·rw [if_pos h1, if_neg]
   rintro ⟨p', u, v, g1, g2, g3, g4, g5, g6, _⟩; rw [hp] at g1; cases g1
   rcases (lastOld_iff hg p.Old).1 (fun j hj q hq => (g6 j hj q hq).1) with h | h
   ·subst h; simp only [lastOld] at h1; omega
   ·omega
  rw [if_neg h1]
  by_cases h2 : (x.length : Int) ≤ p.Old
  ·rw [if_pos h2, if_neg]; rintro ⟨p', u, v, g1, g2, g3, _⟩; rw [hp] at g1; cases g1; have := (List.getElem?_eq_some_iff.1 g3).1; omega
  rw [if_neg h2]
  by_cases h3 : p.New < 0
  ·rw [if_pos h3, if_neg]; rintro ⟨p', u, v, g1, g2, g3, g4, _⟩; rw [hp] at g1; cases g1; omega
  rw [if_neg h3]
  by_cases h4 : (y.length : Int) ≤ p.New
  ·rw [if_pos h4, if_neg]; rintro ⟨p', u, v, g1, g2, g3, g4, g5, _⟩; rw [hp] at g1; cases g1; have := (List.getElem?_eq_some_iff.1 g5).1; omega
  rw [if_neg h4]
  obtain ⟨u, hu⟩ : ∃ u, x[p.Old.toNat]? = some u := ⟨_, List.getElem?_eq_getElem (by omega)⟩
  obtain ⟨v, hv⟩ : ∃ v, y[p.New.toNat]? = some v := ⟨_, List.getElem?_eq_getElem (by omega)⟩
  have hru : rd x p.Old = some u := by unfold rd; rw [if_pos (by omega)]; exact hu
  have hrv : rd y p.New = some v := by unfold rd; rw [if_pos (by omega)]; exact hv
  have hrt : rd (takenL m i y.length) p.New = some (takenB m i p.New.toNat) := by unfold rd; rw [if_pos (by omega), takenL_get (by omega)]
  have hgood : GoodAt x y m i ↔ (¬ takenB m i p.New.toNat = true ∧ u.Kind = v.Kind ∧ (p.Old = 0 ↔ p.New = 0)) := by
   rw [takenB_iff, show ((p.New.toNat : Nat) : Int) = p.New by omega]
   constructor
   ·rintro ⟨p', u', v', g1, g2, g3, g4, g5, g6, g7, g8⟩
    rw [hp] at g1; cases g1
    rw [hu] at g3; cases g3
    rw [hv] at g5; cases g5
    exact ⟨fun ⟨j, hj, q, q1, q2⟩ => (g6 j hj q q1).2 q2, g7, g8⟩
   ·rintro ⟨g2, g3, g4⟩
    exact ⟨p, u, v, hp, by omega, hu, by omega, hv, fun j hj q hq => ⟨(lastOld_iff hg p.Old).2 (.inr (by omega)) j hj q hq, fun e => g2 ⟨j, hj, q, hq, e⟩⟩, g3, g4⟩
  simp only [hru, hrv, hrt, Option.bind_some]
  by_cases h6 : takenB m i p.New.toNat = true
  ·rw [if_pos h6, if_neg (fun h => (hgood.1 h).1 h6)]
  ·rw [if_neg h6]
   by_cases h7 : u.Kind = v.Kind
   ·rw [if_pos h7]
    by_cases h8 : (p.Old = 0 ↔ p.New = 0)
    ·rw [if_pos (decide_eq_decide.2 h8), if_pos (hgood.2 ⟨h6, h7, h8⟩), w64_succ (by omega), takenL_succ hp (by omega)]
     simp only [lastOld, hp]
    ·rw [if_neg (fun e => h8 (decide_eq_decide.1 e)), if_neg (fun h => h8 (hgood.1 h).2.2)]
   ·rw [if_neg h7, if_neg (fun h => h7 (hgood.1 h).2.1)]) (fun _ => by
  simp only [match_Check_L0]
  rw [if_neg (by omega)])
 simp only [takenL_zero, lastOld] at key
 rw [show ((0 : Nat) : Int) = 0 from rfl] at key
 rw [key]
 unfold MapOk
 rw [hx, hy]
 by_cases hall : ∀ i, i < m.length → GoodAt x y m i
 ·rw [if_pos hall, Option.bind_some]
  simp only
  by_cases hk : a.Kind = b.Kind
  ·rw [if_pos hk, show rd (takenL m m.length y.length) 0 = some (takenB m m.length 0) from (rd_nat (i := 0)).trans (takenL_get (by omega)), Option.bind_some]
   have hiff : takenB m m.length 0 = true ↔ ∃ q, m[0]? = some q ∧ q.Old = 0 := by
    rw [takenB_iff]
    constructor
    ·rintro ⟨j, hj, q, hq, h0⟩
     obtain ⟨p, u, v, g1, g2, g3, g4, g5, g6, g7, g8⟩ := hall j hj
     rw [hq] at g1; cases g1
     have hq0 : q.Old = 0 := g8.2 h0
     obtain ⟨p0, u0, v0, k1, k2, _⟩ := hall 0 (by omega)
     by_cases hj0 : j = 0
     ·subst hj0; exact ⟨q, hq, hq0⟩
     ·have := (g6 0 (by omega) p0 k1).1
      omega
    ·rintro ⟨q, hq, h0⟩
     have hl := (List.getElem?_eq_some_iff.1 hq).1
     obtain ⟨p, u, v, g1, g2, g3, g4, g5, g6, g7, g8⟩ := hall 0 hl
     rw [hq] at g1; cases g1
     exact ⟨0, hl, q, hq, g8.1 h0⟩
   by_cases h0 : takenB m m.length 0 = true
   ·rw [if_pos h0, if_pos ⟨hall, fun _ => hiff.1 h0⟩]
   ·rw [if_neg h0, if_neg (fun h => h0 (hiff.2 (h.2 hk)))]
  ·rw [if_neg hk, if_pos ⟨hall, fun h => absurd h hk⟩]
 ·rw [if_neg hall, Option.bind_some]
  simp only
  rw [if_neg (fun h => hall h.1)]
theorem plain_checks (x0 : Node) (w0 : Wf_Node x0) (x1 : Node) (w1 : Wf_Node x1) (x2 : List Pair) (w2 : WfL 16 Wf_Pair x2) (x3 : Int) (w3 : wfInt .i64 x3) : law24_MatchChecks x0 x1 x2 x3 = some true := by
 unfold law24_MatchChecks
 rw [small_eq, small_eq, Option.bind_some]
 by_cases h0 : (size x0 : Int) ≤ 60 ∧ (height x0 : Int) ≤ 16
 case neg => rw [if_neg (by simp [h0])]; rfl
 rw [if_pos (by simp [h0]), Option.bind_some]
 by_cases h1 : (size x1 : Int) ≤ 60 ∧ (height x1 : Int) ≤ 16
 case neg => rw [if_neg (by simp [h1])]; rfl
 rw [if_pos (by simp [h1])]
 by_cases h2 : (80 : Int) < (x2.length : Int)
 ·rw [if_pos h2]; rfl
 rw [if_neg h2, match_find_eq x2 x3 (by omega), Option.bind_some, r24_find_eq x2 x3 (by omega), Option.bind_some,
  match_check_eq (by omega) (by omega) (wf_gaps _ w0) (wf_gaps _ w1) (by omega), Option.bind_some, r24_check_eq (by omega) (by omega) (by omega), Option.bind_some, if_pos rfl, if_pos rfl, if_pos rfl]
 rfl
end Xr

