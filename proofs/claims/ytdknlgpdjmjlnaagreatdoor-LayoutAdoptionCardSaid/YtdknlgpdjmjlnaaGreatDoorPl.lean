/- A part of the proof: Pl. No conditions of its own. -/
import Derived.Test.YtdknlgpdjmjlnaaGreatDoorT
import Derived.Test.YtdknlgpdjmjlnaaGreatDoorE5
set_option linter.unusedVariables false
namespace Xr
open Go Go.Ev
structure Forest (F : List Row) (pos : Nat) (par : Int) (R : List Int) : Prop where
 roots : R.Pairwise (· < ·)
 inside : ∀ j ∈ R, (pos : Int) ≤ j ∧ j < (pos : Int) + F.length
 up : ∀ (i : Nat) (row : Row), F[i]? = some row → (((pos + i : Nat) : Int) ∈ R ∧ row.Parent = par) ∨ (((pos + i : Nat) : Int) ∉ R ∧ ∃ k, k < i ∧ row.Parent = ((pos + k : Nat) : Int))
 asc : ∀ (i : Nat) (row : Row), F[i]? = some row → row.Kids.Pairwise (· < ·)
 kids : ∀ (i : Nat) (row : Row), F[i]? = some row → ∀ j : Int, j ∈ row.Kids ↔ ∃ (k : Nat) (rowk : Row), F[k]? = some rowk ∧ j = ((pos + k : Nat) : Int) ∧ rowk.Parent = ((pos + i : Nat) : Int)
theorem Forest.nil (pos : Nat) (par : Int) : Forest [] pos par [] where
 roots := .nil
 inside := fun j h => by cases h
 up := fun i row h => by simp at h
 asc := fun i row h => by simp at h
 kids := fun i row h => by simp at h
theorem Forest.append {F G : List Row} {pos : Nat} {par : Int} {R S : List Int} (hf : Forest F pos par R) (hg : Forest G (pos + F.length) par S) (hp : par < pos) : Forest (F ++ G) pos par (R ++ S) where
 roots := by
  refine List.pairwise_append.2 ⟨hf.roots, hg.roots, fun a ha b hb => ?_⟩
  have := hf.inside a ha
  have := hg.inside b hb
  omega
 inside := fun j h => by
  rw [List.length_append]
  rcases List.mem_append.1 h with h | h
  ·have := hf.inside j h; omega
  ·have := hg.inside j h; omega
 up := fun i row h => by
  by_cases hi : i < F.length
  ·rw [List.getElem?_append_left hi] at h
   rcases hf.up i row h with ⟨h1, h2⟩ | ⟨h1, h2⟩
   ·exact .inl ⟨List.mem_append_left _ h1, h2⟩
   ·refine .inr ⟨fun hm => ?_, h2⟩
    rcases List.mem_append.1 hm with hm | hm
    ·exact h1 hm
    ·have := hg.inside _ hm; omega
  ·rw [List.getElem?_append_right (by omega)] at h
   have e : pos + F.length + (i - F.length) = pos + i := by omega
   rcases hg.up _ row h with ⟨h1, h2⟩ | ⟨h1, k, hk, h2⟩
   ·rw [e] at h1
    exact .inl ⟨List.mem_append_right _ h1, h2⟩
   ·rw [e] at h1
    refine .inr ⟨fun hm => ?_, F.length + k, by omega, by rw [h2]; congr 1; omega⟩
    rcases List.mem_append.1 hm with hm | hm
    ·have := hf.inside _ hm; omega
    ·exact h1 hm
 asc := fun i row h => by
  by_cases hi : i < F.length
  ·rw [List.getElem?_append_left hi] at h; exact hf.asc i row h
  ·rw [List.getElem?_append_right (by omega)] at h; exact hg.asc _ row h
 kids := fun i row h j => by
  by_cases hi : i < F.length
  ·rw [List.getElem?_append_left hi] at h
   rw [hf.kids i row h]
   constructor
   ·rintro ⟨k, rk, h1, h2, h3⟩
    exact ⟨k, rk, by rw [List.getElem?_append_left (List.getElem?_eq_some_iff.1 h1).1]; exact h1, h2, h3⟩
   ·rintro ⟨k, rk, h1, h2, h3⟩
    by_cases hk : k < F.length
    ·rw [List.getElem?_append_left hk] at h1; exact ⟨k, rk, h1, h2, h3⟩
    ·rw [List.getElem?_append_right (by omega)] at h1
     rcases hg.up _ rk h1 with ⟨_, h4⟩ | ⟨_, q, _, h4⟩
     ·omega
     ·omega
  ·rw [List.getElem?_append_right (by omega)] at h
   have e : pos + F.length + (i - F.length) = pos + i := by omega
   rw [hg.kids _ row h, e]
   constructor
   ·rintro ⟨k, rk, h1, h2, h3⟩
    exact ⟨F.length + k, rk, by rw [List.getElem?_append_right (by omega), Nat.add_sub_cancel_left]; exact h1, by rw [h2]; congr 1; omega, h3⟩
   ·rintro ⟨k, rk, h1, h2, h3⟩
    by_cases hk : k < F.length
    ·rw [List.getElem?_append_left hk] at h1
     rcases hf.up _ rk h1 with ⟨_, h4⟩ | ⟨_, q, _, h4⟩
     ·omega
     ·omega
    ·rw [List.getElem?_append_right (by omega)] at h1
     exact ⟨k - F.length, rk, h1, by rw [h2]; congr 1; omega, h3⟩
theorem Forest.root {F : List Row} {pos : Nat} {par : Int} {row : Row} (hf : Forest F (pos + 1) pos row.Kids) (hp : row.Parent = par) (hpar : par < pos) : Forest (row :: F) pos par [(pos : Int)] where
 roots := List.pairwise_singleton _ _
 inside := fun j h => by
  obtain rfl : j = pos := by simpa using h
  simp only [List.length_cons]; omega
 up := fun i r h => by
  cases i with
  | zero =>
   obtain rfl : row = r := by simpa using h
   exact .inl ⟨by simp, hp⟩
  | succ i =>
   have h' : F[i]? = some r := by simpa using h
   refine .inr ⟨fun hm => ?_, ?_⟩
   ·have : ((pos + (i + 1) : Nat) : Int) = (pos : Int) := by simpa using hm
    omega
   ·rcases hf.up i r h' with ⟨h1, h2⟩ | ⟨h1, k, hk, h2⟩
    ·exact ⟨0, by omega, by rw [h2]; rfl⟩
    ·exact ⟨k + 1, by omega, by rw [h2]; congr 1; omega⟩
 asc := fun i r h => by
  cases i with
  | zero =>
   obtain rfl : row = r := by simpa using h
   exact hf.roots
  | succ i => exact hf.asc i r (by simpa using h)
 kids := fun i r h j => by
  cases i with
  | zero =>
   obtain rfl : row = r := by simpa using h
   constructor
   ·intro hj
    have h1 := hf.inside j hj
    obtain ⟨k, hk⟩ : ∃ k : Nat, j = ((pos + 1 + k : Nat) : Int) := ⟨(j - (pos + 1 : Nat)).toNat, by omega⟩
    have hkl : k < F.length := by omega
    refine ⟨k + 1, F[k], by simp, by rw [hk]; congr 1; omega, ?_⟩
    rcases hf.up k F[k] (List.getElem?_eq_getElem hkl) with ⟨_, h3⟩ | ⟨h3, _⟩
    ·rw [h3]; rfl
    ·rw [← hk] at h3; exact absurd hj h3
   ·rintro ⟨k, rk, h1, h2, h3⟩
    cases k with
    | zero =>
     obtain rfl : row = rk := by simpa using h1
     rw [hp] at h3; simp only [Nat.add_zero] at h3; omega
    | succ k =>
     rcases hf.up k rk (by simpa using h1) with ⟨h4, _⟩ | ⟨_, q, _, h4⟩
     ·rw [h2]; rw [show pos + (k + 1) = pos + 1 + k by omega]; exact h4
     ·simp only [Nat.add_zero] at h3; omega
  | succ i =>
   have h' : F[i]? = some r := by simpa using h
   rw [hf.kids i r h']
   have e : pos + 1 + i = pos + (i + 1) := by omega
   rw [e]
   constructor
   ·rintro ⟨k, rk, h1, h2, h3⟩
    exact ⟨k + 1, rk, by simpa using h1, by rw [h2]; congr 1; omega, h3⟩
   ·rintro ⟨k, rk, h1, h2, h3⟩
    cases k with
    | zero =>
     obtain rfl : row = rk := by simpa using h1
     rw [hp] at h3; omega
    | succ k => exact ⟨k, rk, by simpa using h1, by rw [h2]; congr 1; omega, h3⟩
def tabOf (n : Node) : List Row := tab n 0 (-1)
theorem tabOf_len (n : Node) : (tabOf n).length = size n := tab_len n 0 (-1)
structure Tbl (x : List Row) : Prop where
 pos : 0 < x.length
 root : ∀ r, x[0]? = some r → r.Parent = -1
 up : ∀ (i : Nat) r, x[i]? = some r → 0 < i → ∃ k : Nat, k < i ∧ r.Parent = (k : Int)
 asc : ∀ (i : Nat) r, x[i]? = some r → r.Kids.Pairwise (· < ·)
 kids : ∀ (i : Nat) r, x[i]? = some r → ∀ j : Int, j ∈ r.Kids ↔ ∃ (k : Nat) (rk : Row), x[k]? = some rk ∧ j = (k : Int) ∧ rk.Parent = (i : Int)
theorem Tbl.lt {x : List Row} (h : Tbl x) {i : Nat} {r : Row} (hr : x[i]? = some r) {j : Int} (hj : j ∈ r.Kids) : (i : Int) < j ∧ j < x.length := by
 obtain ⟨k, rk, h1, h2, h3⟩ := (h.kids i r hr j).1 hj
 have hk := (List.getElem?_eq_some_iff.1 h1).1
 have h0 : 0 < k := by
  rcases Nat.eq_zero_or_pos k with e | e
  ·subst e
   have := h.root rk h1
   omega
  ·exact e
 obtain ⟨q, hq, hq2⟩ := h.up k rk h1 h0
 omega
theorem R06_rows_tab {n : Node} (h : size n < 2 ^ 30) : R06_rowsS ([] : List Row) n (-1) = some (tabOf n) := by
 unfold R06_rowsS
 rw [if_pos (by simpa using h)]; rfl
theorem tree_list_tab {n : Node} (h : size n < 2 ^ 30) (hg : gapsB n = true) : tree_listS ([] : List Row) n (-1) = some (tabOf n) := by
 unfold tree_listS
 rw [if_pos ⟨by simpa using h, hg⟩]; rfl
theorem tab_kind (n : Node) : ∃ r, (tabOf n)[0]? = some r ∧ r.Kind = n.Kind := by
 unfold tabOf
 rw [tab_eq]
 exact ⟨_, rfl, rfl⟩
end Xr

set_option linter.unusedVariables false
namespace Xr
open Go Go.Ev
theorem tree_rows_eq {n : Node} (h : size n < 2 ^ 30) (hg : gapsB n = true) : tree_Rows n = some (tabOf n) := by
 unfold tree_Rows; rw [tree_list_tab h hg]; rfl
theorem r06_rows_eq {n : Node} (h : size n < 2 ^ 30) : R06_Rows n = some (tabOf n) := by
 unfold R06_Rows; rw [R06_rows_tab h]; rfl
theorem has_new_eq (m : List Pair) (n : Int) (h : m.length < 2 ^ 60) : R24_hasNew m n = some (decide (∃ p ∈ m, p.New = n)) := by
 unfold R24_hasNew
 have := iter_first (step := R24_hasNew_L0 m n) (fun i => (i : Int)) (fun _ (p : Pair) => if p.New = n then some true else none) 0 (m.length : Int) m 0 (fun j v hj => by
  have hjl := (List.getElem?_eq_some_iff.1 hj).1
  simp only [R24_hasNew_L0, Nat.zero_add, rd_nat, hj, Option.bind_some]
  rw [if_pos (by omega)]
  by_cases hc : v.New = n
  ·rw [if_pos hc, if_pos hc]
  ·rw [if_neg hc, if_neg hc, w64_succ (by omega)]) (by
  simp only [R24_hasNew_L0, Nat.zero_add]
  rw [if_neg (by omega)])
 rw [show ((0 : Nat) : Int) = 0 from rfl] at this
 rw [this, firstI_find]
 have e : (m.findSome? fun p => if p.New = n then some true else none) = if (∃ p ∈ m, p.New = n) then some true else none := by
  clear this h
  induction m with
  | nil => simp
  | cons p m ih =>
   simp only [List.findSome?_cons]
   by_cases hc : p.New = n
   ·rw [if_pos hc, if_pos ⟨p, List.mem_cons_self, hc⟩]
   ·rw [if_neg hc]
    simp only [ih]
    by_cases hd : ∃ p ∈ m, p.New = n
    ·obtain ⟨q, h1, h2⟩ := hd
     rw [if_pos ⟨q, h1, h2⟩, if_pos ⟨q, List.mem_cons_of_mem _ h1, h2⟩]
    ·rw [if_neg hd, if_neg]
     rintro ⟨q, h1, h2⟩
     rcases List.mem_cons.1 h1 with e | e
     ·subst e; exact hc h2
     ·exact hd ⟨q, e, h2⟩
 rw [e]
 by_cases hd : ∃ p ∈ m, p.New = n
 ·simp only [if_pos hd, decide_eq_true hd, Option.bind_some]
 ·simp only [if_neg hd, decide_eq_false hd, Option.bind_some]
def GoodAt (x y : List Row) (m : List Pair) (i : Nat) : Prop :=
 ∃ p u v, m[i]? = some p ∧ 0 ≤ p.Old ∧ x[p.Old.toNat]? = some u ∧ 0 ≤ p.New ∧ y[p.New.toNat]? = some v ∧ (∀ j, j < i → ∀ q, m[j]? = some q → q.Old < p.Old ∧ q.New ≠ p.New) ∧ u.Kind = v.Kind ∧ (p.Old = 0 ↔ p.New = 0)
def MapOk (a b : Node) (m : List Pair) : Prop := (∀ i, i < m.length → GoodAt (tabOf a) (tabOf b) m i) ∧ (a.Kind = b.Kind → ∃ q, m[0]? = some q ∧ q.Old = 0)
def lastOld (m : List Pair) : Nat → Int
 | 0 => -1
 | i + 1 => match m[i]? with | some q => q.Old | none => -1
theorem lastOld_nn {x y : List Row} {m : List Pair} {i : Nat} (hg : ∀ j, j < i → GoodAt x y m j) : -1 ≤ lastOld m i ∧ (0 < i → 0 ≤ lastOld m i) := by
 cases i with
 | zero => exact ⟨Int.le_refl _, fun h => by omega⟩
 | succ i =>
  obtain ⟨p, u, v, h1, h2, _⟩ := hg i (by omega)
  simp only [lastOld, h1]
  exact ⟨by omega, fun _ => h2⟩
theorem lastOld_iff {x y : List Row} {m : List Pair} {i : Nat} (hg : ∀ j, j < i → GoodAt x y m j) (z : Int) : (∀ j, j < i → ∀ q, m[j]? = some q → q.Old < z) ↔ (i = 0 ∨ lastOld m i < z) := by
 cases i with
 | zero => exact ⟨fun _ => .inl rfl, fun _ j h => by omega⟩
 | succ i =>
  obtain ⟨p, u, v, h1, h2, h3, h4, h5, h6, h7⟩ := hg i (by omega)
  simp only [lastOld, h1]
  constructor
  ·intro h; exact .inr (h i (by omega) p h1)
  ·rintro (h | h) j hj q hq
   ·omega
   ·by_cases hji : j = i
    ·subst hji; rw [h1] at hq; obtain rfl := Option.some.inj hq; exact h
    ·have := (h6 j (by omega) q hq).1; omega
open Classical in
theorem r24_check_eq {a b : Node} {m : List Pair} (ha : size a < 2 ^ 30) (hb : size b < 2 ^ 30) (hm : m.length < 2 ^ 60) : R24_Check a b m = some (if MapOk a b m then 0 else 15) := by
 unfold R24_Check
 rw [r06_rows_eq ha, Option.bind_some, r06_rows_eq hb, Option.bind_some]
 generalize hx : tabOf a = x
 generalize hy : tabOf b = y
 have key := iter_all (step := R24_Check_L0 m x y a.Kind a.Text a.Gaps a.Kids b.Kind b.Text b.Gaps b.Kids) (fun i => (i : Int)) (GoodAt x y m) (15 : Int) 0 (m.length : Int) m.length (fun i hi hg => by
  obtain ⟨p, hp⟩ : ∃ p, m[i]? = some p := ⟨_, List.getElem?_eq_getElem hi⟩
  have hrd : rd m (i : Int) = some p := by rw [rd_nat]; exact hp
  simp only [R24_Check_L0, hrd, Option.bind_some]
  rw [if_pos (by omega)]
  by_cases h1 : p.Old < 0
  ·rw [if_pos h1, if_neg]; rintro ⟨p', u, v, g1, g2, _⟩; rw [hp] at g1; cases g1; omega
  rw [if_neg h1]
  by_cases h2 : (x.length : Int) ≤ p.Old
  ·rw [if_pos h2, if_neg]; rintro ⟨p', u, v, g1, g2, g3, _⟩; rw [hp] at g1; cases g1; have := (List.getElem?_eq_some_iff.1 g3).1; omega
  rw [if_neg h2]
  by_cases h3 : p.New < 0
  ·rw [if_pos h3, if_neg]; rintro ⟨p', u, v, g1, g2, g3, g4, _⟩; rw [hp] at g1; cases g1; omega
  rw [if_neg h3]
  by_cases h4 : (y.length : Int) ≤ p.New
  ·rw [if_pos h4, if_neg]; rintro ⟨p', u, v, g1, g2, g3, g4, g5, _⟩; rw [hp] at g1; cases g1; have := (List.getElem?_eq_some_iff.1 g5).1; omega
  rw [if_neg h4]
  obtain ⟨u, hu⟩ : ∃ u, x[p.Old.toNat]? = some u := ⟨_, List.getElem?_eq_getElem (by omega)⟩
  obtain ⟨v, hv⟩ : ∃ v, y[p.New.toNat]? = some v := ⟨_, List.getElem?_eq_getElem (by omega)⟩
  have hru : rd x p.Old = some u := by unfold rd; rw [if_pos (by omega)]; exact hu
  have hrv : rd y p.New = some v := by unfold rd; rw [if_pos (by omega)]; exact hv
  have hhas := has_new_eq (m.take i) p.New (by rw [List.length_take]; omega)
  have hin : (∃ q ∈ m.take i, q.New = p.New) ↔ ∃ j, j < i ∧ ∃ q, m[j]? = some q ∧ q.New = p.New := by
   constructor
   ·rintro ⟨q, q1, q2⟩
    obtain ⟨j, hj⟩ := List.getElem?_of_mem q1
    rw [List.getElem?_take] at hj
    split at hj
    ·exact ⟨j, by assumption, q, hj, q2⟩
    ·cases hj
   ·rintro ⟨j, hj, q, q1, q2⟩
    exact ⟨q, List.mem_of_getElem? (i := j) (by rw [List.getElem?_take, if_pos hj]; exact q1), q2⟩
  have hgood : GoodAt x y m i ↔ ((i = 0 ∨ lastOld m i < p.Old) ∧ ¬ (∃ q ∈ m.take i, q.New = p.New) ∧ u.Kind = v.Kind ∧ (p.Old = 0 ↔ p.New = 0)) := by
   rw [← lastOld_iff hg, hin]
   constructor
   ·rintro ⟨p', u', v', g1, g2, g3, g4, g5, g6, g7, g8⟩
    rw [hp] at g1; cases g1
    rw [hu] at g3; cases g3
    rw [hv] at g5; cases g5
    exact ⟨fun j hj q hq => (g6 j hj q hq).1, fun ⟨j, hj, q, q1, q2⟩ => (g6 j hj q q1).2 q2, g7, g8⟩
   ·rintro ⟨g1, g2, g3, g4⟩
    exact ⟨p, u, v, hp, by omega, hu, by omega, hv, fun j hj q hq => ⟨g1 j hj q hq, fun e => g2 ⟨j, hj, q, hq, e⟩⟩, g3, g4⟩
  have rest : (i = 0 ∨ lastOld m i < p.Old) → (if (i : Int) ≤ (m.length : Int) then
    (R24_hasNew (m.take (i : Int).toNat) p.New).bind fun r21 =>
    if r21 = true then some (Out.ret (15 : Int)) else
     if u.Kind = v.Kind then
      if (decide (p.Old = (0 : Int))) = (decide (p.New = (0 : Int))) then some (.next (w64 ((i : Int) + (1 : Int)))) else some (.ret (15 : Int))
     else some (.ret (15 : Int))
   else none) = if GoodAt x y m i then some (.next ((i + 1 : Nat) : Int)) else some (.ret 15) := by
   intro h5
   rw [if_pos (by omega), Int.toNat_natCast, hhas, Option.bind_some]
   by_cases h6 : ∃ q ∈ m.take i, q.New = p.New
   ·rw [if_pos (decide_eq_true h6), if_neg (fun h => (hgood.1 h).2.1 h6)]
   ·rw [if_neg (by simp only [decide_eq_false h6]; exact Bool.false_ne_true)]
    by_cases h7 : u.Kind = v.Kind
    ·rw [if_pos h7]
     by_cases h8 : (p.Old = 0 ↔ p.New = 0)
     ·rw [if_pos (decide_eq_decide.2 h8), if_pos (hgood.2 ⟨h5, h6, h7, h8⟩), w64_succ (by omega)]
     ·rw [if_neg (fun e => h8 (decide_eq_decide.1 e)), if_neg (fun h => h8 (hgood.1 h).2.2.2)]
    ·rw [if_neg h7, if_neg (fun h => h7 (hgood.1 h).2.2.1)]
  simp only [hru, hrv, Option.bind_some]
  by_cases h5 : (0 : Int) < (i : Int)
  ·rw [if_pos h5]
   obtain ⟨i', rfl⟩ : ∃ i', i = i' + 1 := ⟨i - 1, by omega⟩
   obtain ⟨q, hq⟩ : ∃ q, m[i']? = some q := ⟨_, List.getElem?_eq_getElem (by omega)⟩
   have e1 : w64 (((i' + 1 : Nat) : Int) - 1) = (i' : Int) := by rw [w64_id (by omega) (by omega)]; omega
   have hlast : lastOld m (i' + 1) = q.Old := by simp only [lastOld, hq]
   rw [e1, rd_nat, hq, Option.bind_some]
   by_cases h6 : p.Old ≤ q.Old
   ·rw [if_pos h6, if_neg]
    intro h
    rcases (hgood.1 h).1 with h7 | h7
    ·omega
    ·omega
   ·rw [if_neg h6]
    exact rest (.inr (by omega))
  ·rw [if_neg h5]
   exact rest (.inl (by omega))) (fun _ => by
  simp only [R24_Check_L0]
  rw [if_neg (by omega)])
 rw [show ((0 : Nat) : Int) = 0 from rfl] at key
 rw [key]
 unfold MapOk
 rw [hx, hy]
 by_cases hall : ∀ i, i < m.length → GoodAt x y m i
 ·rw [if_pos hall, Option.bind_some]
  simp only
  by_cases hk : a.Kind = b.Kind
  ·rw [if_pos hk]
   by_cases h0 : (m.length : Int) = 0
   ·rw [if_pos h0, if_neg]
    rintro ⟨_, h2⟩
    obtain ⟨q, h3, _⟩ := h2 hk
    have := (List.getElem?_eq_some_iff.1 h3).1
    omega
   ·rw [if_neg h0]
    obtain ⟨q, hq⟩ : ∃ q, m[0]? = some q := ⟨_, List.getElem?_eq_getElem (by omega)⟩
    rw [show rd m 0 = some q from (rd_nat (i := 0)).trans hq, Option.bind_some]
    by_cases hq0 : q.Old = 0
    ·rw [if_pos hq0, if_pos ⟨hall, fun _ => ⟨q, hq, hq0⟩⟩]
    ·rw [if_neg hq0, if_neg]
     rintro ⟨_, h2⟩
     obtain ⟨q', h3, h4⟩ := h2 hk
     rw [hq] at h3; cases h3; exact hq0 h4
  ·rw [if_neg hk, if_pos ⟨hall, fun h => absurd h hk⟩]
 ·rw [if_neg hall, Option.bind_some]
  simp only
  rw [if_neg (fun h => hall h.1)]
def takenB (m : List Pair) (i : Nat) (k : Nat) : Bool := (m.take i).any fun q => decide (q.New = (k : Int))
def takenL (m : List Pair) (i n : Nat) : List Bool := (List.range n).map (takenB m i)
theorem takenL_get {m : List Pair} {i n k : Nat} (h : k < n) : (takenL m i n)[k]? = some (takenB m i k) := by
 unfold takenL
 rw [List.getElem?_map, List.getElem?_range h]; rfl
theorem takenL_zero (m : List Pair) (n : Nat) : takenL m 0 n = List.replicate n false := by
 apply List.ext_getElem?
 intro k
 by_cases h : k < n
 ·rw [takenL_get h, List.getElem?_replicate, if_pos h]; simp [takenB]
 ·rw [List.getElem?_eq_none (by simp [takenL]; omega), List.getElem?_eq_none (by simp; omega)]
theorem takenL_succ {m : List Pair} {i n : Nat} {p : Pair} (hp : m[i]? = some p) (h0 : 0 ≤ p.New) : takenL m (i + 1) n = (takenL m i n).set p.New.toNat true := by
 apply List.ext_getElem?
 intro k
 by_cases h : k < n
 ·rw [takenL_get h, List.getElem?_set]
  have e : takenB m (i + 1) k = (takenB m i k || decide (p.New = (k : Int))) := by
   unfold takenB
   obtain ⟨hi, e⟩ := List.getElem?_eq_some_iff.1 hp
   rw [List.take_add_one, hp, List.any_append]
   simp
  by_cases hk : p.New.toNat = k
  ·rw [if_pos hk, if_pos (by simp [takenL]; omega), e, decide_eq_true (by omega), Bool.or_true]
  ·rw [if_neg hk, e, decide_eq_false (by omega), Bool.or_false, takenL_get h]
 ·rw [List.getElem?_eq_none (by simp [takenL]; omega), List.getElem?_eq_none (by simp [takenL]; omega)]
theorem takenB_iff {m : List Pair} {i k : Nat} : takenB m i k = true ↔ ∃ j, j < i ∧ ∃ q, m[j]? = some q ∧ q.New = (k : Int) := by
 unfold takenB
 rw [List.any_eq_true]
 constructor
 ·rintro ⟨q, q1, q2⟩
  obtain ⟨j, hj⟩ := List.getElem?_of_mem q1
  rw [List.getElem?_take] at hj
  split at hj
  ·exact ⟨j, by assumption, q, hj, by simpa using q2⟩
  ·cases hj
 ·rintro ⟨j, hj, q, q1, q2⟩
  exact ⟨q, List.mem_of_getElem? (i := j) (by rw [List.getElem?_take, if_pos hj]; exact q1), by simpa using q2⟩
open Classical in
theorem match_check_eq {a b : Node} {m : List Pair} (ha : size a < 2 ^ 30) (hb : size b < 2 ^ 30) (hga : gapsB a = true) (hgb : gapsB b = true) (hm : m.length < 2 ^ 60) : match_Check a b m = some (if MapOk a b m then 0 else 15) := by
 unfold match_Check
 rw [tree_rows_eq ha hga, Option.bind_some, tree_rows_eq hb hgb, Option.bind_some]
 have hlb := tabOf_len b
 have hlbp := size_pos b
 have hrow0 := tab_kind b
 generalize hx : tabOf a = x
 generalize hy : tabOf b = y at hlb hrow0 ⊢
 rw [if_pos (by omega), Int.toNat_natCast]
 have key := iter_all (step := match_Check_L0 x y m (m.length : Int) a.Kind a.Text a.Gaps a.Kids b.Kind b.Text b.Gaps b.Kids) (fun i => (lastOld m i, (i : Int), takenL m i y.length)) (GoodAt x y m) (15 : Int) 0 (lastOld m m.length, (m.length : Int), takenL m m.length y.length) m.length (fun i hi hg => by
  obtain ⟨p, hp⟩ : ∃ p, m[i]? = some p := ⟨_, List.getElem?_eq_getElem hi⟩
  have hrd : rd m (i : Int) = some p := by rw [rd_nat]; exact hp
  have hlast := lastOld_nn hg
  simp only [match_Check_L0, hrd, Option.bind_some]
  rw [if_pos (by omega)]
  by_cases h1 : p.Old ≤ lastOld m i
  ·rw [if_pos h1, if_neg]
   rintro ⟨p', u, v, g1, g2, g3, g4, g5, g6, _⟩; rw [hp] at g1; cases g1
   rcases (lastOld_iff hg p.Old).1 (fun j hj q hq => (g6 j hj q hq).1) with h | h
   ·subst h; simp only [lastOld] at h1; omega
   ·omega
  rw [if_neg h1]
  by_cases h2 : (x.length : Int) ≤ p.Old
  ·rw [if_pos h2, if_neg]; rintro ⟨p', u, v, g1, g2, g3, _⟩; rw [hp] at g1; cases g1; have := (List.getElem?_eq_some_iff.1 g3).1; omega
  rw [if_neg h2]
  by_cases h3 : p.New < 0
  ·rw [if_pos h3, if_neg]; rintro ⟨p', u, v, g1, g2, g3, g4, _⟩; rw [hp] at g1; cases g1; omega
  rw [if_neg h3]
  by_cases h4 : (y.length : Int) ≤ p.New
  ·rw [if_pos h4, if_neg]; rintro ⟨p', u, v, g1, g2, g3, g4, g5, _⟩; rw [hp] at g1; cases g1; have := (List.getElem?_eq_some_iff.1 g5).1; omega
  rw [if_neg h4]
  obtain ⟨u, hu⟩ : ∃ u, x[p.Old.toNat]? = some u := ⟨_, List.getElem?_eq_getElem (by omega)⟩
  obtain ⟨v, hv⟩ : ∃ v, y[p.New.toNat]? = some v := ⟨_, List.getElem?_eq_getElem (by omega)⟩
  have hru : rd x p.Old = some u := by unfold rd; rw [if_pos (by omega)]; exact hu
  have hrv : rd y p.New = some v := by unfold rd; rw [if_pos (by omega)]; exact hv
  have hrt : rd (takenL m i y.length) p.New = some (takenB m i p.New.toNat) := by unfold rd; rw [if_pos (by omega), takenL_get (by omega)]
  have hgood : GoodAt x y m i ↔ (¬ takenB m i p.New.toNat = true ∧ u.Kind = v.Kind ∧ (p.Old = 0 ↔ p.New = 0)) := by
   rw [takenB_iff, show ((p.New.toNat : Nat) : Int) = p.New by omega]
   constructor
   ·rintro ⟨p', u', v', g1, g2, g3, g4, g5, g6, g7, g8⟩
    rw [hp] at g1; cases g1
    rw [hu] at g3; cases g3
    rw [hv] at g5; cases g5
    exact ⟨fun ⟨j, hj, q, q1, q2⟩ => (g6 j hj q q1).2 q2, g7, g8⟩
   ·rintro ⟨g2, g3, g4⟩
    exact ⟨p, u, v, hp, by omega, hu, by omega, hv, fun j hj q hq => ⟨(lastOld_iff hg p.Old).2 (.inr (by omega)) j hj q hq, fun e => g2 ⟨j, hj, q, hq, e⟩⟩, g3, g4⟩
  simp only [hru, hrv, hrt, Option.bind_some]
  by_cases h6 : takenB m i p.New.toNat = true
  ·rw [if_pos h6, if_neg (fun h => (hgood.1 h).1 h6)]
  ·rw [if_neg h6]
   by_cases h7 : u.Kind = v.Kind
   ·rw [if_pos h7]
    by_cases h8 : (p.Old = 0 ↔ p.New = 0)
    ·rw [if_pos (decide_eq_decide.2 h8), if_pos (hgood.2 ⟨h6, h7, h8⟩), w64_succ (by omega), takenL_succ hp (by omega)]
     simp only [lastOld, hp]
    ·rw [if_neg (fun e => h8 (decide_eq_decide.1 e)), if_neg (fun h => h8 (hgood.1 h).2.2)]
   ·rw [if_neg h7, if_neg (fun h => h7 (hgood.1 h).2.1)]) (fun _ => by
  simp only [match_Check_L0]
  rw [if_neg (by omega)])
 simp only [takenL_zero, lastOld] at key
 rw [show ((0 : Nat) : Int) = 0 from rfl] at key
 rw [key]
 unfold MapOk
 rw [hx, hy]
 by_cases hall : ∀ i, i < m.length → GoodAt x y m i
 ·rw [if_pos hall, Option.bind_some]
  simp only
  by_cases hk : a.Kind = b.Kind
  ·rw [if_pos hk, show rd (takenL m m.length y.length) 0 = some (takenB m m.length 0) from (rd_nat (i := 0)).trans (takenL_get (by omega)), Option.bind_some]
   have hiff : takenB m m.length 0 = true ↔ ∃ q, m[0]? = some q ∧ q.Old = 0 := by
    rw [takenB_iff]
    constructor
    ·rintro ⟨j, hj, q, hq, h0⟩
     obtain ⟨p, u, v, g1, g2, g3, g4, g5, g6, g7, g8⟩ := hall j hj
     rw [hq] at g1; cases g1
     have hq0 : q.Old = 0 := g8.2 h0
     obtain ⟨p0, u0, v0, k1, k2, _⟩ := hall 0 (by omega)
     by_cases hj0 : j = 0
     ·subst hj0; exact ⟨q, hq, hq0⟩
     ·have := (g6 0 (by omega) p0 k1).1
      omega
    ·rintro ⟨q, hq, h0⟩
     have hl := (List.getElem?_eq_some_iff.1 hq).1
     obtain ⟨p, u, v, g1, g2, g3, g4, g5, g6, g7, g8⟩ := hall 0 hl
     rw [hq] at g1; cases g1
     exact ⟨0, hl, q, hq, g8.1 h0⟩
   by_cases h0 : takenB m m.length 0 = true
   ·rw [if_pos h0, if_pos ⟨hall, fun _ => hiff.1 h0⟩]
   ·rw [if_neg h0, if_neg (fun h => h0 (hiff.2 (h.2 hk)))]
  ·rw [if_neg hk, if_pos ⟨hall, fun h => absurd h hk⟩]
 ·rw [if_neg hall, Option.bind_some]
  simp only
  rw [if_neg (fun h => hall h.1)]
end Xr

set_option linter.unusedVariables false
namespace Xr
open Go Go.Ev
theorem inj_of_nodup : ∀ {l : List Pair}, (l.map (·.Old)).Nodup → ∀ {x y : Pair}, x ∈ l → y ∈ l → x.Old = y.Old → x = y
 | [], _, _, _, hx, _, _ => by cases hx
 | a :: l, hn, x, y, hx, hy, h => by
  rw [List.map_cons, List.nodup_cons] at hn
  have hno : ∀ z ∈ l, z.Old ≠ a.Old := fun z hz e => hn.1 (e ▸ List.mem_map.2 ⟨z, hz, rfl⟩)
  rcases List.mem_cons.1 hx with ex | hx' <;> rcases List.mem_cons.1 hy with ey | hy'
  ·rw [ex, ey]
  ·exact absurd (h.symm.trans (by rw [ex])) (hno _ hy')
  ·exact absurd (h.trans (by rw [ey])) (hno _ hx')
  ·exact inj_of_nodup hn.2 hx' hy' h
theorem keyed_old {l : List Pair} (hn : (l.map (·.Old)).Nodup) : Keyed cmpT (·.Old) l := by
 intro x hx y hy
 refine ⟨_, rfl, ?_⟩
 rw [neg_iff]
 unfold lessV
 by_cases h : x.Old = y.Old
 ·have := inj_of_nodup hn hx hy h
  subst this
  simp
 ·simp [h]
theorem slice_ok {l : List Pair} (hl : l.length < 65536) (hn : (l.map (·.Old)).Nodup) : ∃ t, sort_SliceS l = some t ∧ t.Perm l ∧ t.Pairwise (fun x y => x.Old < y.Old) := by
 unfold sort_SliceS
 by_cases h2 : l.length < 2
 ·rw [if_pos h2]
  refine ⟨l, rfl, List.Perm.refl _, ?_⟩
  match l, h2 with
  | [], _ => exact List.Pairwise.nil
  | [x], _ => exact List.pairwise_singleton _ _
  | _ :: _ :: _, h => simp at h; omega
 ·rw [if_neg h2]
  unfold sort_Slice
  rw [if_pos (by omega)]
  obtain ⟨k, hk⟩ := len_some l.length hl
  have hw : IntKind.wrap .u64 (l.length : Int) = l.length := wrapu_small (by omega) (by omega)
  rw [hw, hk, Option.bind_some]
  obtain ⟨t, ht, hp, hs⟩ := pdqS_all (p := cmpT) (key := (·.Old)) (keyed_old hn) hn hl k
  unfold pdqF
  rw [ht, Option.bind_some, if_pos hp.length_eq]
  exact ⟨t, rfl, hp, hs⟩
theorem tidy_ok {l : List Pair} (hl : l.length < 65536) (hn : (l.map (·.Old)).Nodup) : ∃ t, match_tidy l = some (t, t) ∧ t.Perm l ∧ t.Pairwise (fun x y => x.Old < y.Old) := by
 obtain ⟨t, ht, hp, hs⟩ := slice_ok hl hn
 refine ⟨t, ?_, hp, hs⟩
 have hlen := hp.length_eq
 unfold match_tidy
 rw [ht, Option.bind_some, if_pos hlen]
 have h1 := iter_to (step := match_tidy_L0 (t.length : Int) t) (fun i => ((i : Int), t.take i)) t.length (fun i hi => by
  have hv : t[i]? = some t[i] := List.getElem?_eq_getElem hi
  have htk : t.take (i + 1) = t.take i ++ [t[i]] := by rw [List.take_add_one, hv]; rfl
  simp only [match_tidy_L0, rd_nat, hv, Option.bind_some, List.length_take]
  rw [if_pos (by omega)]
  by_cases h0 : i = 0
  ·rw [if_pos (by omega), if_pos (by omega), w64_succ (by omega), htk]
  ·rw [if_neg (by omega), w64_id (x := (i : Int) - 1) (by omega) (by omega), show (i : Int) - 1 = ((i - 1 : Nat) : Int) from by omega, rd_nat]
   have hv' : t[i - 1]? = some (t[i - 1]'(by omega)) := List.getElem?_eq_getElem (by omega)
   have hlt := List.pairwise_iff_getElem.1 hs (i - 1) i (by omega) hi (by omega)
   rw [hv', Option.bind_some, if_neg (fun e => by omega), if_pos (by omega), w64_succ (by omega), htk])
 have e0 : (((0 : Nat) : Int), t.take 0) = ((0 : Int), ([] : List Pair)) := by simp
 rw [← e0, h1, iter_jmp (n := 0) (s' := ((t.length : Int), t))]
 ·rfl
 ·simp only [match_tidy_L0, List.take_length]
  rw [if_neg (by omega)]
end Xr

set_option linter.unusedVariables false
namespace Xr
open Go Go.Ev
theorem wf_ok : ∀ (n : Nat) (x : Node), size x < n → Wf_Node x → okN x
 | 0, x, h, _ => by omega
 | n + 1, x, h, w => by
  cases w with
  | mk y0 y1 y2 y3 h0 h1 h2 h3 h4 =>
   have hr : reachBytes = 140737488351232 := rfl
   simp only [okN]
   refine ⟨⟨by have := h2.1.2; omega, fun t ht => ?_⟩, by omega, all_oks _ fun k hk => ?_⟩
   ·have : t.size ≤ maxLen := h2.2 t ht
    have hm : maxLen < 2 ^ 63 := by decide
    unfold okT; omega
   ·obtain ⟨i, hi⟩ := List.mem_iff_getElem?.1 hk
    have := kid_lt (n := ⟨y0, y1, y2, y3⟩) hi
    exact wf_ok n k (by omega) (h4 k hk)
theorem okN_gapsB : ∀ (m : Nat) (n : Node), size n < m → okN n → gapsB n = true
 | 0, n, h, _ => by omega
 | m + 1, n, h, ho => by
  have key : ∀ l : List Node, (∀ k ∈ l, size k < m ∧ okN k) → gapsBs l = true := by
   intro l
   induction l with
   | nil => intro _; rfl
   | cons k l ih =>
    intro hh
    simp only [gapsBs, Bool.and_eq_true]
    exact ⟨okN_gapsB m k (hh k (by simp)).1 (hh k (by simp)).2, ih fun x hx => hh x (by simp [hx])⟩
  rw [gapsB_eq, Bool.and_eq_true]
  refine ⟨by have := (okN_g ho).1; simp; omega, key _ fun k hk => ?_⟩
  obtain ⟨i, hi⟩ := List.mem_iff_getElem?.1 hk
  have := kid_lt hi
  exact ⟨by omega, okN_kid ho hi⟩
theorem tab_okG : ∀ (m : Nat) (n : Node), size n < m → okN n → ∀ (pos : Nat) (par : Int), ∀ v ∈ tab n pos par, okG v.Gaps
 | 0, n, h, _ => by omega
 | m + 1, n, h, ho => by
  intro pos par v hv
  have key : ∀ (l : List Node) (pos : Nat) (par : Int), (∀ k ∈ l, size k < m ∧ okN k) → ∀ v ∈ tabs l pos par, okG v.Gaps := by
   intro l
   induction l with
   | nil => intro _ _ _ v hv; simp [tabs] at hv
   | cons k l ih =>
    intro pos par hh v hv
    simp only [tabs, List.mem_append] at hv
    rcases hv with hv | hv
    ·exact tab_okG m k (hh k (by simp)).1 (hh k (by simp)).2 _ _ v hv
    ·exact ih _ _ (fun x hx => hh x (by simp [hx])) v hv
  rw [tab_eq, List.mem_cons] at hv
  rcases hv with rfl | hv
  ·exact okN_g ho
  ·refine key _ _ _ (fun k hk => ?_) v hv
   obtain ⟨i, hi⟩ := List.mem_iff_getElem?.1 hk
   have := kid_lt hi
   exact ⟨by omega, okN_kid ho hi⟩
theorem bar_ad (g : Node → Int → List ByteArray) : ∀ (m : Nat) (n : Node), size n < m → ∀ i, barV (adV g n i) = barV n
 | 0, n, h => by omega
 | m + 1, n, h => by
  intro i
  have key : ∀ (l : List Node) (i : Int), (∀ k ∈ l, size k < m) → (adVs g l i).map barV = l.map barV := by
   intro l
   induction l with
   | nil => intro _ _; simp [adVs]
   | cons k l ih =>
    intro i hh
    simp only [adVs, List.map_cons, bar_ad g m k (hh k (by simp)) i, ih _ fun x hx => hh x (by simp [hx])]
  rw [adV_eq, barV_eq, barV_eq n]
  simp only []
  rw [key _ _ fun k hk => by
   obtain ⟨j, hj⟩ := List.mem_iff_getElem?.1 hk
   have := kid_lt hj
   omega]
theorem size_bar : ∀ (m : Nat) (n : Node), size n < m → size (barV n) = size n
 | 0, n, h => by omega
 | m + 1, n, h => by
  have key : ∀ (l : List Node), (∀ k ∈ l, size k < m) → sizes (l.map barV) = sizes l := by
   intro l
   induction l with
   | nil => intro _; rfl
   | cons k l ih =>
    intro hh
    simp only [List.map_cons, sizes, size_bar m k (hh k (by simp)), ih fun x hx => hh x (by simp [hx])]
  rw [barV_eq, size_eq n]
  show 1 + sizes (n.Kids.map barV) = _
  rw [key _ fun k hk => by
   obtain ⟨j, hj⟩ := List.mem_iff_getElem?.1 hk
   have := kid_lt hj
   omega]
theorem okN_ad {g : Node → Int → List ByteArray} (hg : ∀ n i, okN n → okG (g n i)) : ∀ (m : Nat) (n : Node), size n < m → okN n → ∀ i, okN (adV g n i)
 | 0, n, h, _ => by omega
 | m + 1, n, h, ho => by
  intro i
  have key : ∀ (l : List Node) (i : Int), (∀ k ∈ l, size k < m ∧ okN k) → oks (adVs g l i) := by
   intro l
   induction l with
   | nil => intro _ _; simp [adVs, oks]
   | cons k l ih =>
    intro i hh
    simp only [adVs, oks]
    exact ⟨okN_ad hg m k (hh k (by simp)).1 (hh k (by simp)).2 i, ih _ fun x hx => hh x (by simp [hx])⟩
  rw [adV_eq]
  simp only [okN]
  refine ⟨hg n _ ho, by rw [adVs_len]; exact okN_len ho, key _ _ fun k hk => ?_⟩
  obtain ⟨j, hj⟩ := List.mem_iff_getElem?.1 hk
  have := kid_lt hj
  exact ⟨by omega, okN_kid ho hj⟩
theorem ad_self (g : Node → Int → List ByteArray) (R : List Row) (hg : ∀ (k : Node) (p : Nat), (∃ r, R[p]? = some r ∧ r.Gaps = k.Gaps) → firstV k = 0 → okN k → g (barV k) (p : Int) = k.Gaps) :
  ∀ (m : Nat) (n : Node), size n < m → okN n → firstV n = 0 → ∀ (pos : Nat) (par : Int), (∀ j, j < size n → R[pos + j]? = (tab n pos par)[j]?) → adV g (barV n) ((pos : Int) - 1) = n
 | 0, n, h => by omega
 | m + 1, n, h => by
  intro ho hf pos par ht
  have key : ∀ (l : List Node) (pos : Nat) (par : Int), (∀ k ∈ l, size k < m ∧ okN k ∧ firstV k = 0) → (∀ j, j < sizes l → R[pos + j]? = (tabs l pos par)[j]?) → adVs g (l.map barV) ((pos : Int) - 1) = l := by
   intro l
   induction l with
   | nil => intro _ _ _ _; simp [adVs]
   | cons k l ih =>
    intro pos par hh ht
    obtain ⟨h1, h2, h3⟩ := hh k (by simp)
    have hlen := tab_len k pos par
    simp only [List.map_cons, adVs]
    rw [ad_self g R hg m k h1 h2 h3 pos par (fun j hj => by
     rw [ht j (by simp only [sizes]; omega)]
     simp only [tabs]
     rw [List.getElem?_append_left (by omega)]), size_bar _ k (Nat.lt_succ_self _), show (pos : Int) - 1 + size k = ((pos + size k : Nat) : Int) - 1 from by omega,
     ih (pos + size k) par (fun x hx => hh x (by simp [hx])) (fun j hj => by
     have := ht (size k + j) (by simp only [sizes]; omega)
     rw [Nat.add_assoc, this]
     simp only [tabs]
     rw [List.getElem?_append_right (by omega), hlen, Nat.add_sub_cancel_left])]
  have hse := size_eq n
  have hfz := (firstV_zero n).1 hf
  rw [adV_eq]
  have e0 : R[pos]? = some ⟨par, n.Kind, n.Text, n.Gaps, kidPos n.Kids (pos + 1)⟩ := by
   have := ht 0 (by omega)
   rw [Nat.add_zero, tab_eq] at this
   exact this
  have eg := hg n pos ⟨_, e0, rfl⟩ hf ho
  rw [show (pos : Int) - 1 + 1 = (pos : Int) from by omega, eg]
  have ek : (barV n).Kids = n.Kids.map barV := by rw [barV_eq]
  have := key n.Kids (pos + 1) pos (fun k hk => by
   obtain ⟨j, hj⟩ := List.mem_iff_getElem?.1 hk
   have := kid_lt hj
   exact ⟨by omega, okN_kid ho hj, hfz.2 k hk⟩) (fun j hj => by
   have := ht (1 + j) (by omega)
   rw [Nat.add_assoc, this, tab_eq, Nat.add_comm 1 j, List.getElem?_cons_succ])
  rw [ek, show (pos : Int) = ((pos + 1 : Nat) : Int) - 1 from by omega, this]
  have e1 : (barV n).Kind = n.Kind := by rw [barV_eq]
  have e2 : (barV n).Text = n.Text := by rw [barV_eq]
  rw [e1, e2]
  cases n; rfl
def sw (p : Pair) : Pair := ⟨p.New, p.Old⟩
theorem invert_ok {m : List Pair} (hl : m.length < 65536) (hn : (m.map (·.New)).Nodup) : ∃ t, match_Invert m = some t ∧ t.Perm (m.map sw) := by
 have h1 := iter_to (step := match_Invert_L0 m (m.length : Int)) (fun i => ((i : Int), (m.take i).map sw)) m.length (fun i hi => by
  have hv : m[i]? = some m[i] := List.getElem?_eq_getElem hi
  simp only [match_Invert_L0, rd_nat, hv, Option.bind_some, List.length_map, List.length_take]
  rw [if_pos (by omega), if_pos (by omega), w64_succ (by omega), List.take_add_one, hv, List.map_append]
  rfl)
 simp only [List.take_zero, List.map_nil, List.take_length] at h1
 have h2 : iter (match_Invert_L0 m (m.length : Int)) ((0 : Int), ([] : List Pair)) = some (.jmp 0 ((m.length : Int), m.map sw)) := by
  refine Eq.trans h1 (iter_jmp ?_)
  simp only [match_Invert_L0]
  rw [if_neg (by omega)]
 obtain ⟨t, ht, hp, _⟩ := tidy_ok (l := m.map sw) (by rw [List.length_map]; exact hl) (by rw [List.map_map]; exact hn)
 refine ⟨t, ?_, hp⟩
 unfold match_Invert
 rw [h2, Option.bind_some]
 simp only [ht, Option.bind_some]
 rw [if_pos hp.length_eq]
theorem fnd_some {t : List Pair} {i k : Int} (h : fnd t i = some k) : (⟨i, k⟩ : Pair) ∈ t := by
 unfold fnd at h
 obtain ⟨p, hp, e⟩ := List.exists_of_findSome?_eq_some h
 by_cases hc : p.Old = i
 ·rw [if_pos hc] at e
  obtain rfl := Option.some.inj e
  subst hc
  exact hp
 ·rw [if_neg hc] at e; cases e
theorem fnd_isSome {t : List Pair} {p : Pair} (h : p ∈ t) : ∃ k, fnd t p.Old = some k := by
 cases hf : fnd t p.Old with
 | some k => exact ⟨k, rfl⟩
 | none =>
  unfold fnd at hf
  have := List.findSome?_eq_none_iff.1 hf p h
  rw [if_pos rfl] at this
  cases this
theorem map_new_nodup {a b : Node} {m : List Pair} (h : MapOk a b m) : (m.map (·.New)).Nodup := by
 rw [List.nodup_iff_pairwise_ne, List.pairwise_map, List.pairwise_iff_getElem]
 intro i j hi hj hij
 obtain ⟨p, u, v, hp, _, _, _, _, h1, _⟩ := h.1 j hj
 rw [List.getElem?_eq_getElem hj] at hp
 obtain rfl := Option.some.inj hp
 exact (h1 i hij m[i] (List.getElem?_eq_getElem hi)).2
theorem adopt_ok {x0 x1 : Node} {m : List Pair} (h0 : okN x0) (h1 : okN x1) (s0 : size x0 ≤ 60) (s1 : size x1 ≤ 60) (hm : m.length ≤ 200) :
  (MapOk x1 x0 m → ∃ back, back.Perm (m.map sw) ∧ okB back (tabOf x1) ∧ layout_Adopt x0 x1 m = some (adV (gapsAt back (tabOf x1)) x0 (-1), 0)) ∧ (¬ MapOk x1 x0 m → ∃ z, layout_Adopt x0 x1 m = some (z, 15)) := by
 classical
 have g0 := okN_gapsB _ x0 (Nat.lt_succ_self _) h0
 have g1 := okN_gapsB _ x1 (Nat.lt_succ_self _) h1
 have hc := match_check_eq (a := x1) (b := x0) (m := m) (by omega) (by omega) g1 g0 (by omega)
 refine ⟨fun hM => ?_, fun hM => ?_⟩
 ·rw [if_pos hM] at hc
  obtain ⟨t, ht, hp⟩ := invert_ok (m := m) (by omega) (map_new_nodup hM)
  have hB : okB t (tabOf x1) := by
   refine ⟨by rw [hp.length_eq, List.length_map]; omega, fun i k hf => ?_, tab_okG _ x1 (Nat.lt_succ_self _) h1 _ _⟩
   have hmem := hp.mem_iff.1 (fnd_some hf)
   obtain ⟨q, hq, e⟩ := List.mem_map.1 hmem
   obtain ⟨j, hj⟩ := List.mem_iff_getElem?.1 hq
   obtain ⟨p, u, v, hp', h3, h4, _⟩ := hM.1 j (List.getElem?_eq_some_iff.1 hj).1
   rw [hj] at hp'
   obtain rfl := Option.some.inj hp'
   have e2 : q.Old = k := congrArg Pair.New e
   exact ⟨u, by rw [← e2, rd, if_pos h3]; exact h4⟩
  refine ⟨t, hp, hB, ?_⟩
  unfold layout_Adopt
  rw [hc, Option.bind_some, if_pos rfl, tree_rows_eq (by omega) g1, Option.bind_some, ht, Option.bind_some]
  unfold layout_mapped mappedS
  rw [if_pos ⟨h0, by omega, by omega, by omega, hB⟩]
  rfl
 ·rw [if_neg hM] at hc
  unfold layout_Adopt
  rw [hc, Option.bind_some, if_neg (by decide)]
  exact ⟨_, rfl⟩
def idm (k : Nat) : List Pair := (List.range k).map fun (i : Nat) => ⟨(i : Int), (i : Int)⟩
theorem idm_get {k i : Nat} (h : i < k) : (idm k)[i]? = some ⟨(i : Int), (i : Int)⟩ := by simp [idm, h]
theorem idm_len (k : Nat) : (idm k).length = k := by simp [idm]
theorem identity_eq {n : Node} (h : size n < 2 ^ 30) : R24_Identity n = some (idm (size n)) := by
 have hmk : Node.mk n.Kind n.Text n.Gaps n.Kids = n := by cases n; rfl
 have hs : R06_SizeS n = some (size n : Int) := by unfold R06_SizeS; rw [if_pos (by omega)]
 have h1 := iter_to (step := R24_Identity_L0 n.Kind n.Text n.Gaps n.Kids) (fun i => ((i : Int), idm i)) (size n) (fun i hi => by
  simp only [R24_Identity_L0, hmk, hs, Option.bind_some, idm_len]
  rw [if_pos (by omega), if_pos (by omega), w64_succ (by omega)]
  simp [idm, List.range_succ])
 have h2 : iter (R24_Identity_L0 n.Kind n.Text n.Gaps n.Kids) ((0 : Int), ([] : List Pair)) = some (.jmp 0 ((size n : Int), idm (size n))) := by
  refine Eq.trans h1 (iter_jmp ?_)
  simp only [R24_Identity_L0, hmk, hs, Option.bind_some]
  rw [if_neg (by omega)]
 unfold R24_Identity
 rw [h2]
 rfl
theorem tab_bar : ∀ (m : Nat) (n : Node), size n < m → ∀ (pos : Nat) (par : Int), tab (barV n) pos par = (tab n pos par).map fun r => ⟨r.Parent, r.Kind, r.Text, [], r.Kids⟩
 | 0, n, h => by omega
 | m + 1, n, h => by
  intro pos par
  have key : ∀ (l : List Node) (pos : Nat) (par : Int), (∀ k ∈ l, size k < m) → tabs (l.map barV) pos par = (tabs l pos par).map (fun r => ⟨r.Parent, r.Kind, r.Text, [], r.Kids⟩) ∧ kidPos (l.map barV) pos = kidPos l pos := by
   intro l
   induction l with
   | nil => intro _ _ _; exact ⟨by simp [tabs], by simp [kidPos]⟩
   | cons k l ih =>
    intro pos par hh
    have hsz := size_bar _ k (Nat.lt_succ_self _)
    obtain ⟨i1, i2⟩ := ih (pos + size k) par fun x hx => hh x (by simp [hx])
    refine ⟨?_, ?_⟩
    ·simp only [List.map_cons, tabs, List.map_append, tab_bar m k (hh k (by simp)), hsz, i1]
    ·simp only [List.map_cons, kidPos, hsz, i2]
  have hk : ∀ k ∈ n.Kids, size k < m := fun k hk => by
   obtain ⟨j, hj⟩ := List.mem_iff_getElem?.1 hk
   have := kid_lt hj
   omega
  have ek : (barV n).Kids = n.Kids.map barV := by rw [barV_eq]
  have e1 : (barV n).Kind = n.Kind := by rw [barV_eq]
  have e2 : (barV n).Text = n.Text := by rw [barV_eq]
  have e3 : (barV n).Gaps = [] := by rw [barV_eq]
  rw [tab_eq, tab_eq n, ek, e1, e2, e3, (key n.Kids (pos + 1) pos hk).1, (key n.Kids (pos + 1) par hk).2]
  simp
theorem id_map (n : Node) : MapOk n (barV n) (idm (size n)) := by
 have hl := tabOf_len n
 have hb : tabOf (barV n) = (tabOf n).map fun r => ⟨r.Parent, r.Kind, r.Text, [], r.Kids⟩ := tab_bar _ n (Nat.lt_succ_self _) 0 (-1)
 refine ⟨fun i hi => ?_, fun _ => ⟨_, idm_get (size_pos n), rfl⟩⟩
 rw [idm_len] at hi
 have hu : (tabOf n)[i]? = some ((tabOf n)[i]'(by omega)) := List.getElem?_eq_getElem (by omega)
 generalize (tabOf n)[i]'(by omega) = u at hu
 refine ⟨_, u, ⟨u.Parent, u.Kind, u.Text, [], u.Kids⟩, idm_get hi, Int.natCast_nonneg _, ?_, Int.natCast_nonneg _, ?_, fun j hj q hq => ?_, rfl, Iff.rfl⟩
 ·rw [show ((i : Int)).toNat = i from Int.toNat_natCast i]; exact hu
 ·rw [hb, List.getElem?_map, show ((i : Int)).toNat = i from Int.toNat_natCast i, hu]; rfl
 ·rw [idm_get (by omega)] at hq
  obtain rfl := Option.some.inj hq
  simp only []
  omega
theorem sw_idm (k : Nat) : (idm k).map sw = idm k := by simp [idm, sw]
theorem self_adopt {n : Node} (h : okN n) (s : size n ≤ 60) (hf : firstV n = 0) : layout_Adopt (barV n) n (idm (size n)) = some (n, 0) := by
 have hb := okN_bar n h
 have hsz := size_bar _ n (Nat.lt_succ_self _)
 obtain ⟨back, hp, hB, e⟩ := (adopt_ok (m := idm (size n)) hb h (by omega) s (by rw [idm_len]; omega)).1 (id_map n)
 rw [sw_idm] at hp
 rw [e]
 have := ad_self (gapsAt back (tabOf n)) (tabOf n) (fun k p ⟨r, hr, hg⟩ hk ho => by
  have hlt : p < size n := by rw [← tabOf_len]; exact (List.getElem?_eq_some_iff.1 hr).1
  have hmem : (⟨(p : Int), (p : Int)⟩ : Pair) ∈ back := hp.mem_iff.2 (List.mem_of_getElem? (idm_get hlt))
  obtain ⟨z, hz⟩ := fnd_isSome hmem
  have hz2 := hp.mem_iff.1 (fnd_some hz)
  obtain ⟨j, _, hj⟩ := List.mem_map.1 hz2
  have e1 : (j : Int) = (p : Int) := congrArg Pair.Old hj
  have e2 : (j : Int) = z := congrArg Pair.New hj
  have hl := okN_len ho
  unfold gapsAt
  rw [show fnd back (p : Int) = some z from hz, ← e2, e1, Option.bind_some, rd_nat, hr]
  simp only []
  have eo : ownV (barV k) = ownV k := by
   unfold ownV
   rw [own_of (a := barV k) (b := k) (by rw [barV_eq]) (by rw [barV_eq]) (by rw [barV_eq]; simp)]
  have hn := ((nodeV_zero k ho (own_eq k (by omega)).2).1 ((firstV_zero k).1 hk).1).2.1
  rw [hg, eo]
  by_cases hc : (k.Gaps.length : Int) = ownV k
  ·rw [if_pos hc]
  ·rw [if_neg hc]
   have : ¬ 0 < k.Gaps.length := fun h0 => hc (hn h0)
   have e0 : (barV k).Gaps = [] := by rw [barV_eq]
   rw [e0]
   exact (List.length_eq_zero_iff.1 (by omega)).symm) _ n (Nat.lt_succ_self _) h hf 0 (-1) (fun j _ => by rw [Nat.zero_add]; rfl)
 rw [show ((0 : Nat) : Int) - 1 = -1 from rfl] at this
 rw [this]
noncomputable def chkV (n : Node) : Int := if 4000 < szV n 1 then 3 else firstV n
theorem chk_eq (n : Node) (h : okN n) : R07_Check n = some (chkV n) := by
 unfold R07_Check R07_sizeS R07_firstS chkV
 rw [if_pos ⟨h, by omega, by omega⟩, if_pos h, Option.bind_some]
 by_cases hs : 4000 < szV n 1
 ·rw [if_pos hs, if_pos hs]
 ·rw [if_neg hs, if_neg hs]; rfl
theorem chk_zero (n : Node) : chkV n = 0 ↔ ¬ 4000 < szV n 1 ∧ firstV n = 0 := by
 unfold chkV
 by_cases hs : 4000 < szV n 1
 ·rw [if_pos hs]; exact ⟨fun e => by omega, fun e => absurd hs e.1⟩
 ·rw [if_neg hs]; exact ⟨fun e => ⟨hs, e⟩, fun e => e.2⟩
theorem awake_eq : law33_awake = some true := rfl
theorem small_eq (x : Node) : law33_small x = some (decide (0 ≤ leftV x 60 30)) := by
 unfold law33_small R06_Fits R06_leftS
 rw [if_pos (by omega)]
 rfl
theorem small_size {x : Node} (h : 0 ≤ leftV x 60 30) : size x ≤ 60 := by
 unfold leftV at h
 by_cases c : (size x : Int) ≤ 60 ∧ (height x : Int) ≤ 30
 ·omega
 ·rw [if_neg c] at h; omega
theorem plain_adoption (x0 : Node) (w0 : Wf_Node x0) (x1 : Node) (w1 : Wf_Node x1) (x2 : List Pair) (w2 : WfL 16 Wf_Pair x2) : law33_LayoutAdoption x0 x1 x2 = some true := by
 classical
 unfold law33_LayoutAdoption
 rw [small_eq, Option.bind_some, awake_eq]
 by_cases hs0 : 0 ≤ leftV x0 60 30
 case neg => rw [decide_eq_false hs0, if_neg (by simp)]; rfl
 rw [decide_eq_true hs0, if_pos rfl, small_eq, Option.bind_some]
 by_cases hs1 : 0 ≤ leftV x1 60 30
 case neg => rw [decide_eq_false hs1, if_neg (by simp)]; rfl
 rw [decide_eq_true hs1, if_pos rfl]
 by_cases hm : (200 : Int) < (x2.length : Int)
 ·rw [if_pos hm]; rfl
 rw [if_neg hm]
 have h0 := wf_ok _ x0 (Nat.lt_succ_self _) w0
 have h1 := wf_ok _ x1 (Nat.lt_succ_self _) w1
 have z0 := small_size hs0
 have z1 := small_size hs1
 have hA := adopt_ok (m := x2) h0 h1 z0 z1 (by omega)
 have hR : R24_Check x1 x0 x2 = some (if MapOk x1 x0 x2 then 0 else 15) := r24_check_eq (by omega) (by omega) (by omega)
 have e3 : R06_BareS x0 = some (barV x0) := by unfold R06_BareS; rw [if_pos h0]
 have hself : chkV x0 = 0 → layout_Adopt (barV x0) x0 (idm (size x0)) = some (x0, 0) := fun e => self_adopt h0 z0 ((chk_zero _).1 e).2
 have eq0 : R06_EqualS x0 x0 = some true := by unfold R06_EqualS; rw [if_pos h0, decide_eq_true rfl]
 rw [hR]
 by_cases hM : MapOk x1 x0 x2
 ·obtain ⟨back, _, hB, e⟩ := hA.1 hM
  have es : R06_SameS (adV (gapsAt back (tabOf x1)) x0 (-1)) x0 = some true := by
   unfold R06_SameS
   rw [if_pos (okN_ad (fun n i hn => okB_gaps hB hn i) _ x0 (Nat.lt_succ_self _) h0 _), decide_eq_true (bar_ad _ _ x0 (Nat.lt_succ_self _) _)]
  rw [e, Option.bind_some, if_pos hM, Option.bind_some, if_pos rfl, if_pos rfl, es, Option.bind_some, if_pos rfl, chk_eq _ h0, Option.bind_some]
  by_cases hc : chkV x0 = 0
  ·rw [if_pos hc, e3, Option.bind_some, identity_eq (by omega), Option.bind_some, hself hc, Option.bind_some, if_pos rfl, eq0]; rfl
  ·rw [if_neg hc]; rfl
 ·obtain ⟨z, e⟩ := hA.2 hM
  rw [e, Option.bind_some, if_neg hM, Option.bind_some, if_pos rfl, if_neg (show ¬ (15 : Int) = 0 by decide), chk_eq _ h0, Option.bind_some]
  by_cases hc : chkV x0 = 0
  ·rw [if_pos hc, e3, Option.bind_some, identity_eq (by omega), Option.bind_some, hself hc, Option.bind_some, if_pos rfl, eq0]; rfl
  ·rw [if_neg hc]; rfl
end Xr

