/- A part of the proof: Pl. No conditions of its own. -/
import Derived.Test.YtendihpeaajpmaaGreatDoorT
import Derived.Test.YtendihpeaajpmaaGreatDoorE5
set_option linter.unusedVariables false
namespace Xr
open Go Go.Ev
structure Forest (F : List Row) (pos : Nat) (par : Int) (R : List Int) : Prop where
 roots : R.Pairwise (· < ·)
 inside : ∀ j ∈ R, (pos : Int) ≤ j ∧ j < (pos : Int) + F.length
 up : ∀ (i : Nat) (row : Row), F[i]? = some row → (((pos + i : Nat) : Int) ∈ R ∧ row.Parent = par) ∨ (((pos + i : Nat) : Int) ∉ R ∧ ∃ k, k < i ∧ row.Parent = ((pos + k : Nat) : Int))
 asc : ∀ (i : Nat) (row : Row), F[i]? = some row → row.Kids.Pairwise (· < ·)
 kids : ∀ (i : Nat) (row : Row), F[i]? = some row → ∀ j : Int, j ∈ row.Kids ↔ ∃ (k : Nat) (rowk : Row), F[k]? = some rowk ∧ j = ((pos + k : Nat) : Int) ∧ rowk.Parent = ((pos + i : Nat) : Int)
theorem Forest.nil (pos : Nat) (par : Int) : Forest [] pos par [] where
 roots := .nil
 inside := fun j h => by cases h
 up := fun i row h => by simp at h
 asc := fun i row h => by simp at h
 kids := fun i row h => by simp at h
theorem Forest.append {F G : List Row} {pos : Nat} {par : Int} {R S : List Int} (hf : Forest F pos par R) (hg : Forest G (pos + F.length) par S) (hp : par < pos) : Forest (F ++ G) pos par (R ++ S) where
 roots := by
  refine List.pairwise_append.2 ⟨hf.roots, hg.roots, fun a ha b hb => ?_⟩
  have := hf.inside a ha
  have := hg.inside b hb
  omega
 inside := fun j h => by
  rw [List.length_append]
  rcases List.mem_append.1 h with h | h
  ·have := hf.inside j h; omega
  ·have := hg.inside j h; omega
 up := fun i row h => by
  by_cases hi : i < F.length
  ·rw [List.getElem?_append_left hi] at h
   rcases hf.up i row h with ⟨h1, h2⟩ | ⟨h1, h2⟩
   ·exact .inl ⟨List.mem_append_left _ h1, h2⟩
   ·refine .inr ⟨fun hm => ?_, h2⟩
    rcases List.mem_append.1 hm with hm | hm
    ·exact h1 hm
    ·have := hg.inside _ hm; omega
  ·rw [List.getElem?_append_right (by omega)] at h
   have e : pos + F.length + (i - F.length) = pos + i := by omega
   rcases hg.up _ row h with ⟨h1, h2⟩ | ⟨h1, k, hk, h2⟩
   ·rw [e] at h1
    exact .inl ⟨List.mem_append_right _ h1, h2⟩
   ·rw [e] at h1
    refine .inr ⟨fun hm => ?_, F.length + k, by omega, by rw [h2]; congr 1; omega⟩
    rcases List.mem_append.1 hm with hm | hm
    ·have := hf.inside _ hm; omega
    ·exact h1 hm
 asc := fun i row h => by
  by_cases hi : i < F.length
  ·rw [List.getElem?_append_left hi] at h; exact hf.asc i row h
  ·rw [List.getElem?_append_right (by omega)] at h; exact hg.asc _ row h
 kids := fun i row h j => by
  by_cases hi : i < F.length
  ·rw [List.getElem?_append_left hi] at h
   rw [hf.kids i row h]
   constructor
   ·rintro ⟨k, rk, h1, h2, h3⟩
    exact ⟨k, rk, by rw [List.getElem?_append_left (List.getElem?_eq_some_iff.1 h1).1]; exact h1, h2, h3⟩
   ·rintro ⟨k, rk, h1, h2, h3⟩
    by_cases hk : k < F.length
    ·rw [List.getElem?_append_left hk] at h1; exact ⟨k, rk, h1, h2, h3⟩
    ·rw [List.getElem?_append_right (by omega)] at h1
     rcases hg.up _ rk h1 with ⟨_, h4⟩ | ⟨_, q, _, h4⟩
     ·omega
     ·omega
  ·rw [List.getElem?_append_right (by omega)] at h
   have e : pos + F.length + (i - F.length) = pos + i := by omega
   rw [hg.kids _ row h, e]
   constructor
   ·rintro ⟨k, rk, h1, h2, h3⟩
    exact ⟨F.length + k, rk, by rw [List.getElem?_append_right (by omega), Nat.add_sub_cancel_left]; exact h1, by rw [h2]; congr 1; omega, h3⟩
   ·rintro ⟨k, rk, h1, h2, h3⟩
    by_cases hk : k < F.length
    ·rw [List.getElem?_append_left hk] at h1
     rcases hf.up _ rk h1 with ⟨_, h4⟩ | ⟨_, q, _, h4⟩
     ·omega
     ·omega
    ·rw [List.getElem?_append_right (by omega)] at h1
     exact ⟨k - F.length, rk, h1, by rw [h2]; congr 1; omega, h3⟩
theorem Forest.root {F : List Row} {pos : Nat} {par : Int} {row : Row} (hf : Forest F (pos + 1) pos row.Kids) (hp : row.Parent = par) (hpar : par < pos) : Forest (row :: F) pos par [(pos : Int)] where
 roots := List.pairwise_singleton _ _
 inside := fun j h => by
  obtain rfl : j = pos := by simpa using h
  simp only [List.length_cons]; omega
 up := fun i r h => by
  cases i with
  | zero =>
   obtain rfl : row = r := by simpa using h
   exact .inl ⟨by simp, hp⟩
  | succ i =>
   have h' : F[i]? = some r := by simpa using h
   refine .inr ⟨fun hm => ?_, ?_⟩
   ·have : ((pos + (i + 1) : Nat) : Int) = (pos : Int) := by simpa using hm
    omega
   ·rcases hf.up i r h' with ⟨h1, h2⟩ | ⟨h1, k, hk, h2⟩
    ·exact ⟨0, by omega, by rw [h2]; rfl⟩
    ·exact ⟨k + 1, by omega, by rw [h2]; congr 1; omega⟩
 asc := fun i r h => by
  cases i with
  | zero =>
   obtain rfl : row = r := by simpa using h
   exact hf.roots
  | succ i => exact hf.asc i r (by simpa using h)
 kids := fun i r h j => by
  cases i with
  | zero =>
   obtain rfl : row = r := by simpa using h
   constructor
   ·intro hj
    have h1 := hf.inside j hj
    obtain ⟨k, hk⟩ : ∃ k : Nat, j = ((pos + 1 + k : Nat) : Int) := ⟨(j - (pos + 1 : Nat)).toNat, by omega⟩
    have hkl : k < F.length := by omega
    refine ⟨k + 1, F[k], by simp, by rw [hk]; congr 1; omega, ?_⟩
    rcases hf.up k F[k] (List.getElem?_eq_getElem hkl) with ⟨_, h3⟩ | ⟨h3, _⟩
    ·rw [h3]; rfl
    ·rw [← hk] at h3; exact absurd hj h3
   ·rintro ⟨k, rk, h1, h2, h3⟩
    cases k with
    | zero =>
     obtain rfl : row = rk := by simpa using h1
     rw [hp] at h3; simp only [Nat.add_zero] at h3; omega
    | succ k =>
     rcases hf.up k rk (by simpa using h1) with ⟨h4, _⟩ | ⟨_, q, _, h4⟩
     ·rw [h2]; rw [show pos + (k + 1) = pos + 1 + k by omega]; exact h4
     ·simp only [Nat.add_zero] at h3; omega
  | succ i =>
   have h' : F[i]? = some r := by simpa using h
   rw [hf.kids i r h']
   have e : pos + 1 + i = pos + (i + 1) := by omega
   rw [e]
   constructor
   ·rintro ⟨k, rk, h1, h2, h3⟩
    exact ⟨k + 1, rk, by simpa using h1, by rw [h2]; congr 1; omega, h3⟩
   ·rintro ⟨k, rk, h1, h2, h3⟩
    cases k with
    | zero =>
     obtain rfl : row = rk := by simpa using h1
     rw [hp] at h3; omega
    | succ k => exact ⟨k, rk, by simpa using h1, by rw [h2]; congr 1; omega, h3⟩
def tabOf (n : Node) : List Row := tab n 0 (-1)
theorem tabOf_len (n : Node) : (tabOf n).length = size n := tab_len n 0 (-1)
structure Tbl (x : List Row) : Prop where
 pos : 0 < x.length
 root : ∀ r, x[0]? = some r → r.Parent = -1
 up : ∀ (i : Nat) r, x[i]? = some r → 0 < i → ∃ k : Nat, k < i ∧ r.Parent = (k : Int)
 asc : ∀ (i : Nat) r, x[i]? = some r → r.Kids.Pairwise (· < ·)
 kids : ∀ (i : Nat) r, x[i]? = some r → ∀ j : Int, j ∈ r.Kids ↔ ∃ (k : Nat) (rk : Row), x[k]? = some rk ∧ j = (k : Int) ∧ rk.Parent = (i : Int)
theorem Tbl.lt {x : List Row} (h : Tbl x) {i : Nat} {r : Row} (hr : x[i]? = some r) {j : Int} (hj : j ∈ r.Kids) : (i : Int) < j ∧ j < x.length := by
 obtain ⟨k, rk, h1, h2, h3⟩ := (h.kids i r hr j).1 hj
 have hk := (List.getElem?_eq_some_iff.1 h1).1
 have h0 : 0 < k := by
  rcases Nat.eq_zero_or_pos k with e | e
  ·subst e
   have := h.root rk h1
   omega
  ·exact e
 obtain ⟨q, hq, hq2⟩ := h.up k rk h1 h0
 omega
theorem tree_list_tab {n : Node} (h : size n < 2 ^ 30) (hg : gapsB n = true) : tree_listS ([] : List Row) n (-1) = some (tabOf n) := by
 unfold tree_listS
 rw [if_pos ⟨by simpa using h, hg⟩]; rfl
theorem tab_kind (n : Node) : ∃ r, (tabOf n)[0]? = some r ∧ r.Kind = n.Kind := by
 unfold tabOf
 rw [tab_eq]
 exact ⟨_, rfl, rfl⟩
end Xr

set_option linter.unusedVariables false
namespace Xr
open Go Go.Ev
theorem small_eq (n : Node) : law24_Small n = some (decide ((size n : Int) ≤ 60 ∧ (height n : Int) ≤ 16)) := by
 unfold law24_Small law24_LeftS
 rw [if_pos (by decide), Option.bind_some]
 congr 1
 unfold leftV
 by_cases hc : (size n : Int) ≤ 60 ∧ (height n : Int) ≤ 16
 ·rw [if_pos hc, decide_eq_decide]; constructor
  ·intro _; exact hc
  ·intro _; omega
 ·rw [if_neg hc, decide_eq_decide]; constructor
  ·intro h'; omega
  ·intro h'; exact absurd h' hc
mutual
theorem wf_gaps : ∀ (n : Node), Wf_Node n → gapsB n = true
 | ⟨k, t, g, ks⟩, h => by
  cases h with
  | mk _ _ _ _ h1 h2 h3 h4 h5 =>
   rw [gapsB, Bool.and_eq_true, decide_eq_true_eq]
   have := h3.1.2
   have hr : reachBytes = 140737488351232 := rfl
   exact ⟨by omega, wf_gapss ks h5⟩
theorem wf_gapss : ∀ (l : List Node), (∀ x ∈ l, Wf_Node x) → gapsBs l = true
 | [], _ => rfl
 | n :: ks, h => by
  rw [gapsBs, Bool.and_eq_true]
  exact ⟨wf_gaps n (h n List.mem_cons_self), wf_gapss ks fun x hx => h x (List.mem_cons_of_mem _ hx)⟩
end
theorem tree_rows_eq {n : Node} (h : size n < 2 ^ 30) (hg : gapsB n = true) : tree_Rows n = some (tabOf n) := by
 unfold tree_Rows; rw [tree_list_tab h hg]; rfl
def GoodAt (x y : List Row) (m : List Pair) (i : Nat) : Prop :=
 ∃ p u v, m[i]? = some p ∧ 0 ≤ p.Old ∧ x[p.Old.toNat]? = some u ∧ 0 ≤ p.New ∧ y[p.New.toNat]? = some v ∧ (∀ j, j < i → ∀ q, m[j]? = some q → q.Old < p.Old ∧ q.New ≠ p.New) ∧ u.Kind = v.Kind ∧ (p.Old = 0 ↔ p.New = 0)
def MapOk (a b : Node) (m : List Pair) : Prop := (∀ i, i < m.length → GoodAt (tabOf a) (tabOf b) m i) ∧ (a.Kind = b.Kind → ∃ q, m[0]? = some q ∧ q.Old = 0)
def lastOld (m : List Pair) : Nat → Int
 | 0 => -1
 | i + 1 => match m[i]? with | some q => q.Old | none => -1
theorem lastOld_nn {x y : List Row} {m : List Pair} {i : Nat} (hg : ∀ j, j < i → GoodAt x y m j) : -1 ≤ lastOld m i ∧ (0 < i → 0 ≤ lastOld m i) := by
 cases i with
 | zero => exact ⟨Int.le_refl _, fun h => by omega⟩
 | succ i =>
  obtain ⟨p, u, v, h1, h2, _⟩ := hg i (by omega)
  simp only [lastOld, h1]
  exact ⟨by omega, fun _ => h2⟩
theorem lastOld_iff {x y : List Row} {m : List Pair} {i : Nat} (hg : ∀ j, j < i → GoodAt x y m j) (z : Int) : (∀ j, j < i → ∀ q, m[j]? = some q → q.Old < z) ↔ (i = 0 ∨ lastOld m i < z) := by
 cases i with
 | zero => exact ⟨fun _ => .inl rfl, fun _ j h => by omega⟩
 | succ i =>
  obtain ⟨p, u, v, h1, h2, h3, h4, h5, h6, h7⟩ := hg i (by omega)
  simp only [lastOld, h1]
  constructor
  ·intro h; exact .inr (h i (by omega) p h1)
  ·rintro (h | h) j hj q hq
   ·omega
   ·by_cases hji : j = i
    ·subst hji; rw [h1] at hq; obtain rfl := Option.some.inj hq; exact h
    ·have := (h6 j (by omega) q hq).1; omega
def takenB (m : List Pair) (i : Nat) (k : Nat) : Bool := (m.take i).any fun q => decide (q.New = (k : Int))
def takenL (m : List Pair) (i n : Nat) : List Bool := (List.range n).map (takenB m i)
theorem takenL_get {m : List Pair} {i n k : Nat} (h : k < n) : (takenL m i n)[k]? = some (takenB m i k) := by
 unfold takenL
 rw [List.getElem?_map, List.getElem?_range h]; rfl
theorem takenL_zero (m : List Pair) (n : Nat) : takenL m 0 n = List.replicate n false := by
 apply List.ext_getElem?
 intro k
 by_cases h : k < n
 ·rw [takenL_get h, List.getElem?_replicate, if_pos h]; simp [takenB]
 ·rw [List.getElem?_eq_none (by simp [takenL]; omega), List.getElem?_eq_none (by simp; omega)]
theorem takenL_succ {m : List Pair} {i n : Nat} {p : Pair} (hp : m[i]? = some p) (h0 : 0 ≤ p.New) : takenL m (i + 1) n = (takenL m i n).set p.New.toNat true := by
 apply List.ext_getElem?
 intro k
 by_cases h : k < n
 ·rw [takenL_get h, List.getElem?_set]
  have e : takenB m (i + 1) k = (takenB m i k || decide (p.New = (k : Int))) := by
   unfold takenB
   obtain ⟨hi, e⟩ := List.getElem?_eq_some_iff.1 hp
   rw [List.take_add_one, hp, List.any_append]
   simp
  by_cases hk : p.New.toNat = k
  ·rw [if_pos hk, if_pos (by simp [takenL]; omega), e, decide_eq_true (by omega), Bool.or_true]
  ·rw [if_neg hk, e, decide_eq_false (by omega), Bool.or_false, takenL_get h]
 ·rw [List.getElem?_eq_none (by simp [takenL]; omega), List.getElem?_eq_none (by simp [takenL]; omega)]
theorem takenB_iff {m : List Pair} {i k : Nat} : takenB m i k = true ↔ ∃ j, j < i ∧ ∃ q, m[j]? = some q ∧ q.New = (k : Int) := by
 unfold takenB
 rw [List.any_eq_true]
 constructor
 ·rintro ⟨q, q1, q2⟩
  obtain ⟨j, hj⟩ := List.getElem?_of_mem q1
  rw [List.getElem?_take] at hj
  split at hj
  ·exact ⟨j, by assumption, q, hj, by simpa using q2⟩
  ·cases hj
 ·rintro ⟨j, hj, q, q1, q2⟩
  exact ⟨q, List.mem_of_getElem? (i := j) (by rw [List.getElem?_take, if_pos hj]; exact q1), by simpa using q2⟩
open Classical in
theorem match_check_eq {a b : Node} {m : List Pair} (ha : size a < 2 ^ 30) (hb : size b < 2 ^ 30) (hga : gapsB a = true) (hgb : gapsB b = true) (hm : m.length < 2 ^ 60) : match_Check a b m = some (if MapOk a b m then 0 else 15) := by
 unfold match_Check
 rw [tree_rows_eq ha hga, Option.bind_some, tree_rows_eq hb hgb, Option.bind_some]
 have hlb := tabOf_len b
 have hlbp := size_pos b
 have hrow0 := tab_kind b
 generalize hx : tabOf a = x
 generalize hy : tabOf b = y at hlb hrow0 ⊢
 rw [if_pos (by omega), Int.toNat_natCast]
 have key := iter_all (step := match_Check_L0 x y m (m.length : Int) a.Kind a.Text a.Gaps a.Kids b.Kind b.Text b.Gaps b.Kids) (fun i => (lastOld m i, (i : Int), takenL m i y.length)) (GoodAt x y m) (15 : Int) 0 (lastOld m m.length, (m.length : Int), takenL m m.length y.length) m.length (fun i hi hg => by
  obtain ⟨p, hp⟩ : ∃ p, m[i]? = some p := ⟨_, List.getElem?_eq_getElem hi⟩
  have hrd : rd m (i : Int) = some p := by rw [rd_nat]; exact hp
  have hlast := lastOld_nn hg
  simp only [match_Check_L0, hrd, Option.bind_some]
  rw [if_pos (by omega)]
  by_cases h1 : p.Old ≤ lastOld m i
  ·rw [if_pos h1, if_neg]
   rintro ⟨p', u, v, g1, g2, g3, g4, g5, g6, _⟩; rw [hp] at g1; cases g1
   rcases (lastOld_iff hg p.Old).1 (fun j hj q hq => (g6 j hj q hq).1) with h | h
   ·subst h; simp only [lastOld] at h1; omega
   ·omega
  rw [if_neg h1]
  by_cases h2 : (x.length : Int) ≤ p.Old
  ·rw [if_pos h2, if_neg]; rintro ⟨p', u, v, g1, g2, g3, _⟩; rw [hp] at g1; cases g1; have := (List.getElem?_eq_some_iff.1 g3).1; omega
  rw [if_neg h2]
  by_cases h3 : p.New < 0
  ·rw [if_pos h3, if_neg]; rintro ⟨p', u, v, g1, g2, g3, g4, _⟩; rw [hp] at g1; cases g1; omega
  rw [if_neg h3]
  by_cases h4 : (y.length : Int) ≤ p.New
  ·rw [if_pos h4, if_neg]; rintro ⟨p', u, v, g1, g2, g3, g4, g5, _⟩; rw [hp] at g1; cases g1; have := (List.getElem?_eq_some_iff.1 g5).1; omega
  rw [if_neg h4]
  obtain ⟨u, hu⟩ : ∃ u, x[p.Old.toNat]? = some u := ⟨_, List.getElem?_eq_getElem (by omega)⟩
  obtain ⟨v, hv⟩ : ∃ v, y[p.New.toNat]? = some v := ⟨_, List.getElem?_eq_getElem (by omega)⟩
  have hru : rd x p.Old = some u := by unfold rd; rw [if_pos (by omega)]; exact hu
  have hrv : rd y p.New = some v := by unfold rd; rw [if_pos (by omega)]; exact hv
  have hrt : rd (takenL m i y.length) p.New = some (takenB m i p.New.toNat) := by unfold rd; rw [if_pos (by omega), takenL_get (by omega)]
  have hgood : GoodAt x y m i ↔ (¬ takenB m i p.New.toNat = true ∧ u.Kind = v.Kind ∧ (p.Old = 0 ↔ p.New = 0)) := by
   rw [takenB_iff, show ((p.New.toNat : Nat) : Int) = p.New by omega]
   constructor
   ·rintro ⟨p', u', v', g1, g2, g3, g4, g5, g6, g7, g8⟩
    rw [hp] at g1; cases g1
    rw [hu] at g3; cases g3
    rw [hv] at g5; cases g5
    exact ⟨fun ⟨j, hj, q, q1, q2⟩ => (g6 j hj q q1).2 q2, g7, g8⟩
   ·rintro ⟨g2, g3, g4⟩
    exact ⟨p, u, v, hp, by omega, hu, by omega, hv, fun j hj q hq => ⟨(lastOld_iff hg p.Old).2 (.inr (by omega)) j hj q hq, fun e => g2 ⟨j, hj, q, hq, e⟩⟩, g3, g4⟩
  simp only [hru, hrv, hrt, Option.bind_some]
  by_cases h6 : takenB m i p.New.toNat = true
  ·rw [if_pos h6, if_neg (fun h => (hgood.1 h).1 h6)]
  ·rw [if_neg h6]
   by_cases h7 : u.Kind = v.Kind
   ·rw [if_pos h7]
    by_cases h8 : (p.Old = 0 ↔ p.New = 0)
    ·rw [if_pos (decide_eq_decide.2 h8), if_pos (hgood.2 ⟨h6, h7, h8⟩), w64_succ (by omega), takenL_succ hp (by omega)]
     simp only [lastOld, hp]
    ·rw [if_neg (fun e => h8 (decide_eq_decide.1 e)), if_neg (fun h => h8 (hgood.1 h).2.2)]
   ·rw [if_neg h7, if_neg (fun h => h7 (hgood.1 h).2.1)]) (fun _ => by
  simp only [match_Check_L0]
  rw [if_neg (by omega)])
 simp only [takenL_zero, lastOld] at key
 rw [show ((0 : Nat) : Int) = 0 from rfl] at key
 rw [key]
 unfold MapOk
 rw [hx, hy]
 by_cases hall : ∀ i, i < m.length → GoodAt x y m i
 ·rw [if_pos hall, Option.bind_some]
  simp only
  by_cases hk : a.Kind = b.Kind
  ·rw [if_pos hk, show rd (takenL m m.length y.length) 0 = some (takenB m m.length 0) from (rd_nat (i := 0)).trans (takenL_get (by omega)), Option.bind_some]
   have hiff : takenB m m.length 0 = true ↔ ∃ q, m[0]? = some q ∧ q.Old = 0 := by
    rw [takenB_iff]
    constructor
    ·rintro ⟨j, hj, q, hq, h0⟩
     obtain ⟨p, u, v, g1, g2, g3, g4, g5, g6, g7, g8⟩ := hall j hj
     rw [hq] at g1; cases g1
     have hq0 : q.Old = 0 := g8.2 h0
     obtain ⟨p0, u0, v0, k1, k2, _⟩ := hall 0 (by omega)
     by_cases hj0 : j = 0
     ·subst hj0; exact ⟨q, hq, hq0⟩
     ·have := (g6 0 (by omega) p0 k1).1
      omega
    ·rintro ⟨q, hq, h0⟩
     have hl := (List.getElem?_eq_some_iff.1 hq).1
     obtain ⟨p, u, v, g1, g2, g3, g4, g5, g6, g7, g8⟩ := hall 0 hl
     rw [hq] at g1; cases g1
     exact ⟨0, hl, q, hq, g8.1 h0⟩
   by_cases h0 : takenB m m.length 0 = true
   ·rw [if_pos h0, if_pos ⟨hall, fun _ => hiff.1 h0⟩]
   ·rw [if_neg h0, if_neg (fun h => h0 (hiff.2 (h.2 hk)))]
  ·rw [if_neg hk, if_pos ⟨hall, fun h => absurd h hk⟩]
 ·rw [if_neg hall, Option.bind_some]
  simp only
  rw [if_neg (fun h => hall h.1)]
end Xr

set_option linter.unusedVariables false
namespace Xr
open Go Go.Ev
theorem inj_of_nodup : ∀ {l : List Pair}, (l.map (·.Old)).Nodup → ∀ {x y : Pair}, x ∈ l → y ∈ l → x.Old = y.Old → x = y
 | [], _, _, _, hx, _, _ => by cases hx
 | a :: l, hn, x, y, hx, hy, h => by
  rw [List.map_cons, List.nodup_cons] at hn
  have hno : ∀ z ∈ l, z.Old ≠ a.Old := fun z hz e => hn.1 (e ▸ List.mem_map.2 ⟨z, hz, rfl⟩)
  rcases List.mem_cons.1 hx with ex | hx' <;> rcases List.mem_cons.1 hy with ey | hy'
  ·rw [ex, ey]
  ·exact absurd (h.symm.trans (by rw [ex])) (hno _ hy')
  ·exact absurd (h.trans (by rw [ey])) (hno _ hx')
  ·exact inj_of_nodup hn.2 hx' hy' h
theorem keyed_old {l : List Pair} (hn : (l.map (·.Old)).Nodup) : Keyed cmpT (·.Old) l := by
 intro x hx y hy
 refine ⟨_, rfl, ?_⟩
 rw [neg_iff]
 unfold lessV
 by_cases h : x.Old = y.Old
 ·have := inj_of_nodup hn hx hy h
  subst this
  simp
 ·simp [h]
theorem slice_ok {l : List Pair} (hl : l.length < 65536) (hn : (l.map (·.Old)).Nodup) : ∃ t, sort_SliceS l = some t ∧ t.Perm l ∧ t.Pairwise (fun x y => x.Old < y.Old) := by
 unfold sort_SliceS
 by_cases h2 : l.length < 2
 ·rw [if_pos h2]
  refine ⟨l, rfl, List.Perm.refl _, ?_⟩
  match l, h2 with
  | [], _ => exact List.Pairwise.nil
  | [x], _ => exact List.pairwise_singleton _ _
  | _ :: _ :: _, h => simp at h; omega
 ·rw [if_neg h2]
  unfold sort_Slice
  rw [if_pos (by omega)]
  obtain ⟨k, hk⟩ := len_some l.length hl
  have hw : IntKind.wrap .u64 (l.length : Int) = l.length := wrapu_small (by omega) (by omega)
  rw [hw, hk, Option.bind_some]
  obtain ⟨t, ht, hp, hs⟩ := pdqS_all (p := cmpT) (key := (·.Old)) (keyed_old hn) hn hl k
  unfold pdqF
  rw [ht, Option.bind_some, if_pos hp.length_eq]
  exact ⟨t, rfl, hp, hs⟩
theorem tidy_ok {l : List Pair} (hl : l.length < 65536) (hn : (l.map (·.Old)).Nodup) : ∃ t, match_tidy l = some (t, t) ∧ t.Perm l ∧ t.Pairwise (fun x y => x.Old < y.Old) := by
 obtain ⟨t, ht, hp, hs⟩ := slice_ok hl hn
 refine ⟨t, ?_, hp, hs⟩
 have hlen := hp.length_eq
 unfold match_tidy
 rw [ht, Option.bind_some, if_pos hlen]
 have h1 := iter_to (step := match_tidy_L0 (t.length : Int) t) (fun i => ((i : Int), t.take i)) t.length (fun i hi => by
  have hv : t[i]? = some t[i] := List.getElem?_eq_getElem hi
  have htk : t.take (i + 1) = t.take i ++ [t[i]] := by rw [List.take_add_one, hv]; rfl
  simp only [match_tidy_L0, rd_nat, hv, Option.bind_some, List.length_take]
  rw [if_pos (by omega)]
  by_cases h0 : i = 0
  ·rw [if_pos (by omega), if_pos (by omega), w64_succ (by omega), htk]
  ·rw [if_neg (by omega), w64_id (x := (i : Int) - 1) (by omega) (by omega), show (i : Int) - 1 = ((i - 1 : Nat) : Int) from by omega, rd_nat]
   have hv' : t[i - 1]? = some (t[i - 1]'(by omega)) := List.getElem?_eq_getElem (by omega)
   have hlt := List.pairwise_iff_getElem.1 hs (i - 1) i (by omega) hi (by omega)
   rw [hv', Option.bind_some, if_neg (fun e => by omega), if_pos (by omega), w64_succ (by omega), htk])
 have e0 : (((0 : Nat) : Int), t.take 0) = ((0 : Int), ([] : List Pair)) := by simp
 rw [← e0, h1, iter_jmp (n := 0) (s' := ((t.length : Int), t))]
 ·rfl
 ·simp only [match_tidy_L0, List.take_length]
  rw [if_neg (by omega)]
end Xr

set_option linter.unusedVariables false
namespace Xr
open Go Go.Ev
def sw (p : Pair) : Pair := ⟨p.New, p.Old⟩
theorem asc_eq {l t : List Pair} (hp : t.Perm l) (h1 : t.Pairwise fun p q => p.Old < q.Old) (h2 : l.Pairwise fun p q => p.Old < q.Old) : t = l :=
 List.Perm.eq_of_pairwise (le := fun p q : Pair => p.Old < q.Old) (fun a b _ _ h h' => by omega) h1 h2 hp
theorem asc_nodup {l : List Pair} (h : l.Pairwise fun p q => p.Old < q.Old) : (l.map (·.Old)).Nodup :=
 List.pairwise_map.2 (h.imp fun h e => by omega)
theorem tidy_asc {l : List Pair} (hl : l.length < 65536) (h : l.Pairwise fun p q => p.Old < q.Old) : match_tidy l = some (l, l) := by
 obtain ⟨t, ht, hp, hs⟩ := tidy_ok hl (asc_nodup h)
 rw [ht, asc_eq hp hs h]
theorem invert_ok {m : List Pair} (hl : m.length < 65536) (hn : (m.map (·.New)).Nodup) : ∃ t, match_Invert m = some t ∧ t.Perm (m.map sw) ∧ t.Pairwise fun p q => p.Old < q.Old := by
 have h1 := iter_to (step := match_Invert_L0 m (m.length : Int)) (fun i => ((i : Int), (m.take i).map sw)) m.length (fun i hi => by
  have hv : m[i]? = some m[i] := List.getElem?_eq_getElem hi
  simp only [match_Invert_L0, rd_nat, hv, Option.bind_some, List.length_map, List.length_take]
  rw [if_pos (by omega), if_pos (by omega), w64_succ (by omega), List.take_add_one, hv, List.map_append]
  rfl)
 simp only [List.take_zero, List.map_nil, List.take_length] at h1
 have h2 : iter (match_Invert_L0 m (m.length : Int)) ((0 : Int), ([] : List Pair)) = some (.jmp 0 ((m.length : Int), m.map sw)) := by
  refine Eq.trans h1 (iter_jmp ?_)
  simp only [match_Invert_L0]
  rw [if_neg (by omega)]
 obtain ⟨t, ht, hp, hs⟩ := tidy_ok (l := m.map sw) (by rw [List.length_map]; exact hl) (by rw [List.map_map]; exact hn)
 refine ⟨t, ?_, hp, hs⟩
 unfold match_Invert
 rw [h2, Option.bind_some]
 simp only [ht, Option.bind_some]
 rw [if_pos hp.length_eq]
theorem compose_asc {m n l : List Pair} (hm : m.length ≤ 2 ^ 15) (hn : n.length ≤ 2 ^ 15) (h : compL m n = l) (hl : l.length < 65536) (ha : l.Pairwise fun p q => p.Old < q.Old) : match_Compose m n = some l := by
 unfold match_Compose
 rw [if_pos ⟨by omega, by omega⟩, h, tidy_asc hl ha]
 rfl
theorem same_refl (m : List Pair) (h : m.length < 2 ^ 60) : R24_Same m m = some true := by
 unfold R24_Same
 rw [if_pos rfl]
 have h1 := iter_to (step := R24_Same_L0 m m) (fun i => (i : Int)) m.length (fun i hi => by
  have hv : m[i]? = some m[i] := List.getElem?_eq_getElem hi
  simp only [R24_Same_L0, rd_nat, hv, Option.bind_some]
  rw [if_pos (by omega), if_pos (by simp), w64_succ (by omega)])
 have h2 : iter (R24_Same_L0 m m) (0 : Int) = some (.jmp 0 (m.length : Int)) := by
  refine Eq.trans h1 (iter_jmp ?_)
  simp only [R24_Same_L0]
  rw [if_neg (by omega)]
 rw [h2]; rfl
def idL (k : Nat) : List Pair := (List.range k).map fun (i : Nat) => ⟨(i : Int), (i : Int)⟩
theorem identity_eq (n : Node) (h : size n < 2 ^ 30) : match_Identity n = some (idL (size n)) := by
 unfold match_Identity tree_SizeS
 rw [if_pos (by omega), Option.bind_some, if_pos (by omega)]
 simp only [Int.toNat_natCast, List.length_replicate]
 have h1 := iter_to (step := match_Identity_L0 (size n : Int)) (fun i => ((i : Int), idL i ++ List.replicate (size n - i) (⟨0, 0⟩ : Pair))) (size n) (fun i hi => by
  have hlen : (idL i).length = i := by simp [idL]
  have hr : List.replicate (size n - i) (⟨0, 0⟩ : Pair) = ⟨0, 0⟩ :: List.replicate (size n - (i + 1)) ⟨0, 0⟩ := by
   rw [show size n - i = (size n - (i + 1)) + 1 from by omega, List.replicate_succ]
  have hg : (idL i ++ List.replicate (size n - i) (⟨0, 0⟩ : Pair))[i]? = some ⟨0, 0⟩ := by
   rw [List.getElem?_append_right (by omega), hlen, hr]; simp
  simp only [match_Identity_L0, rd_nat, hg, Option.bind_some, Int.toNat_natCast]
  rw [if_pos (by omega), w64_succ (by omega), List.set_append, if_neg (by omega), hlen, Nat.sub_self, hr, List.set_cons_zero]
  have : idL (i + 1) = idL i ++ [⟨(i : Int), (i : Int)⟩] := by simp [idL, List.range_succ]
  rw [this, List.append_assoc]; rfl)
 have e0 : (((0 : Nat) : Int), idL 0 ++ List.replicate (size n - 0) (⟨0, 0⟩ : Pair)) = ((0 : Int), List.replicate (size n) (⟨0, 0⟩ : Pair)) := by simp [idL]
 rw [e0, Nat.sub_self, List.replicate_zero, List.append_nil] at h1
 have h2 : iter (match_Identity_L0 (size n : Int)) ((0 : Int), List.replicate (size n) (⟨0, 0⟩ : Pair)) = some (.jmp 0 ((size n : Int), idL (size n))) := by
  refine Eq.trans h1 (iter_jmp ?_)
  simp only [match_Identity_L0]
  rw [if_neg (by omega)]
 rw [h2]; rfl
structure GoodM (a b : Node) (m : List Pair) : Prop where
 asc : m.Pairwise fun p q => p.Old < q.Old
 news : (m.map (·.New)).Nodup
 each : ∀ p ∈ m, 0 ≤ p.Old ∧ 0 ≤ p.New ∧ (∃ u v, (tabOf a)[p.Old.toNat]? = some u ∧ (tabOf b)[p.New.toNat]? = some v ∧ u.Kind = v.Kind) ∧ (p.Old = 0 ↔ p.New = 0)
 root : a.Kind = b.Kind → (⟨0, 0⟩ : Pair) ∈ m
theorem good_of {a b : Node} {m : List Pair} (h : MapOk a b m) : GoodM a b m := by
 obtain ⟨hg, hr⟩ := h
 have each : ∀ p ∈ m, 0 ≤ p.Old ∧ 0 ≤ p.New ∧ (∃ u v, (tabOf a)[p.Old.toNat]? = some u ∧ (tabOf b)[p.New.toNat]? = some v ∧ u.Kind = v.Kind) ∧ (p.Old = 0 ↔ p.New = 0) := by
  intro p hp
  obtain ⟨i, hi⟩ := List.mem_iff_getElem?.1 hp
  obtain ⟨p', u, v, g1, g2, g3, g4, g5, _, g7, g8⟩ := hg i (List.getElem?_eq_some_iff.1 hi).1
  rw [hi] at g1
  obtain rfl := Option.some.inj g1
  exact ⟨g2, g4, ⟨u, v, g3, g5, g7⟩, g8⟩
 have pw : ∀ i j (hi : i < m.length) (hj : j < m.length), i < j → m[i].Old < m[j].Old ∧ m[i].New ≠ m[j].New := by
  intro i j hi hj hij
  obtain ⟨p, u, v, g1, _, _, _, _, g6, _⟩ := hg j hj
  rw [List.getElem?_eq_getElem hj] at g1
  obtain rfl := Option.some.inj g1
  exact g6 i hij _ (List.getElem?_eq_getElem hi)
 refine ⟨List.pairwise_iff_getElem.2 fun i j hi hj hij => (pw i j hi hj hij).1, List.pairwise_map.2 (List.pairwise_iff_getElem.2 fun i j hi hj hij => (pw i j hi hj hij).2), each, fun hk => ?_⟩
 obtain ⟨q, hq, h0⟩ := hr hk
 have hm := List.mem_of_getElem? hq
 have := (each q hm).2.2.2.1 h0
 have e : q = ⟨0, 0⟩ := by cases q; simp_all
 exact e ▸ hm
theorem GoodM.mapOk {a b : Node} {m : List Pair} (h : GoodM a b m) : MapOk a b m := by
 have asc := List.pairwise_iff_getElem.1 h.asc
 have news := List.pairwise_iff_getElem.1 (List.pairwise_map.1 h.news)
 refine ⟨fun i hi => ?_, fun hk => ?_⟩
 ·obtain ⟨h1, h2, ⟨u, v, h3, h4, h5⟩, h6⟩ := h.each m[i] (List.getElem_mem hi)
  refine ⟨m[i], u, v, List.getElem?_eq_getElem hi, h1, h3, h2, h4, fun j hj q hq => ?_, h5, h6⟩
  have hjl : j < m.length := by omega
  rw [List.getElem?_eq_getElem hjl] at hq
  obtain rfl := Option.some.inj hq
  exact ⟨asc j i hjl hi hj, news j i hjl hi hj⟩
 ·have hm := h.root hk
  obtain ⟨i, hi⟩ := List.mem_iff_getElem?.1 hm
  obtain ⟨hil, e⟩ := List.getElem?_eq_some_iff.1 hi
  cases i with
  | zero => exact ⟨_, hi, rfl⟩
  | succ i =>
   have h0 := asc 0 (i + 1) (by omega) hil (by omega)
   rw [e] at h0
   have := (h.each m[0] (List.getElem_mem (by omega))).1
   have h0' : m[0].Old < 0 := h0
   omega
theorem GoodM.inv {a b : Node} {m n : List Pair} (h : GoodM a b m) (hp : n.Perm (m.map sw)) (hs : n.Pairwise fun p q => p.Old < q.Old) : GoodM b a n := by
 refine ⟨hs, ?_, fun q hq => ?_, fun hk => ?_⟩
 ·have : (n.map (·.New)).Perm (m.map (·.Old)) := by
   have := hp.map (·.New)
   rw [List.map_map] at this
   exact this
  exact this.nodup_iff.2 (asc_nodup h.asc)
 ·obtain ⟨p, hm, rfl⟩ := List.mem_map.1 (hp.mem_iff.1 hq)
  obtain ⟨h1, h2, ⟨u, v, h3, h4, h5⟩, h6⟩ := h.each p hm
  exact ⟨h2, h1, ⟨v, u, h4, h3, h5.symm⟩, h6.symm⟩
 ·exact hp.mem_iff.2 (List.mem_map.2 ⟨_, h.root hk.symm, rfl⟩)
theorem nexts_one {n : List Pair} (h : (n.map (·.Old)).Nodup) {p : Pair} (hp : p ∈ n) : nexts n p.Old = [p.New] := by
 induction n with
 | nil => cases hp
 | cons q n ih =>
  rw [List.map_cons, List.nodup_cons] at h
  unfold nexts
  rcases List.mem_cons.1 hp with rfl | hp
  ·have : n.filter (fun q => decide (q.Old = p.Old)) = [] := by
    rw [List.filter_eq_nil_iff]
    intro q hq e
    exact h.1 (List.mem_map.2 ⟨q, hq, by simpa using e⟩)
   rw [List.filter_cons_of_pos (by simp), this]; rfl
  ·have hne : q.Old ≠ p.Old := fun e => h.1 (e ▸ List.mem_map.2 ⟨p, hp, rfl⟩)
   rw [List.filter_cons_of_neg (by simpa using hne)]
   exact ih h.2 hp
theorem nexts_id {k : Nat} {z : Int} (h0 : 0 ≤ z) (h1 : z < k) : nexts (idL k) z = [z] := by
 have hn : ((idL k).map (·.Old)).Nodup := by
  unfold idL
  rw [List.map_map]
  exact List.pairwise_map.2 (List.nodup_range.imp fun h e => h (by have e' : ((_ : Nat) : Int) = ((_ : Nat) : Int) := e; omega))
 have hm : (⟨z, z⟩ : Pair) ∈ idL k := List.mem_map.2 ⟨z.toNat, List.mem_range.2 (by omega), by rw [Int.toNat_of_nonneg h0]⟩
 exact nexts_one hn hm
theorem compL_one {m n : List Pair} {f : Pair → Int} (h : ∀ p ∈ m, nexts n p.New = [f p]) : compL m n = m.map fun p => ⟨p.Old, f p⟩ := by
 induction m with
 | nil => rfl
 | cons p m ih =>
  have e : compL (p :: m) n = ((nexts n p.New).map fun z => (⟨p.Old, z⟩ : Pair)) ++ compL m n := by simp [compL]
  rw [e, h p List.mem_cons_self, ih fun q hq => h q (List.mem_cons_of_mem _ hq)]; rfl
theorem compL_id {m : List Pair} (hs : m.Pairwise fun p q => p.Old < q.Old) : ∀ (k : Nat), (∀ p ∈ m, 0 ≤ p.Old) → compL (idL k) m = m.filter fun p => decide (p.Old < (k : Int))
 | 0, h0 => by
  symm
  show List.filter _ m = []
  rw [List.filter_eq_nil_iff]
  intro p hp e
  have := h0 p hp
  simp at e; omega
 | k + 1, h0 => by
  have e : idL (k + 1) = idL k ++ [⟨(k : Int), (k : Int)⟩] := by simp [idL, List.range_succ]
  have e2 : compL (idL k ++ [⟨(k : Int), (k : Int)⟩]) m = compL (idL k) m ++ ((nexts m k).map fun z => (⟨(k : Int), z⟩ : Pair)) := by simp [compL]
  rw [e, e2, compL_id hs k h0]
  have h3 : ((nexts m k).map fun z => (⟨(k : Int), z⟩ : Pair)) = m.filter fun p => decide (p.Old = (k : Int)) := by
   unfold nexts
   rw [List.map_map]
   refine (List.map_congr_left fun p hp => ?_).trans (List.map_id _)
   have := (List.mem_filter.1 hp).2
   have hk : p.Old = k := by simpa using this
   show (⟨(k : Int), p.New⟩ : Pair) = p
   rw [← hk]
  rw [h3]
  clear h3 e2 e
  induction m with
  | nil => rfl
  | cons p m ih =>
   rw [List.pairwise_cons] at hs
   have ih := ih hs.2 (fun q hq => h0 q (List.mem_cons_of_mem _ hq))
   rcases Int.lt_trichotomy p.Old k with h | h | h
   ·rw [List.filter_cons_of_pos (by simpa using h), List.filter_cons_of_neg (by simp; omega), List.filter_cons_of_pos (by simp; omega), List.cons_append, ih]
   ·have hnil : m.filter (fun q => decide (q.Old < (k : Int))) = [] := by
     rw [List.filter_eq_nil_iff]
     intro q hq e
     have := hs.1 q hq
     simp at e; omega
    rw [List.filter_cons_of_neg (by simp; omega), List.filter_cons_of_pos (by simpa using h), List.filter_cons_of_pos (by simp; omega), hnil, List.nil_append]
    rw [hnil, List.nil_append] at ih
    rw [ih]
   ·rw [List.filter_cons_of_neg (by simp; omega), List.filter_cons_of_neg (by simp; omega), List.filter_cons_of_neg (by simp; omega)]
    exact ih
theorem plain_inverts (x0 : Node) (w0 : Wf_Node x0) (x1 : Node) (w1 : Wf_Node x1) (x2 : List Pair) (w2 : WfL 16 Wf_Pair x2) : law24_MatchInverts x0 x1 x2 = some true := by
 unfold law24_MatchInverts
 rw [small_eq, small_eq, Option.bind_some]
 by_cases h0 : (size x0 : Int) ≤ 60 ∧ (height x0 : Int) ≤ 16
 case neg => rw [if_neg (by simp [h0])]; rfl
 rw [if_pos (by simp [h0]), Option.bind_some]
 by_cases h1 : (size x1 : Int) ≤ 60 ∧ (height x1 : Int) ≤ 16
 case neg => rw [if_neg (by simp [h1])]; rfl
 rw [if_pos (by simp [h1])]
 by_cases h2 : (80 : Int) < (x2.length : Int)
 ·rw [if_pos h2]; rfl
 rw [if_neg h2, match_check_eq (by omega) (by omega) (wf_gaps _ w0) (wf_gaps _ w1) (by omega), Option.bind_some]
 by_cases hM : MapOk x0 x1 x2
 case neg => rw [if_neg hM, if_neg (by decide)]; rfl
 rw [if_pos hM, if_pos rfl]
 have hG := good_of hM
 obtain ⟨n, hn1, hn2, hn3⟩ := invert_ok (m := x2) (by omega) hG.news
 have hnl : n.length = x2.length := by rw [hn2.length_eq, List.length_map]
 have hGn := hG.inv hn2 hn3
 rw [hn1, Option.bind_some]
 have ho : ∀ p ∈ x2, nexts n p.New = [p.Old] := fun p hp => nexts_one (p := sw p) (asc_nodup hn3) (hn2.mem_iff.2 (List.mem_map.2 ⟨p, hp, rfl⟩))
 have hasc : (x2.map fun p => (⟨p.Old, p.Old⟩ : Pair)).Pairwise fun p q => p.Old < q.Old := List.pairwise_map.2 hG.asc
 rw [compose_asc (by omega) (by omega) (compL_one ho) (by rw [List.length_map]; omega) hasc, Option.bind_some,
  match_check_eq (by omega) (by omega) (wf_gaps _ w1) (wf_gaps _ w0) (by omega), Option.bind_some, if_pos hGn.mapOk, if_pos rfl]
 obtain ⟨t, ht1, ht2, ht3⟩ := invert_ok (m := n) (by omega) hGn.news
 have ht : t = x2 := asc_eq (ht2.trans (by
  have := hn2.map sw
  rw [List.map_map] at this
  exact this.trans (by rw [show (sw ∘ sw) = id from rfl, List.map_id]))) ht3 hG.asc
 rw [ht1, ht, Option.bind_some, same_refl x2 (by omega), Option.bind_some, if_pos rfl, List.length_map, if_pos rfl]
 have hi := iter_to (step := law24_MatchInverts_L0 x2 (x2.map fun p => (⟨p.Old, p.Old⟩ : Pair)) x0.Kind x0.Text x0.Gaps x0.Kids x1.Kind x1.Text x1.Gaps x1.Kids) (fun i => (i : Int)) x2.length (fun i hi => by
  have hv : x2[i]? = some x2[i] := List.getElem?_eq_getElem hi
  simp only [law24_MatchInverts_L0, rd_nat, List.getElem?_map, hv, Option.map_some, Option.bind_some, List.length_map]
  rw [if_pos (by omega), if_pos trivial, if_pos trivial, w64_succ (by omega)])
 have hi2 : iter (law24_MatchInverts_L0 x2 (x2.map fun p => (⟨p.Old, p.Old⟩ : Pair)) x0.Kind x0.Text x0.Gaps x0.Kids x1.Kind x1.Text x1.Gaps x1.Kids) (0 : Int) = some (.jmp 0 (x2.length : Int)) := by
  refine Eq.trans hi (iter_jmp ?_)
  simp only [law24_MatchInverts_L0, List.length_map]
  rw [if_neg (by omega)]
 rw [hi2, Option.bind_some]
 simp only []
 have hlen : ∀ k, (idL k).length = k := fun k => by simp [idL]
 have hold : ∀ p ∈ x2, 0 ≤ p.Old ∧ p.Old < size x0 ∧ 0 ≤ p.New ∧ p.New < size x1 := by
  intro p hp
  obtain ⟨g1, g2, ⟨u, v, g3, g4, _⟩, _⟩ := hG.each p hp
  have e1 := (List.getElem?_eq_some_iff.1 g3).1
  have e2 := (List.getElem?_eq_some_iff.1 g4).1
  rw [tabOf_len] at e1 e2
  omega
 have hc1 : compL (idL (size x0)) x2 = x2 := by
  rw [compL_id hG.asc _ fun p hp => (hold p hp).1]
  exact List.filter_eq_self.2 fun p hp => by have := hold p hp; simpa using this.2.1
 have hc2 : compL x2 (idL (size x1)) = x2 := by
  rw [compL_one (f := fun p => p.New) fun p hp => nexts_id (hold p hp).2.2.1 (hold p hp).2.2.2]
  exact (List.map_congr_left fun p _ => rfl).trans (List.map_id _)
 rw [identity_eq x0 (by omega), Option.bind_some, compose_asc (by rw [hlen]; omega) (by omega) hc1 (by omega) hG.asc, Option.bind_some, same_refl x2 (by omega), Option.bind_some, if_pos rfl,
  identity_eq x1 (by omega), Option.bind_some, compose_asc (by omega) (by rw [hlen]; omega) hc2 (by omega) hG.asc, Option.bind_some, same_refl x2 (by omega), Option.bind_some, if_pos rfl]
 rfl
end Xr

