/- A part of the proof: Pl. No conditions of its own. -/
import Derived.Test.YtcpenhffpgajoaaT
set_option linter.unusedVariables false
set_option linter.unusedSimpArgs false
namespace Xr
open Go Go.Ev
mutual
def hsP (q : Node → ByteArray) : Node → List Int
 | ⟨k, t, g, ks⟩ => mixI (hsF q ks (mixI (IntKind.wrap .u64 k) (sumI (q ⟨k, t, g, ks⟩)))) (IntKind.wrap .u64 (ks.length : Int)) :: hsK q ks
def hsK (q : Node → ByteArray) : List Node → List Int
 | [] => []
 | n :: ks => hsP q n ++ hsK q ks
def hsF (q : Node → ByteArray) : List Node → Int → Int
 | [], d => d
 | n :: ks, d => hsF q ks (mixI d ((hsP q n).headD 0))
end
mutual
theorem hsP_len (q : Node → ByteArray) : ∀ n : Node, (hsP q n).length = size n
 | ⟨k, t, g, ks⟩ => by simp only [hsP, size, List.length_cons, hsK_len q ks]; omega
theorem hsK_len (q : Node → ByteArray) : ∀ l : List Node, (hsK q l).length = sizes l
 | [] => by simp only [hsK, sizes, List.length_nil]
 | n :: ks => by simp only [hsK, sizes, List.length_append, hsP_len q n, hsK_len q ks]
end
def bareQ (b : Bool) (n : Node) : ByteArray := if b then ByteArray.mk #[] else n.Text
theorem bareQ_size (b : Bool) (n : Node) : (bareQ b n).size ≤ n.Text.size := by
 unfold bareQ
 cases b
 ·exact Nat.le_refl _
 ·exact Nat.zero_le _
mutual
theorem hsO_eq {p : Node → Option ByteArray} {b : Bool} (hp : ∀ n, p n = some (bareQ b n)) : ∀ n : Node, weight n < 2 ^ 40 → hsO p n = some (hsP (bareQ b) n)
 | ⟨k, t, g, ks⟩, h => by
  have hw := weight_eq ⟨k, t, g, ks⟩
  simp only at hw
  have hq := bareQ_size b ⟨k, t, g, ks⟩
  simp only at hq
  simp only [hsO, hp, Option.bind_some, hsL_eq hp ks _ (show weights ks < 2 ^ 40 by omega), hsP, Option.map_some]
  rw [if_pos (by omega)]
theorem hsL_eq {p : Node → Option ByteArray} {b : Bool} (hp : ∀ n, p n = some (bareQ b n)) : ∀ (l : List Node) (d : Int), weights l < 2 ^ 40 → hsL p l d = some (hsF (bareQ b) l d, hsK (bareQ b) l)
 | [], d, h => by simp only [hsL, hsF, hsK]
 | n :: ks, d, h => by
  simp only [weights] at h
  simp only [hsL, hsF, hsK, hsO_eq hp n (by omega), Option.bind_some, hsL_eq hp ks _ (show weights ks < 2 ^ 40 by omega), Option.map_some]
end
theorem fill_eq {p : Node → Option ByteArray} {b : Bool} (hp : ∀ n, p n = some (bareQ b n)) {n : Node} (hs : size n < 2 ^ 30) (hw : weight n < 2 ^ 40) : (hash_fillS p ([] : List Int) n).bind (fun r => some r.1) = some (hsP (bareQ b) n) := by
 unfold hash_fillS
 rw [if_pos (by simpa using hs), hsO_eq hp n hw]
 rfl
theorem exact_eq {n : Node} (hs : size n < 2 ^ 30) (hw : weight n < 2 ^ 40) : hash_Exact n = some (hsP (bareQ false) n) := fill_eq (p := hash_Exact_c1) (b := false) (fun n => rfl) hs hw
theorem shape_eq {n : Node} (hs : size n < 2 ^ 30) (hw : weight n < 2 ^ 40) : hash_Shape n = some (hsP (bareQ true) n) := fill_eq (p := hash_Shape_c1) (b := true) (fun n => rfl) hs hw
theorem R18_Same_refl {l : List Int} (hl : l.length < 2 ^ 40) : R18_Same l l = some true := by
 unfold R18_Same
 rw [if_pos rfl]
 have := iter_to (step := R18_Same_L0 l l) (fun i => (i : Int)) l.length (fun i hi => by
  simp only [R18_Same_L0, rd_nat, List.getElem?_eq_getElem hi, Option.bind_some, if_true]
  rw [if_pos (by omega), w64_id (by omega) (by omega)]; rfl)
 rw [show ((0 : Nat) : Int) = 0 from rfl] at this
 rw [this, iter_jmp (n := 0) (s' := (l.length : Int)) (by simp only [R18_Same_L0]; rw [if_neg (by omega)])]
 rfl
theorem Light_ok {n : Node} {a b c : Int} (ha : 0 ≤ a) (ha2 : a < 2 ^ 30) (hb : 0 ≤ b) (hb2 : b < 2 ^ 30) (hc : 0 ≤ c) (hc2 : c < 2 ^ 30) : ∃ r, R06_Light n a b c = some r ∧ (r = true → (size n : Int) ≤ a ∧ (height n : Int) ≤ b ∧ (weight n : Int) ≤ c) := by
 unfold R06_Light R06_Fits R06_leftS
 rw [if_pos (by omega)]
 simp only [Option.bind_some]
 by_cases hf : (size n : Int) ≤ a ∧ (height n : Int) ≤ b
 ·have e : leftV n a b = a - size n := if_pos hf
  rw [e, if_pos (by simp only [decide_eq_true_eq]; omega)]
  unfold R06_weighS
  rw [if_pos (by omega)]
  simp only [Option.bind_some]
  refine ⟨_, rfl, fun h => ⟨hf.1, hf.2, ?_⟩⟩
  by_cases hw : (weight n : Int) ≤ c
  ·exact hw
  ·rw [if_neg hw] at h; simp at h
 ·have e : leftV n a b = -1 := if_neg hf
  rw [e, if_neg (by decide)]
  exact ⟨_, rfl, fun h => by cases h⟩
end Xr

set_option linter.unusedVariables false
set_option linter.unusedSimpArgs false
namespace Xr
open Go Go.Ev
def rowQ (b : Bool) (v : Row) : ByteArray := if b then ByteArray.mk #[] else v.Text
def rowH (b : Bool) (G : List Int) (v : Row) : Int := mixI (v.Kids.foldl (fun d k => mixI d (G.getD k.toNat 0)) (mixI (IntKind.wrap .u64 v.Kind) (sumI (rowQ b v)))) (IntKind.wrap .u64 (v.Kids.length : Int))
def InR (lo hi : Nat) (k : Int) : Prop := ∃ m : Nat, k = m ∧ lo < m ∧ m < hi
theorem fold_kids (q : Node → ByteArray) (G : List Int) : ∀ (ks : List Node) (pos : Nat) (d : Int), (∀ j, j < sizes ks → G[pos + j]? = (hsK q ks)[j]?) → (kidPos ks pos).foldl (fun d k => mixI d (G.getD k.toNat 0)) d = hsF q ks d
 | [], pos, d, h => by simp only [kidPos, hsF, List.foldl_nil]
 | n :: ks, pos, d, h => by
  have hp := size_pos n
  have hl := hsP_len q n
  have e0 : G.getD pos 0 = (hsP q n).headD 0 := by
   have h0 := h 0 (by simp only [sizes]; omega)
   simp only [hsK, Nat.add_zero] at h0
   rw [List.getElem?_append_left (by omega)] at h0
   rw [List.getD_eq_getElem?_getD, h0, List.headD_eq_head?_getD, List.head?_eq_getElem?]
  simp only [kidPos, List.foldl_cons, hsF, Int.toNat_natCast, e0]
  refine fold_kids q G ks (pos + size n) _ (fun j hj => ?_)
  have h1 := h (size n + j) (by simp only [sizes]; omega)
  simp only [hsK] at h1
  rw [List.getElem?_append_right (by omega), hl, Nat.add_sub_cancel_left] at h1
  rw [← h1, Nat.add_assoc]
theorem kidPos_in : ∀ (ks : List Node) (pos lo : Nat), lo < pos → ∀ k ∈ kidPos ks pos, InR lo (pos + sizes ks) k
 | [], pos, lo, h, k, hk => by simp [kidPos] at hk
 | n :: ks, pos, lo, h, k, hk => by
  have hp := size_pos n
  simp only [kidPos, List.mem_cons] at hk
  rcases hk with rfl | hk
  ·exact ⟨pos, rfl, h, by simp only [sizes]; omega⟩
  ·obtain ⟨m, rfl, h1, h2⟩ := kidPos_in ks (pos + size n) lo (by omega) k hk
   exact ⟨m, rfl, h1, by simp only [sizes]; omega⟩
mutual
theorem row_ok (b : Bool) (G : List Int) : ∀ (n : Node) (pos : Nat) (par : Int), (∀ j, j < size n → G[pos + j]? = (hsP (bareQ b) n)[j]?) → ∀ j v, (tab n pos par)[j]? = some v → G[pos + j]? = some (rowH b G v) ∧ ∀ k ∈ v.Kids, InR (pos + j) (pos + size n) k
 | ⟨k, t, g, ks⟩, pos, par, h, j, v, hv => by
  simp only [size] at h
  have hK : ∀ j, j < sizes ks → G[pos + 1 + j]? = (hsK (bareQ b) ks)[j]? := fun j hj => by
   have := h (j + 1) (by omega)
   simp only [hsP, List.getElem?_cons_succ] at this
   rw [← this, show pos + 1 + j = pos + (j + 1) by omega]
  simp only [tab] at hv
  cases j with
  | zero =>
   simp only [List.getElem?_cons_zero, Option.some.injEq] at hv
   subst hv
   constructor
   ·have h0 := h 0 (by omega)
    simp only [hsP, List.getElem?_cons_zero] at h0
    rw [h0]
    unfold rowH
    simp only [fold_kids (bareQ b) G ks (pos + 1) _ hK, kidPos_len]
    rfl
   ·intro k hk
    obtain ⟨m, e, h1, h2⟩ := kidPos_in ks (pos + 1) pos (by omega) k hk
    exact ⟨m, e, by omega, by simp only [size]; omega⟩
  | succ j =>
   simp only [List.getElem?_cons_succ] at hv
   obtain ⟨h1, h2⟩ := rows_ok b G ks (pos + 1) pos hK j v hv
   refine ⟨by rw [show pos + (j + 1) = pos + 1 + j by omega]; exact h1, fun k hk => ?_⟩
   obtain ⟨m, e, h3, h4⟩ := h2 k hk
   exact ⟨m, e, by omega, by simp only [size]; omega⟩
theorem rows_ok (b : Bool) (G : List Int) : ∀ (l : List Node) (pos : Nat) (par : Int), (∀ j, j < sizes l → G[pos + j]? = (hsK (bareQ b) l)[j]?) → ∀ j v, (tabs l pos par)[j]? = some v → G[pos + j]? = some (rowH b G v) ∧ ∀ k ∈ v.Kids, InR (pos + j) (pos + sizes l) k
 | [], pos, par, h, j, v, hv => by simp [tabs] at hv
 | n :: ks, pos, par, h, j, v, hv => by
  have hl := hsP_len (bareQ b) n
  simp only [tabs] at hv
  simp only [sizes, hsK] at h
  by_cases hj : j < size n
  ·rw [List.getElem?_append_left (by rw [tab_len]; exact hj)] at hv
   obtain ⟨h1, h2⟩ := row_ok b G n pos par (fun j hj => by
    have := h j (by omega)
    rwa [List.getElem?_append_left (by omega)] at this) j v hv
   refine ⟨h1, fun k hk => ?_⟩
   obtain ⟨m, e, h3, h4⟩ := h2 k hk
   exact ⟨m, e, h3, by simp only [sizes]; omega⟩
  ·rw [List.getElem?_append_right (by rw [tab_len]; omega), tab_len] at hv
   obtain ⟨h1, h2⟩ := rows_ok b G ks (pos + size n) par (fun j hj => by
    have := h (size n + j) (by omega)
    rw [List.getElem?_append_right (by omega), hl, Nat.add_sub_cancel_left] at this
    rw [← this, Nat.add_assoc]) (j - size n) v hv
   have e0 : pos + size n + (j - size n) = pos + j := by omega
   rw [e0] at h1 h2
   refine ⟨h1, fun k hk => ?_⟩
   obtain ⟨m, e, h3, h4⟩ := h2 k hk
   exact ⟨m, e, h3, by simp only [sizes]; omega⟩
end
def outI (H : List Int) (i : Nat) : List Int := List.replicate i 0 ++ H.drop i
theorem outI_len {H : List Int} {i : Nat} (h : i ≤ H.length) : (outI H i).length = H.length := by
 unfold outI
 rw [List.length_append, List.length_replicate, List.length_drop]; omega
theorem outI_get {H : List Int} {i k : Nat} (h : i ≤ k) : (outI H i)[k]? = H[k]? := by
 unfold outI
 rw [List.getElem?_append_right (by rw [List.length_replicate]; exact h), List.length_replicate, List.getElem?_drop, show i + (k - i) = k by omega]
theorem outI_set {H : List Int} {i : Nat} {x : Int} (h : H[i]? = some x) : (outI H (i + 1)).set i x = outI H i := by
 have hi := (List.getElem?_eq_some_iff.1 h).1
 apply List.ext_getElem?
 intro k
 by_cases hk : i = k
 ·subst hk
  rw [List.getElem?_set_self (by rw [outI_len (by omega)]; exact hi), outI_get (Nat.le_refl _), h]
 ·rw [List.getElem?_set_ne hk]
  by_cases h2 : i < k
  ·rw [outI_get (by omega), outI_get (by omega)]
  ·unfold outI
   rw [List.getElem?_append_left (by rw [List.length_replicate]; omega), List.getElem?_append_left (by rw [List.length_replicate]; omega), List.getElem?_replicate_of_lt (by omega), List.getElem?_replicate_of_lt (by omega)]
theorem hashes_kids {rows : List Row} {b : Bool} {i : Nat} {v : Row} {y : List Int} (hv : rows[i]? = some v) (hl : v.Kids.length < 2 ^ 40) (hk : ∀ k ∈ v.Kids, InR i y.length k) :
  ∀ (l : List Int) (j : Nat) (d : Int), v.Kids.drop j = l → j ≤ v.Kids.length → iter (R18_hashes_L2 rows b (i : Int) y) (d, (j : Int)) = some (.jmp 4 (l.foldl (fun d k => mixI d (y.getD k.toNat 0)) d, (v.Kids.length : Int)))
 | [], j, d, h, hj => by
  obtain rfl := drop_nil h hj
  apply iter_jmp
  simp only [R18_hashes_L2, rd_nat, hv, Option.bind_some]
  rw [if_neg (by omega)]; rfl
 | k :: l, j, d, h, hj => by
  obtain ⟨hc, h', hj'⟩ := drop_cons h
  obtain ⟨m, rfl, h1, h2⟩ := hk k (List.mem_of_getElem? hc)
  have hg : y[m]? = some (y.getD m 0) := by rw [List.getD_eq_getElem?_getD, List.getElem?_eq_getElem h2]; rfl
  have hs : R18_hashes_L2 rows b (i : Int) y (d, (j : Int)) = some (.next (mixI d (y.getD m 0), ((j + 1 : Nat) : Int))) := by
   simp only [R18_hashes_L2, rd_nat, hv, Option.bind_some, hc, hg, R02_Mix_eq]
   rw [if_pos (by omega), w64_id (x := (j : Int) + 1) (by omega) (by omega)]; rfl
  rw [iter_next hs, hashes_kids hv hl hk l (j + 1) _ h' (by omega)]
  rfl
theorem foldl_same {f g : Int → Int → Int} : ∀ (l : List Int) (d : Int), (∀ d k, k ∈ l → f d k = g d k) → l.foldl f d = l.foldl g d
 | [], d, h => rfl
 | k :: l, d, h => by
  simp only [List.foldl_cons]
  rw [h d k (by simp)]
  exact foldl_same l _ (fun d k' hk => h d k' (by simp [hk]))
theorem hashes_it {rows : List Row} {b : Bool} {H : List Int} (hn : rows.length < 2 ^ 40) (hH : H.length = rows.length) (hr : ∀ i v, rows[i]? = some v → H[i]? = some (rowH b H v) ∧ (∀ k ∈ v.Kids, InR i rows.length k) ∧ v.Kids.length < 2 ^ 40 ∧ (rowQ b v).size < 2 ^ 40) :
  ∀ i : Nat, i ≤ rows.length → iter (R18_hashes_L1 rows b) ((i : Int) - 1, outI H i) = some (.jmp 2 ((-1 : Int), H))
 | 0, h => by
  have : outI H 0 = H := by simp [outI]
  rw [this]
  apply iter_jmp
  show R18_hashes_L1 rows b (-1, H) = _
  simp only [R18_hashes_L1]
  rw [if_neg (by omega)]
 | i + 1, h => by
  obtain ⟨v, hv⟩ : ∃ v, rows[i]? = some v := ⟨_, List.getElem?_eq_getElem (by omega)⟩
  obtain ⟨h1, h2, h3, h4⟩ := hr i v hv
  have hlen : (outI H (i + 1)).length = H.length := outI_len (by omega)
  have hk2 := hashes_kids (b := b) (y := outI H (i + 1)) hv h3 (by rw [hlen, hH]; exact h2) v.Kids 0
  have hf : v.Kids.foldl (fun d k => mixI d ((outI H (i + 1)).getD k.toNat 0)) (mixI (IntKind.wrap .u64 v.Kind) (sumI (rowQ b v))) = v.Kids.foldl (fun d k => mixI d (H.getD k.toNat 0)) (mixI (IntKind.wrap .u64 v.Kind) (sumI (rowQ b v))) := by
   apply foldl_same
   intro d k hk
   obtain ⟨m, rfl, h5, h6⟩ := h2 k hk
   simp only [Int.toNat_natCast, List.getD_eq_getElem?_getD]
   rw [outI_get (by omega)]
  have hy : ∃ z, (outI H (i + 1))[i]? = some z := ⟨_, List.getElem?_eq_getElem (by omega)⟩
  obtain ⟨z, hz⟩ := hy
  have hs : R18_hashes_L1 rows b ((((i + 1 : Nat) : Int) - 1), outI H (i + 1)) = some (.next ((i : Int) - 1, outI H i)) := by
   have ei : (((i + 1 : Nat) : Int) - 1) = (i : Int) := by omega
   rw [ei]
   have e0 : ((0 : Nat) : Int) = 0 := rfl
   rw [e0] at hk2
   simp only [R18_hashes_L1, rd_nat, hv, Option.bind_some]
   rw [if_pos (by omega)]
   cases b with
   | true =>
    simp only [if_true, R02_Sum_eq (show (ByteArray.mk #[]).size < 2 ^ 40 by decide), R02_Mix_eq, Option.bind_some, hk2 _ rfl (Nat.zero_le _), hz, Int.toNat_natCast]
    rw [w64_id (by omega) (by omega)]
    have e1 : rowQ true v = ByteArray.mk #[] := rfl
    rw [e1] at hf
    rw [hf]
    have := outI_set h1
    unfold rowH at this
    rw [e1] at this
    rw [this]
   | false =>
    have e1 : rowQ false v = v.Text := rfl
    rw [e1] at h4
    simp only [Bool.false_eq_true, if_false, R02_Sum_eq h4, R02_Mix_eq, Option.bind_some, hk2 _ rfl (Nat.zero_le _), hz, Int.toNat_natCast]
    rw [w64_id (by omega) (by omega)]
    rw [e1] at hf
    rw [hf]
    have := outI_set h1
    unfold rowH at this
    rw [e1] at this
    rw [this]
  rw [iter_next hs]
  exact hashes_it hn hH hr i (by omega)
theorem R18_hashes_eq {rows : List Row} {b : Bool} {H : List Int} (hn : rows.length < 2 ^ 40) (hH : H.length = rows.length) (hr : ∀ i v, rows[i]? = some v → H[i]? = some (rowH b H v) ∧ (∀ k ∈ v.Kids, InR i rows.length k) ∧ v.Kids.length < 2 ^ 40 ∧ (rowQ b v).size < 2 ^ 40) : R18_hashes rows b = some H := by
 unfold R18_hashes
 have h0 : iter (R18_hashes_L0 rows b) ((0 : Int), ([] : List Int)) = some (.jmp 0 ((rows.length : Int), outI H rows.length)) := by
  have := iter_to (step := R18_hashes_L0 rows b) (fun i => ((i : Int), List.replicate i (0 : Int))) rows.length (fun i hi => by
   simp only [R18_hashes_L0, List.length_replicate]
   rw [if_pos (by omega), if_pos (by omega), w64_id (by omega) (by omega), List.replicate_succ']; rfl)
  have e0 : (((0 : Nat) : Int), List.replicate 0 (0 : Int)) = ((0 : Int), ([] : List Int)) := rfl
  rw [e0] at this
  rw [this]
  have e1 : outI H rows.length = List.replicate rows.length 0 := by
   unfold outI
   rw [← hH, List.drop_length, List.append_nil]
  rw [e1]
  apply iter_jmp
  simp only [R18_hashes_L0]
  rw [if_neg (by omega)]
 rw [h0]
 simp only [Option.bind_some]
 rw [w64_id (by omega) (by omega), hashes_it hn hH hr rows.length (Nat.le_refl _)]
 rfl
mutual
theorem tab_small : ∀ (n : Node) (pos : Nat) (par : Int) (i : Nat) (v : Row), (tab n pos par)[i]? = some v → v.Kids.length ≤ size n ∧ v.Text.size ≤ weight n
 | ⟨k, t, g, ks⟩, pos, par, i, v, h => by
  have hl := sizes_len ks
  simp only [tab] at h
  simp only [size, weight]
  cases i with
  | zero =>
   simp only [List.getElem?_cons_zero, Option.some.injEq] at h
   subst h
   simp only [kidPos_len]; omega
  | succ i =>
   simp only [List.getElem?_cons_succ] at h
   have := tabs_small ks (pos + 1) pos i v h
   omega
theorem tabs_small : ∀ (l : List Node) (pos : Nat) (par : Int) (i : Nat) (v : Row), (tabs l pos par)[i]? = some v → v.Kids.length ≤ sizes l ∧ v.Text.size ≤ weights l
 | [], pos, par, i, v, h => by simp [tabs] at h
 | n :: ks, pos, par, i, v, h => by
  simp only [tabs] at h
  simp only [sizes, weights]
  by_cases hi : i < (tab n pos par).length
  ·rw [List.getElem?_append_left hi] at h
   have := tab_small n pos par i v h
   omega
  ·rw [List.getElem?_append_right (by omega)] at h
   have := tabs_small ks (pos + size n) par _ v h
   omega
end
theorem R06_Rows_eq {n : Node} (h : size n < 2 ^ 30) : R06_Rows n = some (tab n 0 (-1)) := by
 unfold R06_Rows R06_rowsS
 rw [if_pos (by simpa using h)]
 rfl
theorem R18_of {n : Node} (hs : size n < 2 ^ 30) (hw : weight n < 2 ^ 40) (b : Bool) : R18_hashes (tab n 0 (-1)) b = some (hsP (bareQ b) n) := by
 refine R18_hashes_eq (by rw [tab_len]; omega) (by rw [tab_len, hsP_len]) (fun i v hv => ?_)
 obtain ⟨h1, h2⟩ := row_ok b (hsP (bareQ b) n) n 0 (-1) (fun j hj => by rw [Nat.zero_add]) i v hv
 have h3 := tab_small n 0 (-1) i v hv
 rw [Nat.zero_add] at h1
 refine ⟨h1, fun k hk => ?_, by omega, ?_⟩
 ·obtain ⟨m, e, h5, h6⟩ := h2 k hk
  exact ⟨m, e, by omega, by rw [tab_len]; omega⟩
 ·unfold rowQ
  cases b
  ·exact Nat.lt_of_le_of_lt h3.2 hw
  ·show (ByteArray.mk #[]).size < 2 ^ 40
   decide
theorem R18_Exact_eq {n : Node} (hs : size n < 2 ^ 30) (hw : weight n < 2 ^ 40) : R18_Exact n = some (hsP (bareQ false) n) := by
 unfold R18_Exact
 simp only [R06_Rows_eq hs, Option.bind_some, R18_of hs hw]
theorem R18_Shape_eq {n : Node} (hs : size n < 2 ^ 30) (hw : weight n < 2 ^ 40) : R18_Shape n = some (hsP (bareQ true) n) := by
 unfold R18_Shape
 simp only [R06_Rows_eq hs, Option.bind_some, R18_of hs hw]
theorem plain_hashes (x0 : Node) (w0 : Wf_Node x0) : law18_HashHashes x0 = some true := by
 unfold law18_HashHashes
 obtain ⟨r, e, hr⟩ := Light_ok (n := x0) (a := 200) (b := 60) (c := 8000) (by omega) (by omega) (by omega) (by omega) (by omega) (by omega)
 rw [e]
 simp only [Option.bind_some, law18_awake]
 cases r with
 | false => rfl
 | true =>
  obtain ⟨h1, h2, h3⟩ := hr rfl
  have hl1 := hsP_len (bareQ false) x0
  have hl2 := hsP_len (bareQ true) x0
  simp only [if_true, exact_eq (show size x0 < 2 ^ 30 by omega) (show weight x0 < 2 ^ 40 by omega), shape_eq (show size x0 < 2 ^ 30 by omega) (show weight x0 < 2 ^ 40 by omega), R18_Exact_eq (show size x0 < 2 ^ 30 by omega) (show weight x0 < 2 ^ 40 by omega), R18_Shape_eq (show size x0 < 2 ^ 30 by omega) (show weight x0 < 2 ^ 40 by omega), Option.bind_some,
   R18_Same_refl (show (hsP (bareQ false) x0).length < 2 ^ 40 by omega), R18_Same_refl (show (hsP (bareQ true) x0).length < 2 ^ 40 by omega)]
end Xr

