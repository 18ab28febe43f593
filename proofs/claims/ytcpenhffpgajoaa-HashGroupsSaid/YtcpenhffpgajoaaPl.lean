/- A part of the proof: Pl. No conditions of its own. -/
import Derived.Test.YtcpenhffpgajoaaT
set_option linter.unusedVariables false
set_option linter.unusedSimpArgs false
namespace Xr
open Go Go.Ev
mutual
def hsP (q : Node → ByteArray) : Node → List Int
 | ⟨k, t, g, ks⟩ => mixI (hsF q ks (mixI (IntKind.wrap .u64 k) (sumI (q ⟨k, t, g, ks⟩)))) (IntKind.wrap .u64 (ks.length : Int)) :: hsK q ks
def hsK (q : Node → ByteArray) : List Node → List Int
 | [] => []
 | n :: ks => hsP q n ++ hsK q ks
def hsF (q : Node → ByteArray) : List Node → Int → Int
 | [], d => d
 | n :: ks, d => hsF q ks (mixI d ((hsP q n).headD 0))
end
mutual
theorem hsP_len (q : Node → ByteArray) : ∀ n : Node, (hsP q n).length = size n
 | ⟨k, t, g, ks⟩ => by simp only [hsP, size, List.length_cons, hsK_len q ks]; omega
theorem hsK_len (q : Node → ByteArray) : ∀ l : List Node, (hsK q l).length = sizes l
 | [] => by simp only [hsK, sizes, List.length_nil]
 | n :: ks => by simp only [hsK, sizes, List.length_append, hsP_len q n, hsK_len q ks]
end
def bareQ (b : Bool) (n : Node) : ByteArray := if b then ByteArray.mk #[] else n.Text
theorem bareQ_size (b : Bool) (n : Node) : (bareQ b n).size ≤ n.Text.size := by
 unfold bareQ
 cases b
 ·exact Nat.le_refl _
 ·exact Nat.zero_le _
mutual
theorem hsO_eq {p : Node → Option ByteArray} {b : Bool} (hp : ∀ n, p n = some (bareQ b n)) : ∀ n : Node, weight n < 2 ^ 40 → hsO p n = some (hsP (bareQ b) n)
 | ⟨k, t, g, ks⟩, h => by
  have hw := weight_eq ⟨k, t, g, ks⟩
  simp only at hw
  have hq := bareQ_size b ⟨k, t, g, ks⟩
  simp only at hq
  simp only [hsO, hp, Option.bind_some, hsL_eq hp ks _ (show weights ks < 2 ^ 40 by omega), hsP, Option.map_some]
  rw [if_pos (by omega)]
theorem hsL_eq {p : Node → Option ByteArray} {b : Bool} (hp : ∀ n, p n = some (bareQ b n)) : ∀ (l : List Node) (d : Int), weights l < 2 ^ 40 → hsL p l d = some (hsF (bareQ b) l d, hsK (bareQ b) l)
 | [], d, h => by simp only [hsL, hsF, hsK]
 | n :: ks, d, h => by
  simp only [weights] at h
  simp only [hsL, hsF, hsK, hsO_eq hp n (by omega), Option.bind_some, hsL_eq hp ks _ (show weights ks < 2 ^ 40 by omega), Option.map_some]
end
theorem fill_eq {p : Node → Option ByteArray} {b : Bool} (hp : ∀ n, p n = some (bareQ b n)) {n : Node} (hs : size n < 2 ^ 30) (hw : weight n < 2 ^ 40) : (hash_fillS p ([] : List Int) n).bind (fun r => some r.1) = some (hsP (bareQ b) n) := by
 unfold hash_fillS
 rw [if_pos (by simpa using hs), hsO_eq hp n hw]
 rfl
theorem exact_eq {n : Node} (hs : size n < 2 ^ 30) (hw : weight n < 2 ^ 40) : hash_Exact n = some (hsP (bareQ false) n) := fill_eq (p := hash_Exact_c1) (b := false) (fun n => rfl) hs hw
theorem Light_ok {n : Node} {a b c : Int} (ha : 0 ≤ a) (ha2 : a < 2 ^ 30) (hb : 0 ≤ b) (hb2 : b < 2 ^ 30) (hc : 0 ≤ c) (hc2 : c < 2 ^ 30) : ∃ r, R06_Light n a b c = some r ∧ (r = true → (size n : Int) ≤ a ∧ (height n : Int) ≤ b ∧ (weight n : Int) ≤ c) := by
 unfold R06_Light R06_Fits R06_leftS
 rw [if_pos (by omega)]
 simp only [Option.bind_some]
 by_cases hf : (size n : Int) ≤ a ∧ (height n : Int) ≤ b
 ·have e : leftV n a b = a - size n := if_pos hf
  rw [e, if_pos (by simp only [decide_eq_true_eq]; omega)]
  unfold R06_weighS
  rw [if_pos (by omega)]
  simp only [Option.bind_some]
  refine ⟨_, rfl, fun h => ⟨hf.1, hf.2, ?_⟩⟩
  by_cases hw : (weight n : Int) ≤ c
  ·exact hw
  ·rw [if_neg hw] at h; simp at h
 ·have e : leftV n a b = -1 := if_neg hf
  rw [e, if_neg (by decide)]
  exact ⟨_, rfl, fun h => by cases h⟩
end Xr

set_option linter.unusedVariables false
set_option linter.unusedSimpArgs false
namespace Xr
open Go Go.Ev
structure Eqv (s : Nat → Nat → Bool) : Prop where
 refl : ∀ a, s a a = true
 symm : ∀ a b, s a b = true → s b a = true
 trans : ∀ a b c, s a b = true → s b c = true → s a c = true
def isFst (s : Nat → Nat → Bool) (f : Nat) : Bool := (List.range f).all fun j => !s j f
def fsts (s : Nat → Nat → Bool) (i : Nat) : List Nat := (List.range i).filter (isFst s)
def cls (s : Nat → Nat → Bool) (i f : Nat) : List Int := ((List.range i).filter (s f)).map fun (k : Nat) => (k : Int)
theorem isFst_iff {s : Nat → Nat → Bool} {f : Nat} : isFst s f = true ↔ ∀ j, j < f → s j f = false := by
 unfold isFst
 rw [List.all_eq_true]
 constructor
 ·intro h j hj
  have := h j (List.mem_range.2 hj)
  simpa using this
 ·intro h j hj
  rw [h j (List.mem_range.1 hj)]; rfl
theorem exists_fst {s : Nat → Nat → Bool} (hs : Eqv s) : ∀ (n i : Nat), i ≤ n → ∃ f, f ≤ i ∧ isFst s f = true ∧ s f i = true
 | 0, i, h => by
  obtain rfl : i = 0 := by omega
  exact ⟨0, Nat.le_refl _, rfl, hs.refl 0⟩
 | n + 1, i, h => by
  by_cases hf : isFst s i = true
  ·exact ⟨i, Nat.le_refl _, hf, hs.refl i⟩
  ·have : ∃ j, j < i ∧ s j i = true := by
    apply Classical.byContradiction
    intro hn
    apply hf
    rw [isFst_iff]
    intro j hj
    cases hb : s j i with
    | false => rfl
    | true => exact absurd ⟨j, hj, hb⟩ hn
   obtain ⟨j, hj, hb⟩ := this
   obtain ⟨f, h1, h2, h3⟩ := exists_fst hs n j (by omega)
   exact ⟨f, by omega, h2, hs.trans _ _ _ h3 hb⟩
theorem fst_unique {s : Nat → Nat → Bool} (hs : Eqv s) {f g i : Nat} (hf : isFst s f = true) (hg : isFst s g = true) (h1 : s f i = true) (h2 : s g i = true) : f = g := by
 have h3 : s f g = true := hs.trans _ _ _ h1 (hs.symm _ _ h2)
 rcases Nat.lt_trichotomy f g with h | h | h
 ·have := isFst_iff.1 hg f h
  rw [h3] at this; cases this
 ·exact h
 ·have := isFst_iff.1 hf g h
  rw [hs.symm _ _ h3] at this; cases this
theorem fsts_mem {s : Nat → Nat → Bool} {i f : Nat} : f ∈ fsts s i ↔ f < i ∧ isFst s f = true := by
 unfold fsts
 rw [List.mem_filter, List.mem_range]
theorem fsts_succ (s : Nat → Nat → Bool) (i : Nat) : fsts s (i + 1) = fsts s i ++ if isFst s i = true then [i] else [] := by
 unfold fsts
 rw [List.range_succ, List.filter_append]
 congr 1
 cases h : isFst s i <;> simp [h]
theorem cls_succ (s : Nat → Nat → Bool) (i f : Nat) : cls s (i + 1) f = cls s i f ++ if s f i = true then [(i : Int)] else [] := by
 unfold cls
 rw [List.range_succ, List.filter_append, List.map_append]
 congr 1
 cases h : s f i <;> simp [h]
def from_ (s : Nat → Nat → Bool) (f d : Nat) : List Int := (((List.range d).map (f + ·)).filter (s f)).map fun (k : Nat) => (k : Int)
theorem cls_from {s : Nat → Nat → Bool} (hs : Eqv s) {f d : Nat} (hf : isFst s f = true) : cls s (f + d) f = from_ s f d := by
 unfold cls from_
 rw [List.range_add, List.filter_append]
 have : (List.range f).filter (s f) = [] := by
  rw [List.filter_eq_nil_iff]
  intro k hk
  have h1 := isFst_iff.1 hf k (List.mem_range.1 hk)
  intro h2
  rw [hs.symm _ _ h2] at h1; cases h1
 rw [this, List.nil_append]
theorem cls_head {s : Nat → Nat → Bool} (hs : Eqv s) {f i : Nat} (hf : isFst s f = true) (hi : f < i) : ∃ l, cls s i f = (f : Int) :: l := by
 obtain ⟨d, rfl⟩ : ∃ d, i = f + (d + 1) := ⟨i - f - 1, by omega⟩
 rw [cls_from hs hf]
 unfold from_
 rw [List.range_succ_eq_map]
 simp only [List.map_cons, Nat.add_zero, List.filter_cons, hs.refl f, if_true]
 exact ⟨_, rfl⟩
theorem cls_nil {s : Nat → Nat → Bool} (hs : Eqv s) {i : Nat} (hf : isFst s i = true) : cls s i i = [] := by
 have := cls_from hs (d := 0) hf
 rw [Nat.add_zero] at this
 rw [this]; rfl
theorem fsts_nodup (s : Nat → Nat → Bool) (i : Nat) : (fsts s i).Nodup := List.Nodup.sublist List.filter_sublist List.nodup_range
theorem cls_len (s : Nat → Nat → Bool) (i f : Nat) : (cls s i f).length ≤ i := by
 unfold cls
 rw [List.length_map]
 refine Nat.le_trans (List.length_filter_le _ _) ?_
 rw [List.length_range]; exact Nat.le_refl _
open Classical in
theorem grps_eq {L : List Node} {hs : List Int} {N : Nat} {s : Nat → Nat → Bool} (hE : Eqv s) (hS : ∀ a b : Nat, s a b = true ↔ barV (nodeL L a) = barV (nodeL L b)) (hh : ∀ a b, a < N → b < N → s a b = true → hs.getD a 0 = hs.getD b 0) : ∀ i, i ≤ N → grps L hs i = (fsts s i).map (cls s i)
 | 0, _ => rfl
 | i + 1, hi => by
  have hP : ∀ f, f ∈ fsts s i → grpP L hs i (cls s i f) = s f i := by
   intro f hf
   obtain ⟨h1, h2⟩ := fsts_mem.1 hf
   obtain ⟨l, e⟩ := cls_head hE h2 h1
   unfold grpP
   rw [e, List.headD_cons, Int.toNat_natCast]
   rw [Bool.eq_iff_iff, Bool.and_eq_true, decide_eq_true_iff, decide_eq_true_iff, hS f i]
   exact ⟨fun h => h.2, fun h => ⟨hh f i (by omega) (by omega) ((hS f i).2 h), h⟩⟩
  have hget : ∀ q, q < (fsts s i).length → ((fsts s i).map (cls s i)).getD q [] = cls s i ((fsts s i).getD q 0) := by
   intro q hq
   rw [List.getD_eq_getElem?_getD, List.getElem?_map, List.getElem?_eq_getElem hq, List.getD_eq_getElem?_getD, List.getElem?_eq_getElem hq]
   rfl
  have hgm : ∀ q, q < (fsts s i).length → (fsts s i).getD q 0 ∈ fsts s i := by
   intro q hq
   rw [List.getD_eq_getElem?_getD, List.getElem?_eq_getElem hq]
   exact List.getElem_mem hq
  simp only [grps, grpStep]
  rw [grps_eq hE hS hh i (by omega)]
  split
  ·rename_i q hq
   have hlt : q < (fsts s i).length := by
    have := List.mem_range.1 (List.mem_of_find?_eq_some hq)
    simpa using this
   have hsq := List.find?_some hq
   rw [hget q hlt, hP _ (hgm q hlt)] at hsq
   obtain ⟨m1, m2⟩ := fsts_mem.1 (hgm q hlt)
   have hnf : ¬ isFst s i = true := by
    intro h
    have := isFst_iff.1 h _ m1
    rw [hsq] at this; cases this
   rw [fsts_succ, if_neg hnf, List.append_nil, hget q hlt]
   apply List.ext_getElem?
   intro k
   rw [List.getElem?_map]
   by_cases hk : q = k
   ·subst hk
    rw [List.getElem?_set_self (by simpa using hlt), List.getElem?_eq_getElem hlt]
    simp only [Option.map_some]
    rw [cls_succ]
    have e : (fsts s i).getD q 0 = (fsts s i)[q] := by rw [List.getD_eq_getElem?_getD, List.getElem?_eq_getElem hlt]; rfl
    rw [e] at hsq ⊢
    rw [if_pos hsq]
   ·rw [List.getElem?_set_ne hk, List.getElem?_map]
    cases hf : (fsts s i)[k]? with
    | none => rfl
    | some f =>
     simp only [Option.map_some]
     have hfm : f ∈ fsts s i := List.mem_of_getElem? hf
     have hff : ¬ s f i = true := by
      intro h
      have e := fst_unique hE (fsts_mem.1 hfm).2 m2 h hsq
      have e3 : (fsts s i)[q]? = some f := by
       rw [e, List.getD_eq_getElem?_getD, List.getElem?_eq_getElem hlt]; rfl
      exact hk ((List.getElem?_inj hlt (fsts_nodup s i)).1 (e3.trans hf.symm))
     rw [cls_succ, if_neg hff, List.append_nil]
  ·rename_i hq
   rw [List.find?_eq_none] at hq
   have hno : ∀ f, f ∈ fsts s i → ¬ s f i = true := by
    intro f hf h
    obtain ⟨q, e⟩ := List.mem_iff_getElem?.1 hf
    have hlt := (List.getElem?_eq_some_iff.1 e).1
    have e2 : (fsts s i).getD q 0 = f := by rw [List.getD_eq_getElem?_getD, e]; rfl
    refine hq q (List.mem_range.2 (by simpa using hlt)) ?_
    rw [hget q hlt, hP _ (hgm q hlt), e2]
    exact h
   have hi1 : isFst s i = true := by
    obtain ⟨f, h1, h2, h3⟩ := exists_fst hE i i (Nat.le_refl _)
    by_cases e : f = i
    ·rw [← e]; exact h2
    ·exact absurd h3 (hno f (fsts_mem.2 ⟨by omega, h2⟩))
   rw [fsts_succ, if_pos hi1, List.map_append]
   congr 1
   ·apply List.map_congr_left
    intro f hf
    rw [cls_succ, if_neg (hno f hf), List.append_nil]
   ·simp only [List.map_cons, List.map_nil]
    rw [cls_succ, cls_nil hE hi1, if_pos (hE.refl i)]
    rfl
open Classical in
noncomputable def sOf (L : List Node) (a b : Nat) : Bool := decide (barV (nodeL L a) = barV (nodeL L b))
open Classical in
theorem sOf_iff {L : List Node} {a b : Nat} : sOf L a b = true ↔ barV (nodeL L a) = barV (nodeL L b) := by
 unfold sOf
 exact decide_eq_true_iff
theorem sOf_eqv (L : List Node) : Eqv (sOf L) :=
 ⟨fun a => sOf_iff.2 rfl, fun a b h => sOf_iff.2 (sOf_iff.1 h).symm, fun a b c h1 h2 => sOf_iff.2 ((sOf_iff.1 h1).trans (sOf_iff.1 h2))⟩
mutual
theorem hsP_bar (b : Bool) : ∀ n : Node, hsP (bareQ b) (barV n) = hsP (bareQ b) n
 | ⟨k, t, g, ks⟩ => by
  simp only [barV, hsP, hsF_bar b ks, hsK_bar b ks]
  rw [barVs_map, List.length_map]
  rfl
theorem hsK_bar (b : Bool) : ∀ l : List Node, hsK (bareQ b) (barVs l) = hsK (bareQ b) l
 | [] => by simp only [barVs]
 | n :: ks => by simp only [barVs, hsK, hsP_bar b n, hsK_bar b ks]
theorem hsF_bar (b : Bool) : ∀ (l : List Node) (d : Int), hsF (bareQ b) (barVs l) d = hsF (bareQ b) l d
 | [], d => by simp only [barVs]
 | n :: ks, d => by simp only [barVs, hsF, hsP_bar b n, hsF_bar b ks]
end
mutual
theorem hsP_sub (q : Node → ByteArray) : ∀ (n : Node) (i : Nat) (v : Node), (subs n)[i]? = some v → (hsP q n)[i]? = (hsP q v)[0]?
 | ⟨k, t, g, ks⟩, i, v, h => by
  simp only [subs] at h
  cases i with
  | zero =>
   simp only [List.getElem?_cons_zero, Option.some.injEq] at h
   subst h; rfl
  | succ i =>
   simp only [List.getElem?_cons_succ] at h
   have := hsK_sub q ks i v h
   simp only [hsP, List.getElem?_cons_succ]
   exact this
theorem hsK_sub (q : Node → ByteArray) : ∀ (l : List Node) (i : Nat) (v : Node), (subss l)[i]? = some v → (hsK q l)[i]? = (hsP q v)[0]?
 | [], i, v, h => by simp [subss] at h
 | n :: ks, i, v, h => by
  simp only [subss] at h
  simp only [hsK]
  by_cases hi : i < (subs n).length
  ·rw [List.getElem?_append_left hi] at h
   rw [List.getElem?_append_left (by rw [hsP_len, ← subs_len]; exact hi)]
   exact hsP_sub q n i v h
  ·rw [List.getElem?_append_right (by omega)] at h
   rw [List.getElem?_append_right (by rw [hsP_len, ← subs_len]; omega), hsP_len, ← subs_len]
   exact hsK_sub q ks _ v h
end
theorem nodeL_get {L : List Node} {a : Nat} {v : Node} (h : L[a]? = some v) : nodeL L (a : Int) = v := by
 unfold nodeL
 rw [Int.toNat_natCast, List.getD_eq_getElem?_getD, h]; rfl
theorem same_hash {n : Node} {a b : Nat} (ha : a < size n) (hb : b < size n) (h : sOf (subs n) a b = true) : (hsP (bareQ false) n).getD a 0 = (hsP (bareQ false) n).getD b 0 := by
 obtain ⟨x, hx⟩ : ∃ x, (subs n)[a]? = some x := ⟨_, List.getElem?_eq_getElem (by rw [subs_len]; exact ha)⟩
 obtain ⟨y, hy⟩ : ∃ y, (subs n)[b]? = some y := ⟨_, List.getElem?_eq_getElem (by rw [subs_len]; exact hb)⟩
 have e : barV x = barV y := by
  have := sOf_iff.1 h
  rwa [nodeL_get hx, nodeL_get hy] at this
 rw [List.getD_eq_getElem?_getD, List.getD_eq_getElem?_getD, hsP_sub _ n a x hx, hsP_sub _ n b y hy, ← hsP_bar, e, hsP_bar]
def grpsOf (s : Nat → Nat → Bool) (N : Nat) : List (List Int) := ((fsts s N).map (cls s N)).filter fun r => decide (1 < r.length)
theorem groups_eq {n : Node} (hs : size n < 2 ^ 20) (hw : weight n < 2 ^ 40) : hash_Groups n = some (grpsOf (sOf (subs n)) (size n)) := by
 unfold hash_Groups
 rw [exact_eq (by omega) hw, Option.bind_some, if_pos ⟨hs, hsP_len _ _⟩]
 rw [grps_eq (N := size n) (sOf_eqv (subs n)) (fun a b => sOf_iff) (fun a b ha hb h => same_hash ha hb h) _ (Nat.le_refl _)]
 rfl
theorem R06_List_eq {n : Node} (hs : size n < 2 ^ 30) : R06_List n = some (subs n) := by
 unfold R06_List R06_listS
 rw [if_pos (by simpa using hs)]
 rfl
theorem sameS_eq {L : List Node} {a b : Nat} {x y : Node} (hx : L[a]? = some x) (hy : L[b]? = some y) (hs : size x < 2 ^ 40) : R06_SameS x y = some (sOf L a b) := by
 unfold R06_SameS sOf
 rw [if_pos hs, nodeL_get hx, nodeL_get hy]
theorem ref_L1 {L : List Node} (hL : ∀ (k : Nat) v, L[k]? = some v → size v < 2 ^ 40) {i : Nat} (hi : i < L.length) (hn : L.length < 2 ^ 40) (y0 : List (List Int)) : iter (R18_Groups_L1 L (i : Int) y0) (false, (0 : Int)) = some (.jmp 2 (!isFst (sOf L) i, (i : Int))) := by
 have h := iter_to (step := R18_Groups_L1 L (i : Int) y0) (fun k => ((List.range k).any (fun j => sOf L j i), (k : Int))) i (fun k hk => by
  obtain ⟨x, hx⟩ : ∃ x, L[k]? = some x := ⟨_, List.getElem?_eq_getElem (by omega)⟩
  obtain ⟨y, hy⟩ : ∃ y, L[i]? = some y := ⟨_, List.getElem?_eq_getElem hi⟩
  simp only [R18_Groups_L1, rd_nat, hx, hy, Option.bind_some, sameS_eq hx hy (hL k x hx)]
  rw [if_pos (by omega), w64_id (by omega) (by omega), List.range_succ, List.any_append]
  cases (List.range k).any (fun j => sOf L j i) with
  | true => simp
  | false => simp)
 have e0 : ((List.range 0).any (fun j => sOf L j i), ((0 : Nat) : Int)) = (false, (0 : Int)) := rfl
 rw [e0] at h
 rw [h]
 have e1 : (List.range i).any (fun j => sOf L j i) = !isFst (sOf L) i := by
  unfold isFst
  rw [Bool.eq_iff_iff, Bool.not_eq_true', ← Bool.not_eq_true, List.all_eq_true, List.any_eq_true]
  simp
 rw [e1]
 apply iter_jmp
 simp only [R18_Groups_L1]
 rw [if_neg (by omega)]
theorem ref_L2 {L : List Node} (hL : ∀ (k : Nat) v, L[k]? = some v → size v < 2 ^ 40) {i : Nat} (hi : i < L.length) (hn : L.length < 2 ^ 40) (y0 : List (List Int)) : iter (R18_Groups_L2 L (i : Int) y0) ((i : Int), ([] : List Int)) = some (.jmp 4 ((L.length : Int), from_ (sOf L) i (L.length - i))) := by
 have h := iter_to (step := R18_Groups_L2 L (i : Int) y0) (fun d => (((i + d : Nat) : Int), from_ (sOf L) i d)) (L.length - i) (fun d hd => by
  obtain ⟨x, hx⟩ : ∃ x, L[i]? = some x := ⟨_, List.getElem?_eq_getElem hi⟩
  obtain ⟨y, hy⟩ : ∃ y, L[i + d]? = some y := ⟨_, List.getElem?_eq_getElem (by omega)⟩
  have hl : (from_ (sOf L) i d).length ≤ d := by
   unfold from_
   rw [List.length_map]
   refine Nat.le_trans (List.length_filter_le _ _) ?_
   rw [List.length_map, List.length_range]; exact Nat.le_refl _
  have hf : from_ (sOf L) i (d + 1) = from_ (sOf L) i d ++ if sOf L i (i + d) = true then [((i + d : Nat) : Int)] else [] := by
   unfold from_
   rw [List.range_succ, List.map_append, List.filter_append, List.map_append]
   congr 1
   simp only [List.map_cons, List.map_nil, List.filter_cons, List.filter_nil]
   cases sOf L i (i + d) <;> rfl
  simp only [R18_Groups_L2, rd_nat, hx, hy, Option.bind_some, sameS_eq hx hy (hL i x hx)]
  rw [if_pos (by omega), w64_id (by omega) (by omega), hf]
  by_cases hb : sOf L i (i + d) = true
  ·rw [if_pos hb, if_pos (by omega), if_pos hb]; rfl
  ·rw [if_neg hb, if_neg hb, List.append_nil]; rfl)
 have e0 : (((i + 0 : Nat) : Int), from_ (sOf L) i 0) = ((i : Int), ([] : List Int)) := rfl
 rw [e0] at h
 rw [h]
 have e1 : i + (L.length - i) = L.length := by omega
 rw [e1]
 apply iter_jmp
 simp only [R18_Groups_L2]
 rw [if_neg (by omega)]
theorem ref_groups {n : Node} (hs : size n < 2 ^ 20) : R18_Groups n = some (grpsOf (sOf (subs n)) (size n)) := by
 unfold R18_Groups
 rw [R06_List_eq (by omega), Option.bind_some]
 have hn := subs_len n
 have hL : ∀ (k : Nat) v, (subs n)[k]? = some v → size v < 2 ^ 40 := fun k v hv => by
  have := subs_size n k v hv
  omega
 generalize subs n = L at hn hL ⊢
 have hE := sOf_eqv L
 have h := iter_to (step := R18_Groups_L0 L) (fun i => ((i : Int), ((fsts (sOf L) i).map (cls (sOf L) L.length)).filter fun r => decide (1 < r.length))) L.length (fun i hi => by
  simp only [R18_Groups_L0]
  rw [if_pos (by omega), ref_L1 hL hi (by omega), Option.bind_some, fsts_succ]
  simp only []
  cases hf : isFst (sOf L) i with
  | false =>
   simp only [Bool.not_false, if_true, Bool.false_eq_true, if_false, List.append_nil]
   rw [w64_id (by omega) (by omega)]; rfl
  | true =>
   have hc : cls (sOf L) L.length i = from_ (sOf L) i (L.length - i) := by
    have := cls_from hE (d := L.length - i) hf
    rwa [show i + (L.length - i) = L.length by omega] at this
   simp only [Bool.not_true, Bool.false_eq_true, if_false, if_true]
   rw [ref_L2 hL hi (by omega), Option.bind_some, List.map_append, List.filter_append]
   simp only [List.map_cons, List.map_nil, hc, List.filter_cons, List.filter_nil]
   have hlen : (((fsts (sOf L) i).map (cls (sOf L) L.length)).filter fun r => decide (1 < r.length)).length ≤ i := by
    refine Nat.le_trans (List.length_filter_le _ _) ?_
    rw [List.length_map]
    unfold fsts
    refine Nat.le_trans (List.length_filter_le _ _) ?_
    rw [List.length_range]; exact Nat.le_refl _
   by_cases hb : 1 < (from_ (sOf L) i (L.length - i)).length
   ·rw [if_pos (by omega), if_pos (by omega), if_pos (by simpa using hb), w64_id (by omega) (by omega)]; rfl
   ·rw [if_neg (by omega), if_neg (by simpa using hb), List.append_nil, w64_id (by omega) (by omega)]; rfl)
 have e0 : (((0 : Nat) : Int), ((fsts (sOf L) 0).map (cls (sOf L) L.length)).filter fun r => decide (1 < r.length)) = ((0 : Int), ([] : List (List Int))) := rfl
 rw [e0] at h
 rw [h, iter_jmp (n := 0) (s' := _) (by simp only [R18_Groups_L0]; rw [if_neg (by omega)])]
 rw [hn]
 rfl
theorem SameGroups_refl {g : List (List Int)} (hg : g.length < 2 ^ 40) (hr : ∀ r ∈ g, r.length < 2 ^ 40) : R18_SameGroups g g = some true := by
 unfold R18_SameGroups
 rw [if_pos rfl]
 have h := iter_to (step := R18_SameGroups_L0 g g) (fun i => (i : Int)) g.length (fun i hi => by
  have hi' : g[i]? = some g[i] := List.getElem?_eq_getElem hi
  have hl := hr _ (List.getElem_mem hi)
  have h1 := iter_to (step := R18_SameGroups_L1 g g (i : Int)) (fun j => (j : Int)) g[i].length (fun j hj => by
   simp only [R18_SameGroups_L1, rd_nat, hi', Option.bind_some, List.getElem?_eq_getElem hj, if_true]
   rw [if_pos (by omega), w64_id (by omega) (by omega)]; rfl)
  rw [show ((0 : Nat) : Int) = 0 from rfl] at h1
  simp only [R18_SameGroups_L0, rd_nat, hi', Option.bind_some, if_true]
  rw [if_pos (by omega), h1, iter_jmp (n := 2) (s' := (g[i].length : Int)) (by simp only [R18_SameGroups_L1, rd_nat, hi', Option.bind_some]; rw [if_neg (by omega)])]
  simp only [Option.bind_some]
  rw [w64_id (by omega) (by omega)]; rfl)
 rw [show ((0 : Nat) : Int) = 0 from rfl] at h
 rw [h, iter_jmp (n := 0) (s' := (g.length : Int)) (by simp only [R18_SameGroups_L0]; rw [if_neg (by omega)])]
 rfl
theorem grpsOf_small (s : Nat → Nat → Bool) (N : Nat) : (grpsOf s N).length ≤ N ∧ ∀ r ∈ grpsOf s N, r.length ≤ N := by
 unfold grpsOf
 constructor
 ·refine Nat.le_trans (List.length_filter_le _ _) ?_
  rw [List.length_map]
  unfold fsts
  refine Nat.le_trans (List.length_filter_le _ _) ?_
  rw [List.length_range]; exact Nat.le_refl _
 ·intro r hr
  obtain ⟨f, _, rfl⟩ := List.mem_map.1 (List.mem_filter.1 hr).1
  exact cls_len s N f
end Xr

set_option linter.unusedVariables false
set_option linter.unusedSimpArgs false
namespace Xr
open Go Go.Ev
theorem plain_groups (x0 : Node) (w0 : Wf_Node x0) : law18_HashGroups x0 = some true := by
 unfold law18_HashGroups
 obtain ⟨r, e, hr⟩ := Light_ok (n := x0) (a := 60) (b := 60) (c := 4000) (by omega) (by omega) (by omega) (by omega) (by omega) (by omega)
 simp only [law18_awake, Option.bind_some, if_true, e]
 cases r with
 | false => rfl
 | true =>
  obtain ⟨h1, h2, h3⟩ := hr rfl
  obtain ⟨g1, g2⟩ := grpsOf_small (sOf (subs x0)) (size x0)
  simp only [if_true]
  rw [groups_eq (by omega) (by omega), ref_groups (by omega)]
  simp only [Option.bind_some]
  rw [SameGroups_refl (by omega) (fun r hr => by have := g2 r hr; omega)]
  rfl
end Xr

