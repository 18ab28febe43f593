/- A part of the proof: Pl. No conditions of its own. -/
import Derived.Test.YtcpenhffpgajoaaT
set_option linter.unusedVariables false
set_option linter.unusedSimpArgs false
namespace Xr
open Go Go.Ev
mutual
def hsP (q : Node → ByteArray) : Node → List Int
 | ⟨k, t, g, ks⟩ => mixI (hsF q ks (mixI (IntKind.wrap .u64 k) (sumI (q ⟨k, t, g, ks⟩)))) (IntKind.wrap .u64 (ks.length : Int)) :: hsK q ks
def hsK (q : Node → ByteArray) : List Node → List Int
 | [] => []
 | n :: ks => hsP q n ++ hsK q ks
def hsF (q : Node → ByteArray) : List Node → Int → Int
 | [], d => d
 | n :: ks, d => hsF q ks (mixI d ((hsP q n).headD 0))
end
mutual
theorem hsP_len (q : Node → ByteArray) : ∀ n : Node, (hsP q n).length = size n
 | ⟨k, t, g, ks⟩ => by simp only [hsP, size, List.length_cons, hsK_len q ks]; omega
theorem hsK_len (q : Node → ByteArray) : ∀ l : List Node, (hsK q l).length = sizes l
 | [] => by simp only [hsK, sizes, List.length_nil]
 | n :: ks => by simp only [hsK, sizes, List.length_append, hsP_len q n, hsK_len q ks]
end
def bareQ (b : Bool) (n : Node) : ByteArray := if b then ByteArray.mk #[] else n.Text
theorem bareQ_size (b : Bool) (n : Node) : (bareQ b n).size ≤ n.Text.size := by
 unfold bareQ
 cases b
 ·exact Nat.le_refl _
 ·exact Nat.zero_le _
mutual
theorem hsO_eq {p : Node → Option ByteArray} {b : Bool} (hp : ∀ n, p n = some (bareQ b n)) : ∀ n : Node, weight n < 2 ^ 40 → hsO p n = some (hsP (bareQ b) n)
 | ⟨k, t, g, ks⟩, h => by
  have hw := weight_eq ⟨k, t, g, ks⟩
  simp only at hw
  have hq := bareQ_size b ⟨k, t, g, ks⟩
  simp only at hq
  simp only [hsO, hp, Option.bind_some, hsL_eq hp ks _ (show weights ks < 2 ^ 40 by omega), hsP, Option.map_some]
  rw [if_pos (by omega)]
theorem hsL_eq {p : Node → Option ByteArray} {b : Bool} (hp : ∀ n, p n = some (bareQ b n)) : ∀ (l : List Node) (d : Int), weights l < 2 ^ 40 → hsL p l d = some (hsF (bareQ b) l d, hsK (bareQ b) l)
 | [], d, h => by simp only [hsL, hsF, hsK]
 | n :: ks, d, h => by
  simp only [weights] at h
  simp only [hsL, hsF, hsK, hsO_eq hp n (by omega), Option.bind_some, hsL_eq hp ks _ (show weights ks < 2 ^ 40 by omega), Option.map_some]
end
theorem fill_eq {p : Node → Option ByteArray} {b : Bool} (hp : ∀ n, p n = some (bareQ b n)) {n : Node} (hs : size n < 2 ^ 30) (hw : weight n < 2 ^ 40) : (hash_fillS p ([] : List Int) n).bind (fun r => some r.1) = some (hsP (bareQ b) n) := by
 unfold hash_fillS
 rw [if_pos (by simpa using hs), hsO_eq hp n hw]
 rfl
theorem exact_eq {n : Node} (hs : size n < 2 ^ 30) (hw : weight n < 2 ^ 40) : hash_Exact n = some (hsP (bareQ false) n) := fill_eq (p := hash_Exact_c1) (b := false) (fun n => rfl) hs hw
theorem Light_ok {n : Node} {a b c : Int} (ha : 0 ≤ a) (ha2 : a < 2 ^ 30) (hb : 0 ≤ b) (hb2 : b < 2 ^ 30) (hc : 0 ≤ c) (hc2 : c < 2 ^ 30) : ∃ r, R06_Light n a b c = some r ∧ (r = true → (size n : Int) ≤ a ∧ (height n : Int) ≤ b ∧ (weight n : Int) ≤ c) := by
 unfold R06_Light R06_Fits R06_leftS
 rw [if_pos (by omega)]
 simp only [Option.bind_some]
 by_cases hf : (size n : Int) ≤ a ∧ (height n : Int) ≤ b
 ·have e : leftV n a b = a - size n := if_pos hf
  rw [e, if_pos (by simp only [decide_eq_true_eq]; omega)]
  unfold R06_weighS
  rw [if_pos (by omega)]
  simp only [Option.bind_some]
  refine ⟨_, rfl, fun h => ⟨hf.1, hf.2, ?_⟩⟩
  by_cases hw : (weight n : Int) ≤ c
  ·exact hw
  ·rw [if_neg hw] at h; simp at h
 ·have e : leftV n a b = -1 := if_neg hf
  rw [e, if_neg (by decide)]
  exact ⟨_, rfl, fun h => by cases h⟩
end Xr

set_option linter.unusedVariables false
set_option linter.unusedSimpArgs false
namespace Xr
open Go Go.Ev
structure Eqv (s : Nat → Nat → Bool) : Prop where
 refl : ∀ a, s a a = true
 symm : ∀ a b, s a b = true → s b a = true
 trans : ∀ a b c, s a b = true → s b c = true → s a c = true
def isFst (s : Nat → Nat → Bool) (f : Nat) : Bool := (List.range f).all fun j => !s j f
def fsts (s : Nat → Nat → Bool) (i : Nat) : List Nat := (List.range i).filter (isFst s)
def cls (s : Nat → Nat → Bool) (i f : Nat) : List Int := ((List.range i).filter (s f)).map fun (k : Nat) => (k : Int)
theorem isFst_iff {s : Nat → Nat → Bool} {f : Nat} : isFst s f = true ↔ ∀ j, j < f → s j f = false := by
 unfold isFst
 rw [List.all_eq_true]
 constructor
 ·intro h j hj
  have := h j (List.mem_range.2 hj)
  simpa using this
 ·intro h j hj
  rw [h j (List.mem_range.1 hj)]; rfl
theorem exists_fst {s : Nat → Nat → Bool} (hs : Eqv s) : ∀ (n i : Nat), i ≤ n → ∃ f, f ≤ i ∧ isFst s f = true ∧ s f i = true
 | 0, i, h => by
  obtain rfl : i = 0 := by omega
  exact ⟨0, Nat.le_refl _, rfl, hs.refl 0⟩
 | n + 1, i, h => by
  by_cases hf : isFst s i = true
  ·exact ⟨i, Nat.le_refl _, hf, hs.refl i⟩
  ·have : ∃ j, j < i ∧ s j i = true := by
    apply Classical.byContradiction
    intro hn
    apply hf
    rw [isFst_iff]
    intro j hj
    cases hb : s j i with
    | false => rfl
    | true => exact absurd ⟨j, hj, hb⟩ hn
   obtain ⟨j, hj, hb⟩ := this
   obtain ⟨f, h1, h2, h3⟩ := exists_fst hs n j (by omega)
   exact ⟨f, by omega, h2, hs.trans _ _ _ h3 hb⟩
theorem fst_unique {s : Nat → Nat → Bool} (hs : Eqv s) {f g i : Nat} (hf : isFst s f = true) (hg : isFst s g = true) (h1 : s f i = true) (h2 : s g i = true) : f = g := by
 have h3 : s f g = true := hs.trans _ _ _ h1 (hs.symm _ _ h2)
 rcases Nat.lt_trichotomy f g with h | h | h
 ·have := isFst_iff.1 hg f h
  rw [h3] at this; cases this
 ·exact h
 ·have := isFst_iff.1 hf g h
  rw [hs.symm _ _ h3] at this; cases this
theorem fsts_mem {s : Nat → Nat → Bool} {i f : Nat} : f ∈ fsts s i ↔ f < i ∧ isFst s f = true := by
 unfold fsts
 rw [List.mem_filter, List.mem_range]
theorem fsts_succ (s : Nat → Nat → Bool) (i : Nat) : fsts s (i + 1) = fsts s i ++ if isFst s i = true then [i] else [] := by
 unfold fsts
 rw [List.range_succ, List.filter_append]
 congr 1
 cases h : isFst s i <;> simp [h]
theorem cls_succ (s : Nat → Nat → Bool) (i f : Nat) : cls s (i + 1) f = cls s i f ++ if s f i = true then [(i : Int)] else [] := by
 unfold cls
 rw [List.range_succ, List.filter_append, List.map_append]
 congr 1
 cases h : s f i <;> simp [h]
def from_ (s : Nat → Nat → Bool) (f d : Nat) : List Int := (((List.range d).map (f + ·)).filter (s f)).map fun (k : Nat) => (k : Int)
theorem cls_from {s : Nat → Nat → Bool} (hs : Eqv s) {f d : Nat} (hf : isFst s f = true) : cls s (f + d) f = from_ s f d := by
 unfold cls from_
 rw [List.range_add, List.filter_append]
 have : (List.range f).filter (s f) = [] := by
  rw [List.filter_eq_nil_iff]
  intro k hk
  have h1 := isFst_iff.1 hf k (List.mem_range.1 hk)
  intro h2
  rw [hs.symm _ _ h2] at h1; cases h1
 rw [this, List.nil_append]
theorem cls_head {s : Nat → Nat → Bool} (hs : Eqv s) {f i : Nat} (hf : isFst s f = true) (hi : f < i) : ∃ l, cls s i f = (f : Int) :: l := by
 obtain ⟨d, rfl⟩ : ∃ d, i = f + (d + 1) := ⟨i - f - 1, by omega⟩
 rw [cls_from hs hf]
 unfold from_
 rw [List.range_succ_eq_map]
 simp only [List.map_cons, Nat.add_zero, List.filter_cons, hs.refl f, if_true]
 exact ⟨_, rfl⟩
theorem cls_nil {s : Nat → Nat → Bool} (hs : Eqv s) {i : Nat} (hf : isFst s i = true) : cls s i i = [] := by
 have := cls_from hs (d := 0) hf
 rw [Nat.add_zero] at this
 rw [this]; rfl
theorem fsts_nodup (s : Nat → Nat → Bool) (i : Nat) : (fsts s i).Nodup := List.Nodup.sublist List.filter_sublist List.nodup_range
theorem cls_len (s : Nat → Nat → Bool) (i f : Nat) : (cls s i f).length ≤ i := by
 unfold cls
 rw [List.length_map]
 refine Nat.le_trans (List.length_filter_le _ _) ?_
 rw [List.length_range]; exact Nat.le_refl _
open Classical in
theorem grps_eq {L : List Node} {hs : List Int} {N : Nat} {s : Nat → Nat → Bool} (hE : Eqv s) (hS : ∀ a b : Nat, s a b = true ↔ barV (nodeL L a) = barV (nodeL L b)) (hh : ∀ a b, a < N → b < N → s a b = true → hs.getD a 0 = hs.getD b 0) : ∀ i, i ≤ N → grps L hs i = (fsts s i).map (cls s i)
 | 0, _ => rfl
 | i + 1, hi => by
  have hP : ∀ f, f ∈ fsts s i → grpP L hs i (cls s i f) = s f i := by
   intro f hf
   obtain ⟨h1, h2⟩ := fsts_mem.1 hf
   obtain ⟨l, e⟩ := cls_head hE h2 h1
   unfold grpP
   rw [e, List.headD_cons, Int.toNat_natCast]
   rw [Bool.eq_iff_iff, Bool.and_eq_true, decide_eq_true_iff, decide_eq_true_iff, hS f i]
   exact ⟨fun h => h.2, fun h => ⟨hh f i (by omega) (by omega) ((hS f i).2 h), h⟩⟩
  have hget : ∀ q, q < (fsts s i).length → ((fsts s i).map (cls s i)).getD q [] = cls s i ((fsts s i).getD q 0) := by
   intro q hq
   rw [List.getD_eq_getElem?_getD, List.getElem?_map, List.getElem?_eq_getElem hq, List.getD_eq_getElem?_getD, List.getElem?_eq_getElem hq]
   rfl
  have hgm : ∀ q, q < (fsts s i).length → (fsts s i).getD q 0 ∈ fsts s i := by
   intro q hq
   rw [List.getD_eq_getElem?_getD, List.getElem?_eq_getElem hq]
   exact List.getElem_mem hq
  simp only [grps, grpStep]
  rw [grps_eq hE hS hh i (by omega)]
  split
  ·rename_i q hq
   have hlt : q < (fsts s i).length := by
    have := List.mem_range.1 (List.mem_of_find?_eq_some hq)
    simpa using this
   have hsq := List.find?_some hq
   rw [hget q hlt, hP _ (hgm q hlt)] at hsq
   obtain ⟨m1, m2⟩ := fsts_mem.1 (hgm q hlt)
   have hnf : ¬ isFst s i = true := by
    intro h
    have := isFst_iff.1 h _ m1
    rw [hsq] at this; cases this
   rw [fsts_succ, if_neg hnf, List.append_nil, hget q hlt]
   apply List.ext_getElem?
   intro k
   rw [List.getElem?_map]
   by_cases hk : q = k
   ·subst hk
    rw [List.getElem?_set_self (by simpa using hlt), List.getElem?_eq_getElem hlt]
    simp only [Option.map_some]
    rw [cls_succ]
    have e : (fsts s i).getD q 0 = (fsts s i)[q] := by rw [List.getD_eq_getElem?_getD, List.getElem?_eq_getElem hlt]; rfl
    rw [e] at hsq ⊢
    rw [if_pos hsq]
   ·rw [List.getElem?_set_ne hk, List.getElem?_map]
    cases hf : (fsts s i)[k]? with
    | none => rfl
    | some f =>
     simp only [Option.map_some]
     have hfm : f ∈ fsts s i := List.mem_of_getElem? hf
     have hff : ¬ s f i = true := by
      intro h
      have e := fst_unique hE (fsts_mem.1 hfm).2 m2 h hsq
      have e3 : (fsts s i)[q]? = some f := by
       rw [e, List.getD_eq_getElem?_getD, List.getElem?_eq_getElem hlt]; rfl
      exact hk ((List.getElem?_inj hlt (fsts_nodup s i)).1 (e3.trans hf.symm))
     rw [cls_succ, if_neg hff, List.append_nil]
  ·rename_i hq
   rw [List.find?_eq_none] at hq
   have hno : ∀ f, f ∈ fsts s i → ¬ s f i = true := by
    intro f hf h
    obtain ⟨q, e⟩ := List.mem_iff_getElem?.1 hf
    have hlt := (List.getElem?_eq_some_iff.1 e).1
    have e2 : (fsts s i).getD q 0 = f := by rw [List.getD_eq_getElem?_getD, e]; rfl
    refine hq q (List.mem_range.2 (by simpa using hlt)) ?_
    rw [hget q hlt, hP _ (hgm q hlt), e2]
    exact h
   have hi1 : isFst s i = true := by
    obtain ⟨f, h1, h2, h3⟩ := exists_fst hE i i (Nat.le_refl _)
    by_cases e : f = i
    ·rw [← e]; exact h2
    ·exact absurd h3 (hno f (fsts_mem.2 ⟨by omega, h2⟩))
   rw [fsts_succ, if_pos hi1, List.map_append]
   congr 1
   ·apply List.map_congr_left
    intro f hf
    rw [cls_succ, if_neg (hno f hf), List.append_nil]
   ·simp only [List.map_cons, List.map_nil]
    rw [cls_succ, cls_nil hE hi1, if_pos (hE.refl i)]
    rfl
open Classical in
noncomputable def sOf (L : List Node) (a b : Nat) : Bool := decide (barV (nodeL L a) = barV (nodeL L b))
open Classical in
theorem sOf_iff {L : List Node} {a b : Nat} : sOf L a b = true ↔ barV (nodeL L a) = barV (nodeL L b) := by
 unfold sOf
 exact decide_eq_true_iff
theorem sOf_eqv (L : List Node) : Eqv (sOf L) :=
 ⟨fun a => sOf_iff.2 rfl, fun a b h => sOf_iff.2 (sOf_iff.1 h).symm, fun a b c h1 h2 => sOf_iff.2 ((sOf_iff.1 h1).trans (sOf_iff.1 h2))⟩
mutual
theorem hsP_bar (b : Bool) : ∀ n : Node, hsP (bareQ b) (barV n) = hsP (bareQ b) n
 | ⟨k, t, g, ks⟩ => by
  simp only [barV, hsP, hsF_bar b ks, hsK_bar b ks]
  rw [barVs_map, List.length_map]
  rfl
theorem hsK_bar (b : Bool) : ∀ l : List Node, hsK (bareQ b) (barVs l) = hsK (bareQ b) l
 | [] => by simp only [barVs]
 | n :: ks => by simp only [barVs, hsK, hsP_bar b n, hsK_bar b ks]
theorem hsF_bar (b : Bool) : ∀ (l : List Node) (d : Int), hsF (bareQ b) (barVs l) d = hsF (bareQ b) l d
 | [], d => by simp only [barVs]
 | n :: ks, d => by simp only [barVs, hsF, hsP_bar b n, hsF_bar b ks]
end
mutual
theorem hsP_sub (q : Node → ByteArray) : ∀ (n : Node) (i : Nat) (v : Node), (subs n)[i]? = some v → (hsP q n)[i]? = (hsP q v)[0]?
 | ⟨k, t, g, ks⟩, i, v, h => by
  simp only [subs] at h
  cases i with
  | zero =>
   simp only [List.getElem?_cons_zero, Option.some.injEq] at h
   subst h; rfl
  | succ i =>
   simp only [List.getElem?_cons_succ] at h
   have := hsK_sub q ks i v h
   simp only [hsP, List.getElem?_cons_succ]
   exact this
theorem hsK_sub (q : Node → ByteArray) : ∀ (l : List Node) (i : Nat) (v : Node), (subss l)[i]? = some v → (hsK q l)[i]? = (hsP q v)[0]?
 | [], i, v, h => by simp [subss] at h
 | n :: ks, i, v, h => by
  simp only [subss] at h
  simp only [hsK]
  by_cases hi : i < (subs n).length
  ·rw [List.getElem?_append_left hi] at h
   rw [List.getElem?_append_left (by rw [hsP_len, ← subs_len]; exact hi)]
   exact hsP_sub q n i v h
  ·rw [List.getElem?_append_right (by omega)] at h
   rw [List.getElem?_append_right (by rw [hsP_len, ← subs_len]; omega), hsP_len, ← subs_len]
   exact hsK_sub q ks _ v h
end
theorem nodeL_get {L : List Node} {a : Nat} {v : Node} (h : L[a]? = some v) : nodeL L (a : Int) = v := by
 unfold nodeL
 rw [Int.toNat_natCast, List.getD_eq_getElem?_getD, h]; rfl
theorem same_hash {n : Node} {a b : Nat} (ha : a < size n) (hb : b < size n) (h : sOf (subs n) a b = true) : (hsP (bareQ false) n).getD a 0 = (hsP (bareQ false) n).getD b 0 := by
 obtain ⟨x, hx⟩ : ∃ x, (subs n)[a]? = some x := ⟨_, List.getElem?_eq_getElem (by rw [subs_len]; exact ha)⟩
 obtain ⟨y, hy⟩ : ∃ y, (subs n)[b]? = some y := ⟨_, List.getElem?_eq_getElem (by rw [subs_len]; exact hb)⟩
 have e : barV x = barV y := by
  have := sOf_iff.1 h
  rwa [nodeL_get hx, nodeL_get hy] at this
 rw [List.getD_eq_getElem?_getD, List.getD_eq_getElem?_getD, hsP_sub _ n a x hx, hsP_sub _ n b y hy, ← hsP_bar, e, hsP_bar]
def grpsOf (s : Nat → Nat → Bool) (N : Nat) : List (List Int) := ((fsts s N).map (cls s N)).filter fun r => decide (1 < r.length)
theorem groups_eq {n : Node} (hs : size n < 2 ^ 20) (hw : weight n < 2 ^ 40) : hash_Groups n = some (grpsOf (sOf (subs n)) (size n)) := by
 unfold hash_Groups
 rw [exact_eq (by omega) hw, Option.bind_some, if_pos ⟨hs, hsP_len _ _⟩]
 rw [grps_eq (N := size n) (sOf_eqv (subs n)) (fun a b => sOf_iff) (fun a b ha hb h => same_hash ha hb h) _ (Nat.le_refl _)]
 rfl
theorem R06_List_eq {n : Node} (hs : size n < 2 ^ 30) : R06_List n = some (subs n) := by
 unfold R06_List R06_listS
 rw [if_pos (by simpa using hs)]
 rfl
theorem sameS_eq {L : List Node} {a b : Nat} {x y : Node} (hx : L[a]? = some x) (hy : L[b]? = some y) (hs : size x < 2 ^ 40) : R06_SameS x y = some (sOf L a b) := by
 unfold R06_SameS sOf
 rw [if_pos hs, nodeL_get hx, nodeL_get hy]
theorem grpsOf_small (s : Nat → Nat → Bool) (N : Nat) : (grpsOf s N).length ≤ N ∧ ∀ r ∈ grpsOf s N, r.length ≤ N := by
 unfold grpsOf
 constructor
 ·refine Nat.le_trans (List.length_filter_le _ _) ?_
  rw [List.length_map]
  unfold fsts
  refine Nat.le_trans (List.length_filter_le _ _) ?_
  rw [List.length_range]; exact Nat.le_refl _
 ·intro r hr
  obtain ⟨f, _, rfl⟩ := List.mem_map.1 (List.mem_filter.1 hr).1
  exact cls_len s N f
end Xr

set_option linter.unusedVariables false
set_option linter.unusedSimpArgs false
namespace Xr
open Go Go.Ev
structure Parts (s : Nat → Nat → Bool) (N : Nat) (gs : List (List Int)) : Prop where
 big : ∀ r ∈ gs, 2 ≤ r.length
 small : ∀ r ∈ gs, r.length ≤ N
 nat : ∀ r ∈ gs, ∀ x ∈ r, ∃ m : Nat, x = m ∧ m < N
 inc : ∀ r ∈ gs, r.Pairwise (· < ·)
 heads : gs.Pairwise fun r t => r.headD 0 < t.headD 0
 dis : ∀ (i k : Nat) (r t : List Int), gs[i]? = some r → gs[k]? = some t → ∀ x, x ∈ r → x ∈ t → i = k
 all : ∀ a b : Nat, a < N → b < N → a ≠ b → (s a b = true ↔ ∃ r ∈ gs, (a : Int) ∈ r ∧ (b : Int) ∈ r)
theorem cls_mem {s : Nat → Nat → Bool} {N f m : Nat} : (m : Int) ∈ cls s N f ↔ m < N ∧ s f m = true := by
 unfold cls
 rw [List.mem_map]
 constructor
 ·rintro ⟨k, hk, e⟩
  obtain rfl : k = m := by omega
  obtain ⟨h1, h2⟩ := List.mem_filter.1 hk
  exact ⟨List.mem_range.1 h1, h2⟩
 ·rintro ⟨h1, h2⟩
  exact ⟨m, List.mem_filter.2 ⟨List.mem_range.2 h1, h2⟩, rfl⟩
theorem grpsOf_mem {s : Nat → Nat → Bool} {N : Nat} {r : List Int} : r ∈ grpsOf s N ↔ 1 < r.length ∧ ∃ f, f < N ∧ isFst s f = true ∧ r = cls s N f := by
 unfold grpsOf
 rw [List.mem_filter, List.mem_map]
 constructor
 ·rintro ⟨⟨f, hf, e⟩, h⟩
  obtain ⟨h1, h2⟩ := fsts_mem.1 hf
  exact ⟨by simpa using h, f, h1, h2, e.symm⟩
 ·rintro ⟨h, f, h1, h2, e⟩
  exact ⟨⟨f, fsts_mem.2 ⟨h1, h2⟩, e.symm⟩, by simpa using h⟩
theorem two_mem {T : Type} {a b : T} : ∀ {l : List T}, a ∈ l → b ∈ l → a ≠ b → 1 < l.length
 | [], h, _, _ => by cases h
 | [x], h1, h2, hn => by
  simp only [List.mem_singleton] at h1 h2
  exact absurd (h1.trans h2.symm) hn
 | _ :: _ :: l, _, _, _ => by simp only [List.length_cons]; omega
theorem grps_parts {s : Nat → Nat → Bool} (hE : Eqv s) (N : Nat) : Parts s N (grpsOf s N) := by
 have hheads : (grpsOf s N).Pairwise fun r t => r.headD 0 < t.headD 0 := by
  unfold grpsOf
  refine List.Pairwise.sublist List.filter_sublist ?_
  rw [List.pairwise_map]
  have h0 : (fsts s N).Pairwise (· < ·) := List.Pairwise.sublist List.filter_sublist List.pairwise_lt_range
  refine List.Pairwise.imp_of_mem (fun {a b} ha hb hab => ?_) h0
  obtain ⟨a1, a2⟩ := fsts_mem.1 ha
  obtain ⟨b1, b2⟩ := fsts_mem.1 hb
  obtain ⟨l, e⟩ := cls_head hE a2 a1
  obtain ⟨l', e'⟩ := cls_head hE b2 b1
  rw [e, e', List.headD_cons, List.headD_cons]
  omega
 refine ⟨?_, (grpsOf_small s N).2, ?_, ?_, hheads, ?_, ?_⟩
 ·intro r hr
  have := (grpsOf_mem.1 hr).1
  omega
 ·intro r hr x hx
  obtain ⟨_, f, _, _, rfl⟩ := grpsOf_mem.1 hr
  unfold cls at hx
  obtain ⟨k, hk, rfl⟩ := List.mem_map.1 hx
  exact ⟨k, rfl, List.mem_range.1 (List.mem_filter.1 hk).1⟩
 ·intro r hr
  obtain ⟨_, f, _, _, rfl⟩ := grpsOf_mem.1 hr
  unfold cls
  rw [List.pairwise_map]
  refine List.Pairwise.sublist List.filter_sublist ?_
  refine List.Pairwise.imp (fun {a b} hab => ?_) List.pairwise_lt_range
  omega
 ·intro i k r t hi hk x hx hx'
  have hr := List.mem_of_getElem? hi
  have ht := List.mem_of_getElem? hk
  obtain ⟨_, f, f1, f2, e1⟩ := grpsOf_mem.1 hr
  obtain ⟨_, f', f1', f2', e2⟩ := grpsOf_mem.1 ht
  have hm : ∃ m : Nat, x = m := by
   rw [e1] at hx
   unfold cls at hx
   obtain ⟨m, _, e⟩ := List.mem_map.1 hx
   exact ⟨m, e.symm⟩
  obtain ⟨m, rfl⟩ := hm
  rw [e1] at hx
  rw [e2] at hx'
  have e3 := fst_unique hE f2 f2' (cls_mem.1 hx).2 (cls_mem.1 hx').2
  subst e3
  have e4 : r = t := e1.trans e2.symm
  subst e4
  have hp := List.pairwise_iff_getElem.1 hheads
  obtain ⟨i1, i2⟩ := List.getElem?_eq_some_iff.1 hi
  obtain ⟨k1, k2⟩ := List.getElem?_eq_some_iff.1 hk
  rcases Nat.lt_trichotomy i k with h | h | h
  ·have := hp i k i1 k1 h
   rw [i2, k2] at this; omega
  ·exact h
  ·have := hp k i k1 i1 h
   rw [i2, k2] at this; omega
 ·intro a b ha hb hab
  constructor
  ·intro h
   obtain ⟨f, h1, h2, h3⟩ := exists_fst hE a a (Nat.le_refl _)
   have ma : (a : Int) ∈ cls s N f := cls_mem.2 ⟨ha, h3⟩
   have mb : (b : Int) ∈ cls s N f := cls_mem.2 ⟨hb, hE.trans _ _ _ h3 h⟩
   exact ⟨cls s N f, grpsOf_mem.2 ⟨two_mem ma mb (by omega), f, by omega, h2, rfl⟩, ma, mb⟩
  ·rintro ⟨r, hr, h1, h2⟩
   obtain ⟨_, f, _, _, rfl⟩ := grpsOf_mem.1 hr
   exact hE.trans _ _ _ (hE.symm _ _ (cls_mem.1 h1).2) (cls_mem.1 h2).2
def ofV (gs : List (List Int)) (x : Nat) : Int := match gs.findIdx? (fun r => decide ((x : Int) ∈ r)) with | some i => (i : Int) | none => -1
def ofL (gs : List (List Int)) (N : Nat) : List Int := (List.range N).map (ofV gs)
theorem ofV_none {gs : List (List Int)} {x : Nat} (h : ∀ r ∈ gs, (x : Int) ∉ r) : ofV gs x = -1 := by
 unfold ofV
 have : gs.findIdx? (fun r => decide ((x : Int) ∈ r)) = none := by
  rw [List.findIdx?_eq_none_iff]
  intro r hr
  simpa using h r hr
 rw [this]
theorem ofV_some {s : Nat → Nat → Bool} {N : Nat} {gs : List (List Int)} (hP : Parts s N gs) {x q : Nat} {r : List Int} (hq : gs[q]? = some r) (hx : (x : Int) ∈ r) : ofV gs x = q := by
 unfold ofV
 cases h : gs.findIdx? (fun r => decide ((x : Int) ∈ r)) with
 | none =>
  rw [List.findIdx?_eq_none_iff] at h
  have := h r (List.mem_of_getElem? hq)
  simp [hx] at this
 | some p =>
  rw [List.findIdx?_eq_some_iff_getElem] at h
  obtain ⟨h1, h2, _⟩ := h
  have := hP.dis p q gs[p] r (List.getElem?_eq_getElem h1) hq x (by simpa using h2) hx
  rw [this]
theorem ofV_cases (gs : List (List Int)) (x : Nat) : (ofV gs x = -1 ∧ ∀ r ∈ gs, (x : Int) ∉ r) ∨ ∃ (q : Nat) (r : List Int), ofV gs x = q ∧ gs[q]? = some r ∧ (x : Int) ∈ r := by
 unfold ofV
 cases h : gs.findIdx? (fun r => decide ((x : Int) ∈ r)) with
 | none =>
  rw [List.findIdx?_eq_none_iff] at h
  exact Or.inl ⟨rfl, fun r hr => by simpa using h r hr⟩
 | some p =>
  rw [List.findIdx?_eq_some_iff_getElem] at h
  obtain ⟨h1, h2, _⟩ := h
  exact Or.inr ⟨p, gs[p], rfl, List.getElem?_eq_getElem h1, by simpa using h2⟩
theorem map_set {N m : Nat} {f : Nat → Int} {v : Int} (hm : m < N) : ((List.range N).map f).set m v = (List.range N).map fun x => if x = m then v else f x := by
 apply List.ext_getElem?
 intro k
 by_cases hk : m = k
 ·subst hk
  rw [List.getElem?_set_self (by simpa using hm), List.getElem?_map, List.getElem?_range hm]
  simp
 ·rw [List.getElem?_set_ne hk, List.getElem?_map, List.getElem?_map]
  by_cases hkN : k < N
  ·rw [List.getElem?_range hkN]
   simp only [Option.map_some]
   rw [if_neg (Ne.symm hk)]
  ·rw [List.getElem?_eq_none (by simpa using hkN)]; rfl
theorem map_get {N m : Nat} {f : Nat → Int} (hm : m < N) : ((List.range N).map f)[m]? = some (f m) := by
 rw [List.getElem?_map, List.getElem?_range hm]; rfl
def ofJ (gs : List (List Int)) (i j : Nat) (r : List Int) (N : Nat) : List Int := (List.range N).map fun (x : Nat) => if (x : Int) ∈ r.take j then (i : Int) else ofV (gs.take i) x
theorem parts_L2 {s : Nat → Nat → Bool} {L : List Node} {gs : List (List Int)} (hP : Parts s L.length gs) (hN : L.length < 2 ^ 40) {i : Nat} {r : List Int} (hi : gs[i]? = some r) :
  iter (law18_HashParts_L2 L gs (i : Int)) ((0 : Int), ofL (gs.take i) L.length) = some (.jmp 4 ((r.length : Int), ofL (gs.take (i + 1)) L.length)) := by
 have hr := List.mem_of_getElem? hi
 have hinc := List.pairwise_iff_getElem.1 (hP.inc r hr)
 have hsm := hP.small r hr
 have h := iter_to (step := law18_HashParts_L2 L gs (i : Int)) (fun j => ((j : Int), ofJ gs i j r L.length)) r.length (fun j hj => by
  have hj' : r[j]? = some r[j] := List.getElem?_eq_getElem hj
  obtain ⟨m, em, hm⟩ := hP.nat r hr r[j] (List.getElem_mem hj)
  have hnt : ¬ (m : Int) ∈ r.take j := by
   intro h
   obtain ⟨k, hk⟩ := List.mem_iff_getElem?.1 h
   rw [List.getElem?_take] at hk
   split at hk
   ·rename_i hkj
    obtain ⟨k1, k2⟩ := List.getElem?_eq_some_iff.1 hk
    have := hinc k j k1 hj hkj
    rw [k2, em] at this; omega
   ·cases hk
  have hno : ofV (gs.take i) m = -1 := by
   apply ofV_none
   intro t ht hmt
   obtain ⟨k, hk⟩ := List.mem_iff_getElem?.1 ht
   rw [List.getElem?_take] at hk
   split at hk
   ·rename_i hki
    have := hP.dis k i t r hk hi m hmt (by rw [← em]; exact List.getElem_mem hj)
    omega
   ·cases hk
  have hy : (ofJ gs i j r L.length)[m]? = some (-1) := by
   unfold ofJ
   rw [map_get hm, if_neg hnt, hno]
  have hset : (ofJ gs i j r L.length).set m (i : Int) = ofJ gs i (j + 1) r L.length := by
   unfold ofJ
   rw [map_set hm]
   apply List.map_congr_left
   intro x _
   by_cases hx : x = m
   ·subst hx
    rw [if_pos rfl, if_pos]
    rw [List.mem_iff_getElem?]
    exact ⟨j, by rw [List.getElem?_take, if_pos (by omega), hj', em]⟩
   ·rw [if_neg hx]
    have : ((x : Int) ∈ r.take (j + 1)) ↔ ((x : Int) ∈ r.take j) := by
     rw [List.take_add_one, hj', List.mem_append]
     simp only [Option.toList_some, List.mem_singleton]
     constructor
     ·rintro (h | h)
      ·exact h
      ·rw [em] at h; omega
     ·exact Or.inl
    by_cases h : (x : Int) ∈ r.take j
    ·rw [if_pos h, if_pos (this.2 h)]
    ·rw [if_neg h, if_neg (fun h' => h (this.1 h'))]
  have hgo : w64 ((j : Int) + 1) = ((j + 1 : Nat) : Int) := by rw [w64_id (by omega) (by omega)]; rfl
  simp only [law18_HashParts_L2, rd_nat, hi, Option.bind_some, hj', em, hy, Int.toNat_natCast, hset, hgo, if_true]
  rw [if_pos (by omega), if_neg (by omega), if_neg (by omega)]
  by_cases h0 : j = 0
  ·subst h0
   rw [if_neg (by omega)]
  ·obtain ⟨j', rfl⟩ : ∃ j', j = j' + 1 := ⟨j - 1, by omega⟩
   have hpr := hinc j' (j' + 1) (by omega) hj (by omega)
   have e1 : w64 (((j' + 1 : Nat) : Int) - 1) = (j' : Int) := by rw [w64_id (by omega) (by omega)]; omega
   rw [if_pos (by omega), e1, rd_nat, List.getElem?_eq_getElem (show j' < r.length by omega), Option.bind_some, if_neg (by rw [em] at hpr; omega)])
 have e0 : (((0 : Nat) : Int), ofJ gs i 0 r L.length) = ((0 : Int), ofL (gs.take i) L.length) := by
  unfold ofJ ofL
  simp
 rw [e0] at h
 have e1 : ofJ gs i r.length r L.length = ofL (gs.take (i + 1)) L.length := by
  unfold ofJ ofL
  apply List.map_congr_left
  intro x _
  rw [List.take_length, List.take_add_one, hi]
  simp only [Option.toList_some]
  unfold ofV
  rw [List.findIdx?_append]
  by_cases hx : (x : Int) ∈ r
  ·rw [if_pos hx]
   have hnone : (gs.take i).findIdx? (fun r => decide ((x : Int) ∈ r)) = none := by
    rw [List.findIdx?_eq_none_iff]
    intro t ht
    obtain ⟨k, hk⟩ := List.mem_iff_getElem?.1 ht
    rw [List.getElem?_take] at hk
    split at hk
    ·rename_i hki
     cases hd : decide ((x : Int) ∈ t) with
     | false => rfl
     | true =>
      have := hP.dis k i t r hk hi x (of_decide_eq_true hd) hx
      omega
    ·cases hk
   have hil := (List.getElem?_eq_some_iff.1 hi).1
   rw [hnone, List.findIdx?_cons, decide_eq_true hx]
   simp [Nat.min_eq_left (Nat.le_of_lt hil)]
  ·rw [if_neg hx, List.findIdx?_cons, decide_eq_false hx]
   cases (gs.take i).findIdx? (fun r => decide ((x : Int) ∈ r)) <;> simp
 rw [h, e1]
 apply iter_jmp
 simp only [law18_HashParts_L2, rd_nat, hi, Option.bind_some]
 rw [if_neg (by omega)]
theorem parts_L1 {s : Nat → Nat → Bool} {L : List Node} {gs : List (List Int)} (hP : Parts s L.length gs) (hN : L.length < 2 ^ 40) (hg : gs.length < 2 ^ 40) :
  iter (law18_HashParts_L1 L gs) ((0 : Int), ofL [] L.length) = some (.jmp 2 ((gs.length : Int), ofL gs L.length)) := by
 have hh := List.pairwise_iff_getElem.1 hP.heads
 have h := iter_to (step := law18_HashParts_L1 L gs) (fun i => ((i : Int), ofL (gs.take i) L.length)) gs.length (fun i hi => by
  have hi' : gs[i]? = some gs[i] := List.getElem?_eq_getElem hi
  have hb := hP.big _ (List.getElem_mem hi)
  have hgo : w64 ((i : Int) + 1) = ((i + 1 : Nat) : Int) := by rw [w64_id (by omega) (by omega)]; rfl
  simp only [law18_HashParts_L1, rd_nat, hi', Option.bind_some]
  rw [if_pos (by omega), if_neg (by omega), parts_L2 hP hN hi', Option.bind_some]
  simp only [hgo]
  by_cases h0 : i = 0
  ·subst h0
   rw [if_neg (by omega)]
  ·obtain ⟨i', rfl⟩ : ∃ i', i = i' + 1 := ⟨i - 1, by omega⟩
   have hb' := hP.big _ (List.getElem_mem (show i' < gs.length by omega))
   have hlt := hh i' (i' + 1) (by omega) hi (by omega)
   have e1 : w64 (((i' + 1 : Nat) : Int) - 1) = (i' : Int) := by rw [w64_id (by omega) (by omega)]; omega
   have hd : ∀ {l : List Int}, 2 ≤ l.length → rd l 0 = some (l.headD 0) := by
    intro l hl
    cases l with
    | nil => simp at hl
    | cons a l => rfl
   rw [if_pos (by omega), hd hb, Option.bind_some, e1, rd_nat, List.getElem?_eq_getElem (show i' < gs.length by omega), Option.bind_some, hd hb', Option.bind_some, if_neg (by omega)])
 have e0 : (((0 : Nat) : Int), ofL (gs.take 0) L.length) = ((0 : Int), ofL [] L.length) := rfl
 rw [e0] at h
 rw [h, List.take_length]
 apply iter_jmp
 simp only [law18_HashParts_L1]
 rw [if_neg (by omega)]
theorem parts_L4 {L : List Node} {gs : List (List Int)} (hP : Parts (sOf L) L.length gs) (hL : ∀ (k : Nat) v, L[k]? = some v → size v < 2 ^ 40) (hN : L.length < 2 ^ 40) {i : Nat} (hi : i < L.length) :
  iter (law18_HashParts_L4 L (i : Int) (ofL gs L.length)) (0 : Int) = some (.jmp 8 (i : Int)) := by
 have h := iter_to (step := law18_HashParts_L4 L (i : Int) (ofL gs L.length)) (fun k => (k : Int)) i (fun k hk => by
  obtain ⟨x, hx⟩ : ∃ x, L[i]? = some x := ⟨_, List.getElem?_eq_getElem hi⟩
  obtain ⟨y, hy⟩ : ∃ y, L[k]? = some y := ⟨_, List.getElem?_eq_getElem (by omega)⟩
  have o1 : (ofL gs L.length)[i]? = some (ofV gs i) := map_get hi
  have o2 : (ofL gs L.length)[k]? = some (ofV gs k) := map_get (by omega)
  have hgo : w64 ((k : Int) + 1) = ((k + 1 : Nat) : Int) := by rw [w64_id (by omega) (by omega)]; rfl
  simp only [law18_HashParts_L4, rd_nat, hx, hy, o1, o2, Option.bind_some, sameS_eq hx hy (hL i x hx), hgo]
  rw [if_pos (by omega)]
  have hall := hP.all i k hi (by omega) (by omega)
  rcases ofV_cases gs i with ⟨e1, h1⟩ | ⟨q, r, e1, h1, h2⟩
  ·rw [e1, if_neg (by omega)]
   have : sOf L i k = false := by
    cases hb : sOf L i k with
    | false => rfl
    | true =>
     obtain ⟨r, hr, h3, _⟩ := hall.1 hb
     exact absurd h3 (h1 r hr)
   rw [this, if_pos rfl]
  ·rw [e1, if_pos (by omega)]
   have : (decide ((q : Int) = ofV gs k)) = sOf L i k := by
    rw [Bool.eq_iff_iff, decide_eq_true_iff, hall]
    constructor
    ·intro e
     rcases ofV_cases gs k with ⟨e3, _⟩ | ⟨q', r', e3, h5, h6⟩
     ·rw [e3] at e; omega
     ·have : q = q' := by rw [e3] at e; omega
      subst this
      rw [h1] at h5
      obtain rfl := Option.some.inj h5
      exact ⟨r, List.mem_of_getElem? h1, h2, h6⟩
    ·rintro ⟨t, ht, h3, h4⟩
     obtain ⟨p, hp⟩ := List.mem_iff_getElem?.1 ht
     have e3 := hP.dis p q t r hp h1 i h3 h2
     subst e3
     exact (ofV_some hP hp h4).symm
   rw [this, if_pos rfl])
 rw [show ((0 : Nat) : Int) = 0 from rfl] at h
 rw [h]
 apply iter_jmp
 simp only [law18_HashParts_L4]
 rw [if_neg (by omega)]
theorem parts_L3 {L : List Node} {gs : List (List Int)} (hP : Parts (sOf L) L.length gs) (hL : ∀ (k : Nat) v, L[k]? = some v → size v < 2 ^ 40) (hN : L.length < 2 ^ 40) :
  iter (law18_HashParts_L3 L (ofL gs L.length)) (0 : Int) = some (.jmp 6 (L.length : Int)) := by
 have h := iter_to (step := law18_HashParts_L3 L (ofL gs L.length)) (fun k => (k : Int)) L.length (fun k hk => by
  simp only [law18_HashParts_L3]
  rw [if_pos (by omega), parts_L4 hP hL hN hk, Option.bind_some, w64_id (by omega) (by omega)]; rfl)
 rw [show ((0 : Nat) : Int) = 0 from rfl] at h
 rw [h]
 apply iter_jmp
 simp only [law18_HashParts_L3]
 rw [if_neg (by omega)]
theorem parts_L0 {L : List Node} (gs : List (List Int)) (hN : L.length < 2 ^ 40) : iter (law18_HashParts_L0 L gs) ((0 : Int), ([] : List Int)) = some (.jmp 0 ((L.length : Int), ofL [] L.length)) := by
 have h := iter_to (step := law18_HashParts_L0 L gs) (fun k => ((k : Int), ofL [] k)) L.length (fun k hk => by
  have hl : (ofL [] k).length = k := by unfold ofL; simp
  have hs : ofL [] (k + 1) = ofL [] k ++ [-1] := by
   unfold ofL
   rw [List.range_succ, List.map_append]; rfl
  simp only [law18_HashParts_L0]
  rw [if_pos (by omega), if_pos (by omega), w64_id (by omega) (by omega), hs]; rfl)
 have e0 : (((0 : Nat) : Int), ofL [] 0) = ((0 : Int), ([] : List Int)) := rfl
 rw [e0] at h
 rw [h]
 apply iter_jmp
 simp only [law18_HashParts_L0]
 rw [if_neg (by omega)]
theorem plain_parts18 (x0 : Node) (w0 : Wf_Node x0) : law18_HashParts x0 = some true := by
 unfold law18_HashParts
 obtain ⟨r, e, hr⟩ := Light_ok (n := x0) (a := 60) (b := 60) (c := 4000) (by omega) (by omega) (by omega) (by omega) (by omega) (by omega)
 simp only [law18_awake, Option.bind_some, e]
 cases r with
 | false => rfl
 | true =>
  obtain ⟨h1, h2, h3⟩ := hr rfl
  have hn := subs_len x0
  have hL : ∀ (k : Nat) v, (subs x0)[k]? = some v → size v < 2 ^ 40 := fun k v hv => by
   have := subs_size x0 k v hv
   omega
  have hP := grps_parts (sOf_eqv (subs x0)) (size x0)
  have hsm := (grpsOf_small (sOf (subs x0)) (size x0)).1
  simp only [if_true]
  rw [groups_eq (by omega) (by omega), R06_List_eq (by omega)]
  simp only [Option.bind_some]
  generalize grpsOf (sOf (subs x0)) (size x0) = gs at hP hsm ⊢
  rw [← hn] at hP hsm
  generalize subs x0 = L at hn hL hP hsm ⊢
  rw [parts_L0 gs (by omega)]
  simp only [Option.bind_some]
  rw [parts_L1 hP (by omega) (by omega)]
  simp only [Option.bind_some]
  rw [parts_L3 hP hL (by omega)]
  rfl
end Xr

