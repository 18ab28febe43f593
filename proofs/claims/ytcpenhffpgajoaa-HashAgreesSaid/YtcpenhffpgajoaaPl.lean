/- A part of the proof: Pl. No conditions of its own. -/
import Derived.Test.YtcpenhffpgajoaaT
set_option linter.unusedVariables false
set_option linter.unusedSimpArgs false
namespace Xr
open Go Go.Ev
mutual
def hsP (q : Node → ByteArray) : Node → List Int
 | ⟨k, t, g, ks⟩ => mixI (hsF q ks (mixI (IntKind.wrap .u64 k) (sumI (q ⟨k, t, g, ks⟩)))) (IntKind.wrap .u64 (ks.length : Int)) :: hsK q ks
def hsK (q : Node → ByteArray) : List Node → List Int
 | [] => []
 | n :: ks => hsP q n ++ hsK q ks
def hsF (q : Node → ByteArray) : List Node → Int → Int
 | [], d => d
 | n :: ks, d => hsF q ks (mixI d ((hsP q n).headD 0))
end
theorem hsP_eq (q : Node → ByteArray) (n : Node) : hsP q n = mixI (hsF q n.Kids (mixI (IntKind.wrap .u64 n.Kind) (sumI (q n)))) (IntKind.wrap .u64 (n.Kids.length : Int)) :: hsK q n.Kids := by cases n; simp only [hsP]
mutual
theorem hsP_len (q : Node → ByteArray) : ∀ n : Node, (hsP q n).length = size n
 | ⟨k, t, g, ks⟩ => by simp only [hsP, size, List.length_cons, hsK_len q ks]; omega
theorem hsK_len (q : Node → ByteArray) : ∀ l : List Node, (hsK q l).length = sizes l
 | [] => by simp only [hsK, sizes, List.length_nil]
 | n :: ks => by simp only [hsK, sizes, List.length_append, hsP_len q n, hsK_len q ks]
end
def bareQ (b : Bool) (n : Node) : ByteArray := if b then ByteArray.mk #[] else n.Text
theorem bareQ_size (b : Bool) (n : Node) : (bareQ b n).size ≤ n.Text.size := by
 unfold bareQ
 cases b
 ·exact Nat.le_refl _
 ·exact Nat.zero_le _
mutual
theorem hsO_eq {p : Node → Option ByteArray} {b : Bool} (hp : ∀ n, p n = some (bareQ b n)) : ∀ n : Node, weight n < 2 ^ 40 → hsO p n = some (hsP (bareQ b) n)
 | ⟨k, t, g, ks⟩, h => by
  have hw := weight_eq ⟨k, t, g, ks⟩
  simp only at hw
  have hq := bareQ_size b ⟨k, t, g, ks⟩
  simp only at hq
  simp only [hsO, hp, Option.bind_some, hsL_eq hp ks _ (show weights ks < 2 ^ 40 by omega), hsP, Option.map_some]
  rw [if_pos (by omega)]
theorem hsL_eq {p : Node → Option ByteArray} {b : Bool} (hp : ∀ n, p n = some (bareQ b n)) : ∀ (l : List Node) (d : Int), weights l < 2 ^ 40 → hsL p l d = some (hsF (bareQ b) l d, hsK (bareQ b) l)
 | [], d, h => by simp only [hsL, hsF, hsK]
 | n :: ks, d, h => by
  simp only [weights] at h
  simp only [hsL, hsF, hsK, hsO_eq hp n (by omega), Option.bind_some, hsL_eq hp ks _ (show weights ks < 2 ^ 40 by omega), Option.map_some]
end
theorem fill_eq {p : Node → Option ByteArray} {b : Bool} (hp : ∀ n, p n = some (bareQ b n)) {n : Node} (hs : size n < 2 ^ 30) (hw : weight n < 2 ^ 40) : (hash_fillS p ([] : List Int) n).bind (fun r => some r.1) = some (hsP (bareQ b) n) := by
 unfold hash_fillS
 rw [if_pos (by simpa using hs), hsO_eq hp n hw]
 rfl
theorem exact_eq {n : Node} (hs : size n < 2 ^ 30) (hw : weight n < 2 ^ 40) : hash_Exact n = some (hsP (bareQ false) n) := fill_eq (p := hash_Exact_c1) (b := false) (fun n => rfl) hs hw
theorem shape_eq {n : Node} (hs : size n < 2 ^ 30) (hw : weight n < 2 ^ 40) : hash_Shape n = some (hsP (bareQ true) n) := fill_eq (p := hash_Shape_c1) (b := true) (fun n => rfl) hs hw
theorem R18_Same_refl {l : List Int} (hl : l.length < 2 ^ 40) : R18_Same l l = some true := by
 unfold R18_Same
 rw [if_pos rfl]
 have := iter_to (step := R18_Same_L0 l l) (fun i => (i : Int)) l.length (fun i hi => by
  simp only [R18_Same_L0, rd_nat, List.getElem?_eq_getElem hi, Option.bind_some, if_true]
  rw [if_pos (by omega), w64_id (by omega) (by omega)]; rfl)
 rw [show ((0 : Nat) : Int) = 0 from rfl] at this
 rw [this, iter_jmp (n := 0) (s' := (l.length : Int)) (by simp only [R18_Same_L0]; rw [if_neg (by omega)])]
 rfl
theorem Light_ok {n : Node} {a b c : Int} (ha : 0 ≤ a) (ha2 : a < 2 ^ 30) (hb : 0 ≤ b) (hb2 : b < 2 ^ 30) (hc : 0 ≤ c) (hc2 : c < 2 ^ 30) : ∃ r, R06_Light n a b c = some r ∧ (r = true → (size n : Int) ≤ a ∧ (height n : Int) ≤ b ∧ (weight n : Int) ≤ c) := by
 unfold R06_Light R06_Fits R06_leftS
 rw [if_pos (by omega)]
 simp only [Option.bind_some]
 by_cases hf : (size n : Int) ≤ a ∧ (height n : Int) ≤ b
 ·have e : leftV n a b = a - size n := if_pos hf
  rw [e, if_pos (by simp only [decide_eq_true_eq]; omega)]
  unfold R06_weighS
  rw [if_pos (by omega)]
  simp only [Option.bind_some]
  refine ⟨_, rfl, fun h => ⟨hf.1, hf.2, ?_⟩⟩
  by_cases hw : (weight n : Int) ≤ c
  ·exact hw
  ·rw [if_neg hw] at h; simp at h
 ·have e : leftV n a b = -1 := if_neg hf
  rw [e, if_neg (by decide)]
  exact ⟨_, rfl, fun h => by cases h⟩
end Xr

set_option linter.unusedVariables false
set_option linter.unusedSimpArgs false
namespace Xr
open Go Go.Ev
mutual
theorem hsP_bar (b : Bool) : ∀ n : Node, hsP (bareQ b) (barV n) = hsP (bareQ b) n
 | ⟨k, t, g, ks⟩ => by
  simp only [barV, hsP, hsF_bar b ks, hsK_bar b ks]
  rw [barVs_map, List.length_map]
  rfl
theorem hsK_bar (b : Bool) : ∀ l : List Node, hsK (bareQ b) (barVs l) = hsK (bareQ b) l
 | [] => by simp only [barVs]
 | n :: ks => by simp only [barVs, hsK, hsP_bar b n, hsK_bar b ks]
theorem hsF_bar (b : Bool) : ∀ (l : List Node) (d : Int), hsF (bareQ b) (barVs l) d = hsF (bareQ b) l d
 | [], d => by simp only [barVs]
 | n :: ks, d => by simp only [barVs, hsF, hsP_bar b n, hsF_bar b ks]
end
mutual
theorem size_bar : ∀ n : Node, size (barV n) = size n
 | ⟨k, t, g, ks⟩ => by simp only [barV, size, sizes_bar ks]
theorem sizes_bar : ∀ l : List Node, sizes (barVs l) = sizes l
 | [] => by simp only [barVs]
 | n :: ks => by simp only [barVs, sizes, size_bar n, sizes_bar ks]
end
mutual
theorem weight_bar : ∀ n : Node, weight (barV n) ≤ weight n
 | ⟨k, t, g, ks⟩ => by
  have := weights_bar ks
  simp only [barV, weight, gapW]; omega
theorem weights_bar : ∀ l : List Node, weights (barVs l) ≤ weights l
 | [] => by simp only [barVs]; exact Nat.le_refl _
 | n :: ks => by
  have := weight_bar n
  have := weights_bar ks
  simp only [barVs, weights]; omega
end
mutual
theorem subs_small : ∀ (n : Node) (i : Nat) (v : Node), (subs n)[i]? = some v → size v ≤ size n ∧ weight v ≤ weight n
 | ⟨k, t, g, ks⟩, i, v, h => by
  simp only [subs] at h
  cases i with
  | zero =>
   simp only [List.getElem?_cons_zero, Option.some.injEq] at h
   subst h
   exact ⟨Nat.le_refl _, Nat.le_refl _⟩
  | succ i =>
   simp only [List.getElem?_cons_succ] at h
   have := subss_small ks i v h
   simp only [size, weight]; omega
theorem subss_small : ∀ (l : List Node) (i : Nat) (v : Node), (subss l)[i]? = some v → size v ≤ sizes l ∧ weight v ≤ weights l
 | [], i, v, h => by simp [subss] at h
 | n :: ks, i, v, h => by
  simp only [subss] at h
  simp only [sizes, weights]
  by_cases hi : i < (subs n).length
  ·rw [List.getElem?_append_left hi] at h
   have := subs_small n i v h
   omega
  ·rw [List.getElem?_append_right (by omega)] at h
   have := subss_small ks _ v h
   omega
end
mutual
theorem hsP_sub (q : Node → ByteArray) : ∀ (n : Node) (i : Nat) (v : Node), (subs n)[i]? = some v → (hsP q n)[i]? = (hsP q v)[0]?
 | ⟨k, t, g, ks⟩, i, v, h => by
  simp only [subs] at h
  cases i with
  | zero =>
   simp only [List.getElem?_cons_zero, Option.some.injEq] at h
   subst h; rfl
  | succ i =>
   simp only [List.getElem?_cons_succ] at h
   have := hsK_sub q ks i v h
   simp only [hsP, List.getElem?_cons_succ]
   exact this
theorem hsK_sub (q : Node → ByteArray) : ∀ (l : List Node) (i : Nat) (v : Node), (subss l)[i]? = some v → (hsK q l)[i]? = (hsP q v)[0]?
 | [], i, v, h => by simp [subss] at h
 | n :: ks, i, v, h => by
  simp only [subss] at h
  simp only [hsK]
  by_cases hi : i < (subs n).length
  ·rw [List.getElem?_append_left hi] at h
   rw [List.getElem?_append_left (by rw [hsP_len, ← subs_len]; exact hi)]
   exact hsP_sub q n i v h
  ·rw [List.getElem?_append_right (by omega)] at h
   rw [List.getElem?_append_right (by rw [hsP_len, ← subs_len]; omega), hsP_len, ← subs_len]
   exact hsK_sub q ks _ v h
end
open Classical in
theorem plain_agrees (x0 : Node) (w0 : Wf_Node x0) (x1 : Node) (w1 : Wf_Node x1) (x2 : Int) (w2 : wfInt .i64 x2) (x3 : ByteArray) (w3 : wfStr x3) : law18_HashAgrees x0 x1 x2 x3 = some true := by
 unfold law18_HashAgrees
 obtain ⟨r, e, hr⟩ := Light_ok (n := x0) (a := 200) (b := 60) (c := 8000) (by omega) (by omega) (by omega) (by omega) (by omega) (by omega)
 obtain ⟨r', e', hr'⟩ := Light_ok (n := x1) (a := 200) (b := 60) (c := 8000) (by omega) (by omega) (by omega) (by omega) (by omega) (by omega)
 rw [e, e']
 simp only [Option.bind_some, law18_awake]
 cases r with
 | false => rfl
 | true =>
 cases r' with
 | false => rfl
 | true =>
 simp only [if_true]
 by_cases h3 : (1000 : Int) < (x3.size : Int)
 ·rw [if_pos h3]
 rw [if_neg h3]
 obtain ⟨a1, a2, a3⟩ := hr rfl
 obtain ⟨b1, b2, b3⟩ := hr' rfl
 have s0 : size x0 < 2 ^ 30 := by omega
 have v0 : weight x0 < 2 ^ 40 := by omega
 have s1 : size x1 < 2 ^ 30 := by omega
 have v1 : weight x1 < 2 ^ 40 := by omega
 have l0 := hsP_len (bareQ false) x0
 have l1 := hsP_len (bareQ true) x0
 have hb := size_bar x0
 have hbw := weight_bar x0
 have eB : hash_Exact (barV x0) = some (hsP (bareQ false) x0) := by rw [exact_eq (by omega) (by omega), hsP_bar]
 have hB : R06_BareS x0 = some (barV x0) := if_pos (by omega)
 have hS : R06_SameS x0 x1 = some (decide (barV x0 = barV x1)) := if_pos (by omega)
 have hZ : R06_SizeS x0 = some (size x0 : Int) := if_pos (by omega)
 have sr0 : R18_Same (hsP (bareQ false) x0) (hsP (bareQ false) x0) = some true := R18_Same_refl (by omega)
 have sr1 : R18_Same (hsP (bareQ true) x0) (hsP (bareQ true) x0) = some true := R18_Same_refl (by omega)
 have eO : hash_Shape (Node.mk x0.Kind x3 ([] : List ByteArray) x0.Kids) = some (hsP (bareQ true) x0) := by
  have ew := weight_eq x0
  have es := size_eq x0
  rw [shape_eq (by rw [size_eq]; simp only; omega) (by rw [weight_eq]; simp only [gapW]; omega), hsP_eq, hsP_eq (bareQ true) x0]
  rfl
 have key : ∀ (A : Option Bool), A = some true → ((R06_At x0 x2).bind fun r52 =>
   if r52.2 = true then
    (hash_Exact r52.1).bind fun r56 =>
    (hash_Shape r52.1).bind fun r59 =>
    if (r56.length : Int) = (0 : Int) then some false else
     if (r59.length : Int) = (0 : Int) then some false else
      (rd r56 (0 : Int)).bind fun v64 =>
      (rd (hsP (bareQ false) x0) x2).bind fun v67 =>
      if v64 = v67 then
       (rd r59 (0 : Int)).bind fun v71 =>
       (rd (hsP (bareQ true) x0) x2).bind fun v74 =>
       if v71 = v74 then A else some false
      else some false
   else A) = some true := by
  intro A hA
  subst hA
  unfold R06_At
  by_cases hx : x2 < 0
  ·rw [if_pos hx]; rfl
  rw [if_neg hx]
  have hwx : x2 < 2 ^ 63 := by
   have h0 : (Lit.int .i64 x2).wf = true := w2
   simp only [Lit.wf, Bool.and_eq_true, decide_eq_true_eq] at h0
   have h1 : x2 ≤ IntKind.i64.max := h0.2
   have h2 : IntKind.i64.max = 9223372036854775807 := by decide
   omega
  unfold R06_findS
  rw [if_pos (by omega)]
  simp only [Option.bind_some]
  unfold findL
  cases hv : (subs x0)[x2.toNat]? with
  | none => rfl
  | some v =>
   simp only [if_true]
   obtain ⟨c1, c2⟩ := subs_small x0 _ v hv
   have hp := size_pos v
   have m0 := hsP_len (bareQ false) v
   have m1 := hsP_len (bareQ true) v
   have g0 := hsP_sub (bareQ false) x0 _ v hv
   have g1 := hsP_sub (bareQ true) x0 _ v hv
   obtain ⟨z0, e0⟩ : ∃ z, (hsP (bareQ false) v)[0]? = some z := ⟨_, List.getElem?_eq_getElem (by omega)⟩
   obtain ⟨z1, e1⟩ : ∃ z, (hsP (bareQ true) v)[0]? = some z := ⟨_, List.getElem?_eq_getElem (by omega)⟩
   have r0 : rd (hsP (bareQ false) v) 0 = some z0 := e0
   have r1 : rd (hsP (bareQ true) v) 0 = some z1 := e1
   have r2 : rd (hsP (bareQ false) x0) x2 = some z0 := by unfold rd; rw [if_pos (by omega), g0, e0]
   have r3 : rd (hsP (bareQ true) x0) x2 = some z1 := by unfold rd; rw [if_pos (by omega), g1, e1]
   simp only [exact_eq (show size v < 2 ^ 30 by omega) (show weight v < 2 ^ 40 by omega), shape_eq (show size v < 2 ^ 30 by omega) (show weight v < 2 ^ 40 by omega), Option.bind_some, r0, r1, r2, r3, if_true]
   rw [if_neg (by omega), if_neg (by omega)]
 simp only [exact_eq s0 v0, shape_eq s0 v0, exact_eq s1 v1, shape_eq s1 v1, hZ, hS, hB, eB, eO, sr0, sr1, Option.bind_some, if_true, l0, l1]
 by_cases hs : barV x0 = barV x1
 ·have f0 : hsP (bareQ false) x1 = hsP (bareQ false) x0 := by rw [← hsP_bar, ← hs, hsP_bar]
  have f1 : hsP (bareQ true) x1 = hsP (bareQ true) x0 := by rw [← hsP_bar, ← hs, hsP_bar]
  simp only [hs, decide_true, if_true, f0, f1, sr0, sr1, Option.bind_some]
  exact key _ rfl
 ·simp only [decide_eq_false hs, Bool.false_eq_true, if_false]
  exact key _ rfl
end Xr

