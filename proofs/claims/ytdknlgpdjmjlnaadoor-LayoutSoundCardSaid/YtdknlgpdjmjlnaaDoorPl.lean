/- A part of the proof: Pl. No conditions of its own. -/
import Derived.Test.YtdknlgpdjmjlnaaDoorT
set_option linter.unusedVariables false
namespace Xr
open Go Go.Ev
theorem okN_mem {n k : Node} (h : okN n) (hk : k ∈ n.Kids) : okN k := by
  obtain ⟨i, hi⟩ := List.mem_iff_getElem?.1 hk
  exact okN_kid h hi
theorem size_mem' {n k : Node} (hk : k ∈ n.Kids) : size k < size n := by
  obtain ⟨i, hi⟩ := List.mem_iff_getElem?.1 hk
  exact kid_lt hi
mutual
theorem size_rep : ∀ n, size (repV n) = size n
  | ⟨k, t, g, ks⟩ => by simp only [repV, size, sizes_rep ks]
theorem sizes_rep : ∀ l, sizes (repVs l) = sizes l
  | [] => by simp only [repVs]
  | x :: l => by simp only [repVs, sizes, size_rep x, sizes_rep l]
end
theorem rep_own (n : Node) : R07_Own (repV n) = R07_Own n := by
  have e := repV_eq n
  exact own_of (by rw [e]) (by rw [e]) (by rw [e]; simp)
theorem allV_nil : allV [] := fun i hi => by simp at hi
theorem gaps_rep (n : Node) : (repV n).Gaps = if permV n = true then n.Gaps else [] := by rw [repV_eq]
theorem kids_rep (n : Node) : (repV n).Kids = n.Kids.map repV := by rw [repV_eq]
theorem rep_idem : ∀ (m : Nat) (n : Node), size n < m → okN n → repV (repV n) = repV n
  | 0, n, h, _ => by omega
  | m + 1, n, h, hok => by
    have hk := okN_len hok
    obtain ⟨v, hv, _⟩ := own_same n (by omega)
    have hp := perm_iff n hok hv
    have hp2 := perm_iff (repV n) (okN_rep n hok) ((rep_own n).trans hv)
    have eg := gaps_rep n
    have e := repV_eq n
    rw [repV_eq (repV n), kids_rep]
    have hkids : (n.Kids.map repV).map repV = n.Kids.map repV := by
      rw [List.map_map]
      apply List.map_congr_left
      intro k hkk
      exact rep_idem m k (by have := size_mem' hkk; omega) (okN_mem hok hkk)
    rw [hkids]
    have hgp : (if permV (repV n) = true then (repV n).Gaps else []) = (repV n).Gaps := by
      by_cases hpv : permV n = true
      · rw [if_pos hpv] at eg
        rw [if_pos (hp2.2 (by rw [eg]; exact hp.1 hpv))]
      · rw [if_neg hpv] at eg
        rw [eg]; simp
    rw [hgp]
    conv => rhs; rw [repV_eq n]
    rw [eg]
    congr 1
    · rw [e]
    · rw [e]
theorem rep_sound : ∀ (m : Nat) (n : Node), size n < m → okN n → firstV (barV n) = 0 → firstV (repV n) = 0
  | 0, n, h, _, _ => by omega
  | m + 1, n, h, hok, hf => by
    have hk := okN_len hok
    obtain ⟨v, hv, _⟩ := own_same n (by omega)
    have hob := okN_bar n hok
    have hor := okN_rep n hok
    have eb := barV_eq n
    have hvb : R07_Own (barV n) = some v := (own_of (by rw [eb]) (by rw [eb]) (by rw [eb]; simp)).trans hv
    obtain ⟨f1, f2⟩ := (firstV_zero _).1 hf
    obtain ⟨p1, _, _⟩ := (nodeV_zero _ hob hvb).1 f1
    refine (firstV_zero _).2 ⟨(nodeV_zero _ hor ((rep_own n).trans hv)).2 ⟨?_, ?_, ?_⟩, ?_⟩
    · rw [← pre_bar, bar_rep]; exact p1
    · intro hl
      rw [gaps_rep] at hl ⊢
      by_cases hpv : permV n = true
      · rw [if_pos hpv]; exact ((perm_iff n hok hv).1 hpv).1
      · rw [if_neg hpv] at hl; simp at hl
    · rw [gaps_rep]
      by_cases hpv : permV n = true
      · rw [if_pos hpv]; exact ((perm_iff n hok hv).1 hpv).2
      · rw [if_neg hpv]; exact allV_nil
    · intro k hkk
      rw [kids_rep] at hkk
      obtain ⟨c, hc, rfl⟩ := List.mem_map.1 hkk
      refine rep_sound m c (by have := size_mem' hc; omega) (okN_mem hok hc) (f2 _ ?_)
      rw [eb]
      exact List.mem_map.2 ⟨c, hc, rfl⟩
theorem rep_same : ∀ (m : Nat) (n : Node), size n < m → okN n → firstV n = 0 → repV n = n
  | 0, n, h, _, _ => by omega
  | m + 1, n, h, hok, hf => by
    have hk := okN_len hok
    obtain ⟨v, hv, _⟩ := own_same n (by omega)
    obtain ⟨f1, f2⟩ := (firstV_zero _).1 hf
    obtain ⟨_, q1, q2⟩ := (nodeV_zero _ hok hv).1 f1
    have hkids : n.Kids.map repV = n.Kids := by
      refine (List.map_congr_left (g := id) ?_).trans (List.map_id _)
      intro k hkk
      exact rep_same m k (by have := size_mem' hkk; omega) (okN_mem hok hkk) (f2 k hkk)
    have hg : (if permV n = true then n.Gaps else []) = n.Gaps := by
      by_cases hl : 0 < n.Gaps.length
      · rw [if_pos ((perm_iff n hok hv).2 ⟨q1 hl, q2⟩)]
      · have : n.Gaps = [] := List.length_eq_zero_iff.1 (by omega)
        rw [this]; simp
    rw [repV_eq, hkids, hg]
    clear hg hkids
    cases n; rfl
noncomputable def chkV (n : Node) : Int := if 4000 < szV n 1 then 3 else firstV n
theorem chk_eq (n : Node) (h : okN n) : R07_Check n = some (chkV n) := by
  unfold R07_Check R07_sizeS R07_firstS chkV
  rw [if_pos ⟨h, by omega, by omega⟩, if_pos h, Option.bind_some]
  by_cases hs : 4000 < szV n 1
  · rw [if_pos hs, if_pos hs]
  · rw [if_neg hs, if_neg hs]; rfl
theorem chk_zero (n : Node) : chkV n = 0 ↔ ¬ 4000 < szV n 1 ∧ firstV n = 0 := by
  unfold chkV
  by_cases hs : 4000 < szV n 1
  · rw [if_pos hs]; exact ⟨fun e => by omega, fun e => absurd hs e.1⟩
  · rw [if_neg hs]; exact ⟨fun e => ⟨hs, e⟩, fun e => e.2⟩
theorem wf_ok : ∀ (n : Nat) (x : Node), size x < n → Wf_Node x → okN x
  | 0, x, h, _ => by omega
  | n + 1, x, h, w => by
    cases w with
    | mk y0 y1 y2 y3 h0 h1 h2 h3 h4 =>
      have hr : reachBytes = 140737488351232 := rfl
      simp only [okN]
      refine ⟨⟨by have := h2.1.2; omega, fun t ht => ?_⟩, by omega, all_oks _ fun k hk => ?_⟩
      · have : t.size ≤ maxLen := h2.2 t ht
        have hm : maxLen < 2 ^ 63 := by decide
        unfold okT; omega
      · obtain ⟨i, hi⟩ := List.mem_iff_getElem?.1 hk
        have := kid_lt (n := ⟨y0, y1, y2, y3⟩) hi
        exact wf_ok n k (by omega) (h4 k hk)
theorem awake_eq : law33_awake = some true := rfl
theorem small_eq (x : Node) : law33_small x = some (decide (0 ≤ leftV x 60 30)) := by
  unfold law33_small R06_Fits R06_leftS
  rw [if_pos (by omega)]
  rfl
theorem repair_eq (x : Node) (hok : okN x) (hz : size x ≤ 60) : layout_Repair x = some (repV x) := by
  unfold layout_Repair layout_mapped mappedS
  rw [if_pos ⟨hok, by omega, by omega, by omega⟩]
  rfl
theorem equal_eq {a b : Node} (h : okN a) (e : a = b) : R06_EqualS a b = some true := by
  classical
  unfold R06_EqualS
  rw [if_pos h, decide_eq_true e]
theorem plain_sound (x0 : Node) (w0 : Wf_Node x0) : law33_LayoutSound x0 = some true := by
  classical
  unfold law33_LayoutSound
  rw [small_eq, Option.bind_some, awake_eq]
  by_cases hs : 0 ≤ leftV x0 60 30
  case neg => rw [decide_eq_false hs, if_neg (by simp)]; rfl
  rw [decide_eq_true hs, if_pos rfl]
  have hz : (size x0 : Int) ≤ 60 := by
    unfold leftV at hs
    by_cases h : (size x0 : Int) ≤ 60 ∧ (height x0 : Int) ≤ 30
    · exact h.1
    · rw [if_neg h] at hs; omega
  have hok := wf_ok _ x0 (Nat.lt_succ_self _) w0
  have hor := okN_rep x0 hok
  have hob := okN_bar x0 hok
  have e2 : R06_SameS (repV x0) x0 = some true := by
    unfold R06_SameS
    rw [if_pos hor, decide_eq_true (bar_rep x0)]
  have e3 : R06_BareS x0 = some (barV x0) := by
    unfold R06_BareS
    rw [if_pos hok]
  have idem := rep_idem _ x0 (Nat.lt_succ_self _) hok
  rw [repair_eq x0 hok (by omega), Option.bind_some, e2, Option.bind_some, if_pos rfl, repair_eq (repV x0) hor (by rw [size_rep]; omega), Option.bind_some, equal_eq (okN_rep _ hor) idem, Option.bind_some, if_pos rfl, e3, Option.bind_some, chk_eq _ hob, Option.bind_some]
  have sb : szV (repV x0) 1 = szV (barV x0) 1 := by rw [← szV_bar (repV x0), bar_rep]
  have hA : chkV (barV x0) = 0 → chkV (repV x0) = 0 := fun e => by
    obtain ⟨a, b⟩ := (chk_zero _).1 e
    exact (chk_zero _).2 ⟨by rw [sb]; exact a, rep_sound _ x0 (Nat.lt_succ_self _) hok b⟩
  have hB : chkV x0 = 0 → R06_EqualS (repV x0) x0 = some true := fun e => by
    exact equal_eq hor (rep_same _ x0 (Nat.lt_succ_self _) hok ((chk_zero _).1 e).2)
  simp only [chk_eq _ hor, chk_eq _ hok, Option.bind_some]
  by_cases c1 : chkV (barV x0) = 0
  · rw [if_pos c1, if_pos (hA c1)]
    by_cases c2 : chkV x0 = 0
    · rw [if_pos c2, hB c2]; rfl
    · rw [if_neg c2]
  · rw [if_neg c1]
    by_cases c2 : chkV x0 = 0
    · rw [if_pos c2, hB c2]; rfl
    · rw [if_neg c2]
end Xr

