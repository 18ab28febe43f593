/- A part of the proof: Pl. No conditions of its own. -/
import Derived.Test.YtdknlgpdjmjlnaaDoorT
set_option linter.unusedVariables false
namespace Xl
open Go Go.Ev
def Bd (l : List ByteArray) : Prop := l.length * 16 ≤ 140737488351232
theorem bd_wf {l : List ByteArray} (h : WfL 16 wfStr l) : Bd l := by
  have := h.1.2
  have hr : reachBytes = 140737488351232 := rfl
  unfold Bd; omega
def greaterV (a b : ByteArray) : ByteArray := if b.size < a.size then a else if a.size = b.size then (if (strLt a b || decide (a = b)) = true then b else a) else b
def elemV (b l r : ByteArray) : ByteArray := if l = r then l else if r = b then l else if l = b then r else greaterV l r
theorem greater_eq (a b : ByteArray) : layout_greater a b = some (greaterV a b) := by
  unfold layout_greater greaterV
  by_cases h1 : b.size < a.size
  · rw [if_pos (by omega), if_pos h1]
  · rw [if_neg (by omega), if_neg h1]
    by_cases h2 : a.size = b.size
    · rw [if_pos (by omega), if_pos h2]; split <;> rfl
    · rw [if_neg (by omega), if_neg h2]
theorem merged_eq (b l r : ByteArray) : layout_merged b l r = some (elemV b l r) := by
  unfold layout_merged elemV
  simp only [greater_eq, Option.bind_some]
  split
  · rfl
  · split
    · rfl
    · split <;> rfl
theorem less_flip : ∀ (x y : List UInt8), x ≠ y → Op.bytesLess x y = !Op.bytesLess y x
  | [], [], h => absurd rfl h
  | [], b :: y, _ => rfl
  | a :: x, [], _ => rfl
  | a :: x, b :: y, h => by
    simp only [Op.bytesLess]
    by_cases hab : a = b
    · subst hab
      have hxy : x ≠ y := fun e => h (by rw [e])
      have := less_flip x y hxy
      simp [this]
    · have h1 : (a == b) = false := by simpa using hab
      have h2 : (b == a) = false := by simpa using Ne.symm hab
      have hn : a.toNat ≠ b.toNat := fun e => hab (UInt8.toNat_inj.1 e)
      simp only [h1, h2, Bool.false_and, Bool.or_false]
      rcases Nat.lt_or_gt_of_ne hn with h3 | h3
      · have e1 : decide (a < b) = true := decide_eq_true (UInt8.lt_iff_toNat_lt.2 h3)
        have e2 : decide (b < a) = false := decide_eq_false (fun h => by have := UInt8.lt_iff_toNat_lt.1 h; omega)
        rw [e1, e2]; rfl
      · have e1 : decide (a < b) = false := decide_eq_false (fun h => by have := UInt8.lt_iff_toNat_lt.1 h; omega)
        have e2 : decide (b < a) = true := decide_eq_true (UInt8.lt_iff_toNat_lt.2 h3)
        rw [e1, e2]; rfl
theorem toList_inj {a b : ByteArray} (h : a.toList = b.toList) : a = b := by
  have := toList_beq a b
  rw [h] at this
  simpa using this
theorem strLt_flip {a b : ByteArray} (h : a ≠ b) : strLt a b = !strLt b a := less_flip _ _ fun e => h (toList_inj e)
theorem greater_same (a : ByteArray) : greaterV a a = a := by simp [greaterV]
theorem greater_comm (a b : ByteArray) : greaterV a b = greaterV b a := by
  by_cases hab : a = b
  · subst hab; rfl
  · unfold greaterV
    have := strLt_flip hab
    rcases Nat.lt_trichotomy a.size b.size with h | h | h
    · rw [if_neg (by omega), if_neg (by omega), if_pos h]
    · simp only [h, Nat.lt_irrefl, if_false, if_true, this]
      cases strLt b a <;> simp [hab, Ne.symm hab]
    · rw [if_pos h, if_neg (by omega), if_neg (by omega)]
theorem greater_or (a b : ByteArray) : greaterV a b = a ∨ greaterV a b = b := by
  unfold greaterV
  split
  · exact .inl rfl
  · split
    · split
      · exact .inr rfl
      · exact .inl rfl
    · exact .inr rfl
theorem elem_comm (b l r : ByteArray) : elemV b l r = elemV b r l := by
  unfold elemV
  by_cases h1 : l = r
  · subst h1; simp
  · rw [if_neg h1, if_neg (Ne.symm h1)]
    by_cases h2 : r = b
    · rw [if_pos h2]
      by_cases h3 : l = b
      · exact absurd (h3.trans h2.symm) h1
      · rw [if_neg h3, if_pos h2]
    · rw [if_neg h2]
      by_cases h3 : l = b
      · rw [if_pos h3, if_pos h3]
      · rw [if_neg h3, if_neg h3, if_neg h2, greater_comm]
theorem elem_or (b l r : ByteArray) : elemV b l r = l ∨ elemV b l r = r := by
  unfold elemV
  split
  · exact .inl rfl
  · split
    · exact .inl rfl
    · split
      · exact .inr rfl
      · exact greater_or l r
theorem elem_left {b l r : ByteArray} (h : b = l) : elemV b l r = r := by
  subst h
  unfold elemV
  by_cases h1 : b = r
  · rw [if_pos h1]; exact h1
  · rw [if_neg h1, if_neg (Ne.symm h1), if_pos rfl]
theorem elem_right {b l r : ByteArray} (h : b = r) : elemV b l r = l := by
  rw [elem_comm]; exact elem_left h
theorem cmp_iter (step : Int → Option (Out Int Bool)) (a b : List ByteArray) (hl : a.length = b.length) (hb : a.length < 2 ^ 60)
    (hs : ∀ (i : Nat) (h : i < a.length) (h' : i < b.length), step i = if a[i] = b[i] then some (.next (((i + 1 : Nat)) : Int)) else some (.ret false)) (he : step (a.length : Int) = some (.jmp 0 (a.length : Int))) :
    iter step 0 = if a = b then some (.jmp 0 (a.length : Int)) else some (.ret false) := by
  classical
  have := iter_all (step := step) (fun i => (i : Int)) (fun i => a[i]? = b[i]?) false 0 (a.length : Int) a.length (fun i hi _ => by
    have h' : i < b.length := by omega
    rw [hs i hi h', List.getElem?_eq_getElem hi, List.getElem?_eq_getElem h']
    simp only [Option.some.injEq]) (fun _ => he)
  have e0 : iter step ((0 : Nat) : Int) = iter step 0 := rfl
  rw [← e0, this]
  by_cases hab : a = b
  · rw [if_pos hab, if_pos (fun i _ => by rw [hab])]
  · rw [if_neg hab, if_neg]
    intro h
    apply hab
    apply List.ext_getElem?
    intro i
    by_cases hi : i < a.length
    · exact h i hi
    · rw [List.getElem?_eq_none (by omega), List.getElem?_eq_none (by omega)]
theorem strings_eq (a b : List ByteArray) (ha : Bd a) : R03_Strings a b = some (decide (a = b)) := by
  unfold R03_Strings
  unfold Bd at ha
  by_cases hl : a.length = b.length
  · rw [if_pos (by omega), cmp_iter (R03_Strings_L0 a b) a b hl (by omega) (fun i h h' => by
      simp only [R03_Strings_L0, rd_nat, List.getElem?_eq_getElem h, List.getElem?_eq_getElem h', Option.bind_some]
      rw [if_pos (by omega), w64_succ (by omega)]) (by simp only [R03_Strings_L0]; rw [if_neg (by omega)])]
    by_cases hab : a = b
    · rw [if_pos hab, decide_eq_true hab]; rfl
    · rw [if_neg hab, decide_eq_false hab]; rfl
  · rw [if_neg (by omega), decide_eq_false (fun e => hl (by rw [e]))]
theorem equal_eq (a b : List ByteArray) (ha : Bd a) : layout_Equal a b = some (decide (a = b)) := by
  unfold layout_Equal slices_Equal_string_string
  unfold Bd at ha
  by_cases hl : a.length = b.length
  · rw [if_pos (by omega), cmp_iter (slices_Equal_string_string_L0 a b (a.length : Int)) a b hl (by omega) (fun i h h' => by
      simp only [slices_Equal_string_string_L0, rd_nat, List.getElem?_eq_getElem h, List.getElem?_eq_getElem h', Option.bind_some]
      rw [if_pos (by omega), w64_succ (by omega)]) (by simp only [slices_Equal_string_string_L0]; rw [if_neg (by omega)])]
    by_cases hab : a = b
    · rw [if_pos hab, decide_eq_true hab]; rfl
    · rw [if_neg hab, decide_eq_false hab]; rfl
  · rw [if_neg (by omega), decide_eq_false (fun e => hl (by rw [e]))]; rfl
theorem clone_eq (a : List ByteArray) (ha : Bd a) : slices_Clone_string_string a = some a := by
  unfold slices_Clone_string_string
  unfold Bd at ha
  rw [if_pos (by omega)]
def mv (b l r : List ByteArray) (i : Nat) : ByteArray :=
  if b.length = l.length then elemV (b.getD i .empty) (l.getD i .empty) (r.getD i .empty) else greaterV (l.getD i .empty) (r.getD i .empty)
def gather (b l r : List ByteArray) (n : Nat) : List ByteArray := (List.range n).map (mv b l r)
theorem gather_len (b l r : List ByteArray) (n : Nat) : (gather b l r n).length = n := by simp [gather]
theorem gather_succ (b l r : List ByteArray) (n : Nat) : gather b l r (n + 1) = gather b l r n ++ [mv b l r n] := by
  simp [gather, List.range_succ]
theorem getD_at {l : List ByteArray} {i : Nat} (h : i < l.length) : l.getD i .empty = l[i] := by simp [List.getD, h]
def gapsV (b l r : List ByteArray) (own : Int) : List ByteArray :=
  if l = r then (if (l.length : Int) = own then l else [])
  else if r = b then (if (l.length : Int) = own then l else [])
  else if l = b then (if (r.length : Int) = own then r else [])
  else if l.length = r.length then (if (l.length : Int) = own then gather b l r l.length else [])
  else if (l.length : Int) = own then l else if (r.length : Int) = own then r else []
theorem gaps_loop (b l r : List ByteArray) (own : Int) (hl : Bd l) (hlr : l.length = r.length) :
    iter (layout_Gaps_L0 b l r own (l.length : Int)) ((0 : Int), []) = some (.jmp 1 ((l.length : Int), gather b l r l.length)) := by
  unfold Bd at hl
  have h1 := iter_to (step := layout_Gaps_L0 b l r own (l.length : Int)) (fun i => ((i : Int), gather b l r i)) l.length (fun i hi => by
    have hg := gather_len b l r i
    have hr : i < r.length := by omega
    simp only [layout_Gaps_L0, rd_nat, List.getElem?_eq_getElem hi, Option.bind_some]
    rw [if_pos (by omega), gather_succ]
    by_cases hb : b.length = l.length
    · have hbi : i < b.length := by omega
      rw [if_pos (by omega)]
      simp only [List.getElem?_eq_getElem hbi, List.getElem?_eq_getElem hr, Option.bind_some, merged_eq]
      rw [if_pos (by omega), w64_succ (by omega)]
      simp only [mv, hb, if_true, getD_at hbi, getD_at hi, getD_at hr]
    · rw [if_neg (by omega)]
      simp only [List.getElem?_eq_getElem hr, Option.bind_some, greater_eq]
      have e : mv b l r i = greaterV l[i] r[i] := by simp only [mv, hb, if_false, getD_at hi, getD_at hr]
      by_cases he : l[i] = r[i]
      · rw [if_pos he, if_pos (by omega), w64_succ (by omega), e, ← he, greater_same]
      · rw [if_neg he, if_pos (by omega), w64_succ (by omega), e])
  have h2 : iter (layout_Gaps_L0 b l r own (l.length : Int)) ((0 : Int), []) = _ := h1
  rw [h2]
  refine iter_jmp ?_
  simp only [layout_Gaps_L0]
  rw [if_neg (by omega)]
theorem nil_own (own : Int) : (if ((0 : Nat) : Int) = own then some ([] : List ByteArray) else some []) = some [] := by split <;> rfl
theorem gaps_eq (b l r : List ByteArray) (own : Int) (hb : Bd b) (hl : Bd l) (hr : Bd r) : layout_Gaps b l r own = some (gapsV b l r own) := by
  unfold layout_Gaps gapsV
  simp only [equal_eq l r hl, equal_eq r b hr, equal_eq l b hl, clone_eq l hl, clone_eq r hr, Option.bind_some, decide_eq_true_eq]
  by_cases h1 : l = r
  · rw [if_pos h1, if_pos h1]; split <;> rfl
  rw [if_neg h1, if_neg h1]
  by_cases h2 : r = b
  · rw [if_pos h2, if_pos h2]; split <;> rfl
  rw [if_neg h2, if_neg h2]
  by_cases h3 : l = b
  · rw [if_pos h3, if_pos h3]; split <;> rfl
  rw [if_neg h3, if_neg h3]
  by_cases h4 : l.length = r.length
  · rw [if_pos (by omega), if_pos h4, gaps_loop b l r own hl h4, Option.bind_some]
    simp only [gather_len]
    split <;> rfl
  rw [if_neg (by omega), if_neg h4]
  by_cases h5 : (l.length : Int) = own
  · rw [if_pos h5, if_pos h5, if_pos h5]
  rw [if_neg h5, if_neg h5]
  by_cases h6 : (r.length : Int) = own
  · rw [if_pos h6, if_pos h6, if_pos h6]
  rw [if_neg h6, if_neg h6]
  exact nil_own own
theorem gaps_bd {b l r : List ByteArray} {own : Int} (hl : Bd l) (hr : Bd r) : Bd (gapsV b l r own) := by
  unfold gapsV Bd at *
  repeat' split
  all_goals first | omega | (rw [gather_len]; omega) | simp
theorem gaps_comm (b l r : List ByteArray) (own : Int) : gapsV b l r own = gapsV b r l own := by
  unfold gapsV
  by_cases h1 : l = r
  · subst h1; rfl
  rw [if_neg h1, if_neg (Ne.symm h1)]
  by_cases h2 : r = b
  · have h3 : ¬ l = b := fun e => h1 (e.trans h2.symm)
    rw [if_pos h2, if_neg h3, if_pos h2]
  rw [if_neg h2]
  by_cases h3 : l = b
  · rw [if_pos h3, if_pos h3]
  rw [if_neg h3, if_neg h3, if_neg h2]
  by_cases h4 : l.length = r.length
  · rw [if_pos h4, if_pos h4.symm, h4]
    have e : gather b l r r.length = gather b r l r.length := by
      unfold gather
      refine List.map_congr_left fun i hi => ?_
      unfold mv
      rw [h4, elem_comm, greater_comm]
    rw [e]
  rw [if_neg h4, if_neg (Ne.symm h4)]
  by_cases h5 : (l.length : Int) = own
  · rw [if_pos h5, if_neg (by omega), if_pos h5]
  · rw [if_neg h5, if_neg h5]
theorem gaps_base (b l : List ByteArray) (own : Int) : gapsV b l b own = if (l.length : Int) = own then l else [] := by
  unfold gapsV
  by_cases h1 : l = b
  · rw [if_pos h1]
  · rw [if_neg h1, if_pos rfl]
theorem gaps_len (b l r : List ByteArray) (own : Int) : ((gapsV b l r own).length : Int) = own ∨ gapsV b l r own = [] := by
  unfold gapsV
  repeat' split
  all_goals first | (left; rw [gather_len]; assumption) | (left; assumption) | exact .inr rfl
theorem gaps_all {b l r : List ByteArray} {own : Int} (hb : (b.length : Int) = own) (hl : (l.length : Int) = own) (hr : (r.length : Int) = own) : (gapsV b l r own).length = l.length ∧
    ∀ (i : Nat) (h : i < l.length), ((gapsV b l r own).getD i .empty = l.getD i .empty ∨ (gapsV b l r own).getD i .empty = r.getD i .empty) ∧
      (b.getD i .empty = l.getD i .empty → (gapsV b l r own).getD i .empty = r.getD i .empty) ∧ (b.getD i .empty = r.getD i .empty → (gapsV b l r own).getD i .empty = l.getD i .empty) := by
  unfold gapsV
  by_cases h1 : l = r
  · subst h1
    rw [if_pos rfl, if_pos hl]
    exact ⟨rfl, fun i h => ⟨.inl rfl, fun _ => rfl, fun _ => rfl⟩⟩
  rw [if_neg h1]
  by_cases h2 : r = b
  · subst h2
    rw [if_pos rfl, if_pos hl]
    exact ⟨rfl, fun i h => ⟨.inl rfl, fun e => e.symm, fun _ => rfl⟩⟩
  rw [if_neg h2]
  by_cases h3 : l = b
  · subst h3
    rw [if_pos rfl, if_pos hr]
    exact ⟨by omega, fun i h => ⟨.inr rfl, fun _ => rfl, fun e => e.symm⟩⟩
  rw [if_neg h3, if_pos (by omega), if_pos hl]
  refine ⟨gather_len _ _ _ _, fun i h => ?_⟩
  have e : (gather b l r l.length).getD i .empty = elemV (b.getD i .empty) (l.getD i .empty) (r.getD i .empty) := by
    have hb' : b.length = l.length := by omega
    simp [gather, List.getD, h, mv, hb']
  rw [e]
  exact ⟨elem_or _ _ _, elem_left, elem_right⟩
theorem keeps_loop (b l r g : List ByteArray) (hl : Bd l) (hg : g.length = l.length) (hb : b.length = l.length) (hr : r.length = l.length)
    (h : ∀ (i : Nat) (h : i < l.length), (g.getD i .empty = l.getD i .empty ∨ g.getD i .empty = r.getD i .empty) ∧ (b.getD i .empty = l.getD i .empty → g.getD i .empty = r.getD i .empty) ∧ (b.getD i .empty = r.getD i .empty → g.getD i .empty = l.getD i .empty)) :
    iter (law33_LayoutKeeps_L0 b l r g) (0 : Int) = some (.jmp 0 (l.length : Int)) := by
  unfold Bd at hl
  have h1 := iter_to (step := law33_LayoutKeeps_L0 b l r g) (fun i => (i : Int)) l.length (fun i hi => by
    have h2 := h i hi
    have gi : i < g.length := by omega
    have bi : i < b.length := by omega
    have ri : i < r.length := by omega
    rw [getD_at gi, getD_at hi, getD_at ri, getD_at bi] at h2
    obtain ⟨h3, h4, h5⟩ := h2
    simp only [law33_LayoutKeeps_L0, rd_nat, List.getElem?_eq_getElem gi, List.getElem?_eq_getElem hi, List.getElem?_eq_getElem bi, List.getElem?_eq_getElem ri, Option.bind_some, w64_succ (show i < 2 ^ 62 by omega)]
    rw [if_pos (by omega)]
    by_cases c1 : g[i] = l[i]
    · rw [if_pos c1]
      by_cases c2 : b[i] = l[i]
      · rw [if_pos c2, if_pos (h4 c2)]
        split <;> rfl
      · rw [if_neg c2]
        split <;> rfl
    · have c3 : g[i] = r[i] := by rcases h3 with e | e; exact absurd e c1; exact e
      rw [if_neg c1, if_pos c3]
      by_cases c4 : b[i] = r[i]
      · exact absurd (h5 c4) c1
      · by_cases c2 : b[i] = l[i]
        · rw [if_pos c2, if_neg c4]
        · rw [if_neg c2, if_neg c4])
  have h2 : iter (law33_LayoutKeeps_L0 b l r g) (0 : Int) = _ := h1
  rw [h2]
  refine iter_jmp ?_
  simp only [law33_LayoutKeeps_L0]
  rw [if_neg (by omega)]
theorem plain_keeps (x0 : List ByteArray) (w0 : WfL 16 wfStr x0) (x1 : List ByteArray) (w1 : WfL 16 wfStr x1) (x2 : List ByteArray) (w2 : WfL 16 wfStr x2) (x3 : Int) (w3 : wfInt .i64 x3) : law33_LayoutKeeps x0 x1 x2 x3 = some true := by
  have b0 := bd_wf w0
  have b1 := bd_wf w1
  have b2 := bd_wf w2
  unfold law33_LayoutKeeps law33_awake
  have hbb : Bd (if (x1.length : Int) = x3 then x1 else []) := by split; exact b1; unfold Bd; simp
  simp only [gaps_eq x0 x1 x2 x3 b0 b1 b2, gaps_eq x0 x2 x1 x3 b0 b2 b1, gaps_eq x0 x1 x0 x3 b0 b1 b0, gaps_base, ← gaps_comm x0 x1 x2, Option.bind_some, strings_eq _ _ (gaps_bd b1 b2), strings_eq _ _ hbb, decide_true, if_true]
  have hlen := gaps_len x0 x1 x2 x3
  generalize hg : gapsV x0 x1 x2 x3 = g at *
  have fin : ∀ (h0 : (x0.length : Int) = x3) (h1 : (x1.length : Int) = x3) (h2 : (x2.length : Int) = x3), (g.length : Int) = x3 ∧ iter (law33_LayoutKeeps_L0 x0 x1 x2 g) (0 : Int) = some (.jmp 0 (x1.length : Int)) := by
    intro h0 h1 h2
    obtain ⟨h3, h4⟩ := gaps_all h0 h1 h2
    rw [hg] at h3 h4
    exact ⟨by omega, keeps_loop x0 x1 x2 g b1 h3 (by omega) (by omega) h4⟩
  by_cases c0 : (g.length : Int) = 0
  · rw [if_pos c0]
    by_cases c1 : (x1.length : Int) = x3
    · simp only [if_pos c1, decide_true, if_true]
      by_cases c2 : (x0.length : Int) = x3
      · rw [if_pos c2]
        by_cases c3 : (x2.length : Int) = x3
        · obtain ⟨f1, f2⟩ := fin c2 c1 c3
          rw [if_pos c3, if_pos f1, f2]; rfl
        · rw [if_neg c3]
      · rw [if_neg c2]
    · simp only [if_neg c1, List.length_nil]
      rw [if_pos (by rfl)]
      split <;> rfl
  · have c4 : (g.length : Int) = x3 := by
      rcases hlen with h | h
      · exact h
      · rw [h] at c0; exact absurd rfl c0
    rw [if_neg c0, if_pos c4]
    by_cases c1 : (x1.length : Int) = x3
    · simp only [if_pos c1, decide_true, if_true]
      by_cases c2 : (x0.length : Int) = x3
      · rw [if_pos c2]
        by_cases c3 : (x2.length : Int) = x3
        · obtain ⟨f1, f2⟩ := fin c2 c1 c3
          rw [if_pos c3, f2]; rfl
        · rw [if_neg c3]
      · rw [if_neg c2]
    · simp only [if_neg c1, List.length_nil]
      rw [if_pos (by rfl)]
      split <;> rfl
end Xl

