/- A part of the proof: Pl. No conditions of its own. -/
import Derived.Test.YtdknlgpdjmjlnaaDoorT
set_option linter.unusedVariables false
namespace Xl
open Go Go.Ev
def Bd (l : List ByteArray) : Prop := l.length * 16 ≤ 140737488351232
theorem bd_wf {l : List ByteArray} (h : WfL 16 wfStr l) : Bd l := by
  have := h.1.2
  have hr : reachBytes = 140737488351232 := rfl
  unfold Bd; omega
def greaterV (a b : ByteArray) : ByteArray := if b.size < a.size then a else if a.size = b.size then (if (strLt a b || decide (a = b)) = true then b else a) else b
def elemV (b l r : ByteArray) : ByteArray := if l = r then l else if r = b then l else if l = b then r else greaterV l r
theorem greater_eq (a b : ByteArray) : layout_greater a b = some (greaterV a b) := by
  unfold layout_greater greaterV
  by_cases h1 : b.size < a.size
  · rw [if_pos (by omega), if_pos h1]
  · rw [if_neg (by omega), if_neg h1]
    by_cases h2 : a.size = b.size
    · rw [if_pos (by omega), if_pos h2]; split <;> rfl
    · rw [if_neg (by omega), if_neg h2]
theorem greater_ref (a b : ByteArray) : R33_greater a b = some (greaterV a b) := greater_eq a b
theorem merged_eq (b l r : ByteArray) : layout_merged b l r = some (elemV b l r) := by
  unfold layout_merged elemV
  simp only [greater_eq, Option.bind_some]
  split
  · rfl
  · split
    · rfl
    · split <;> rfl
theorem element_eq (b l r : ByteArray) : R33_element b l r = some (elemV b l r) := merged_eq b l r
theorem greater_same (a : ByteArray) : greaterV a a = a := by simp [greaterV]
theorem cmp_iter (step : Int → Option (Out Int Bool)) (a b : List ByteArray) (hl : a.length = b.length) (hb : a.length < 2 ^ 60)
    (hs : ∀ (i : Nat) (h : i < a.length) (h' : i < b.length), step i = if a[i] = b[i] then some (.next (((i + 1 : Nat)) : Int)) else some (.ret false)) (he : step (a.length : Int) = some (.jmp 0 (a.length : Int))) :
    iter step 0 = if a = b then some (.jmp 0 (a.length : Int)) else some (.ret false) := by
  classical
  have := iter_all (step := step) (fun i => (i : Int)) (fun i => a[i]? = b[i]?) false 0 (a.length : Int) a.length (fun i hi _ => by
    have h' : i < b.length := by omega
    rw [hs i hi h', List.getElem?_eq_getElem hi, List.getElem?_eq_getElem h']
    simp only [Option.some.injEq]) (fun _ => he)
  have e0 : iter step ((0 : Nat) : Int) = iter step 0 := rfl
  rw [← e0, this]
  by_cases hab : a = b
  · rw [if_pos hab, if_pos (fun i _ => by rw [hab])]
  · rw [if_neg hab, if_neg]
    intro h
    apply hab
    apply List.ext_getElem?
    intro i
    by_cases hi : i < a.length
    · exact h i hi
    · rw [List.getElem?_eq_none (by omega), List.getElem?_eq_none (by omega)]
theorem strings_eq (a b : List ByteArray) (ha : Bd a) : R03_Strings a b = some (decide (a = b)) := by
  unfold R03_Strings
  unfold Bd at ha
  by_cases hl : a.length = b.length
  · rw [if_pos (by omega), cmp_iter (R03_Strings_L0 a b) a b hl (by omega) (fun i h h' => by
      simp only [R03_Strings_L0, rd_nat, List.getElem?_eq_getElem h, List.getElem?_eq_getElem h', Option.bind_some]
      rw [if_pos (by omega), w64_succ (by omega)]) (by simp only [R03_Strings_L0]; rw [if_neg (by omega)])]
    by_cases hab : a = b
    · rw [if_pos hab, decide_eq_true hab]; rfl
    · rw [if_neg hab, decide_eq_false hab]; rfl
  · rw [if_neg (by omega), decide_eq_false (fun e => hl (by rw [e]))]
theorem equal_eq (a b : List ByteArray) (ha : Bd a) : layout_Equal a b = some (decide (a = b)) := by
  unfold layout_Equal slices_Equal_string_string
  unfold Bd at ha
  by_cases hl : a.length = b.length
  · rw [if_pos (by omega), cmp_iter (slices_Equal_string_string_L0 a b (a.length : Int)) a b hl (by omega) (fun i h h' => by
      simp only [slices_Equal_string_string_L0, rd_nat, List.getElem?_eq_getElem h, List.getElem?_eq_getElem h', Option.bind_some]
      rw [if_pos (by omega), w64_succ (by omega)]) (by simp only [slices_Equal_string_string_L0]; rw [if_neg (by omega)])]
    by_cases hab : a = b
    · rw [if_pos hab, decide_eq_true hab]; rfl
    · rw [if_neg hab, decide_eq_false hab]; rfl
  · rw [if_neg (by omega), decide_eq_false (fun e => hl (by rw [e]))]; rfl
theorem refEqual_eq (a b : List ByteArray) (ha : Bd a) : R33_Equal a b = some (decide (a = b)) := by
  unfold R33_Equal; rw [strings_eq a b ha]; rfl
theorem clone_eq (a : List ByteArray) (ha : Bd a) : slices_Clone_string_string a = some a := by
  unfold slices_Clone_string_string
  unfold Bd at ha
  rw [if_pos (by omega)]
def mv (b l r : List ByteArray) (i : Nat) : ByteArray :=
  if b.length = l.length then elemV (b.getD i .empty) (l.getD i .empty) (r.getD i .empty) else greaterV (l.getD i .empty) (r.getD i .empty)
def gather (b l r : List ByteArray) (n : Nat) : List ByteArray := (List.range n).map (mv b l r)
theorem gather_len (b l r : List ByteArray) (n : Nat) : (gather b l r n).length = n := by simp [gather]
theorem gather_succ (b l r : List ByteArray) (n : Nat) : gather b l r (n + 1) = gather b l r n ++ [mv b l r n] := by
  simp [gather, List.range_succ]
theorem getD_at {l : List ByteArray} {i : Nat} (h : i < l.length) : l.getD i .empty = l[i] := by simp [List.getD, h]
def gapsV (b l r : List ByteArray) (own : Int) : List ByteArray :=
  if l = r then (if (l.length : Int) = own then l else [])
  else if r = b then (if (l.length : Int) = own then l else [])
  else if l = b then (if (r.length : Int) = own then r else [])
  else if l.length = r.length then (if (l.length : Int) = own then gather b l r l.length else [])
  else if (l.length : Int) = own then l else if (r.length : Int) = own then r else []
theorem gaps_loop (b l r : List ByteArray) (own : Int) (hl : Bd l) (hlr : l.length = r.length) :
    iter (layout_Gaps_L0 b l r own (l.length : Int)) ((0 : Int), []) = some (.jmp 1 ((l.length : Int), gather b l r l.length)) := by
  unfold Bd at hl
  have h1 := iter_to (step := layout_Gaps_L0 b l r own (l.length : Int)) (fun i => ((i : Int), gather b l r i)) l.length (fun i hi => by
    have hg := gather_len b l r i
    have hr : i < r.length := by omega
    simp only [layout_Gaps_L0, rd_nat, List.getElem?_eq_getElem hi, Option.bind_some]
    rw [if_pos (by omega), gather_succ]
    by_cases hb : b.length = l.length
    · have hbi : i < b.length := by omega
      rw [if_pos (by omega)]
      simp only [List.getElem?_eq_getElem hbi, List.getElem?_eq_getElem hr, Option.bind_some, merged_eq]
      rw [if_pos (by omega), w64_succ (by omega)]
      simp only [mv, hb, if_true, getD_at hbi, getD_at hi, getD_at hr]
    · rw [if_neg (by omega)]
      simp only [List.getElem?_eq_getElem hr, Option.bind_some, greater_eq]
      have e : mv b l r i = greaterV l[i] r[i] := by simp only [mv, hb, if_false, getD_at hi, getD_at hr]
      by_cases he : l[i] = r[i]
      · rw [if_pos he, if_pos (by omega), w64_succ (by omega), e, ← he, greater_same]
      · rw [if_neg he, if_pos (by omega), w64_succ (by omega), e])
  have h2 : iter (layout_Gaps_L0 b l r own (l.length : Int)) ((0 : Int), []) = _ := h1
  rw [h2]
  refine iter_jmp ?_
  simp only [layout_Gaps_L0]
  rw [if_neg (by omega)]
theorem nil_own (own : Int) : (if ((0 : Nat) : Int) = own then some ([] : List ByteArray) else some []) = some [] := by split <;> rfl
theorem gaps_eq (b l r : List ByteArray) (own : Int) (hb : Bd b) (hl : Bd l) (hr : Bd r) : layout_Gaps b l r own = some (gapsV b l r own) := by
  unfold layout_Gaps gapsV
  simp only [equal_eq l r hl, equal_eq r b hr, equal_eq l b hl, clone_eq l hl, clone_eq r hr, Option.bind_some, decide_eq_true_eq]
  by_cases h1 : l = r
  · rw [if_pos h1, if_pos h1]; split <;> rfl
  rw [if_neg h1, if_neg h1]
  by_cases h2 : r = b
  · rw [if_pos h2, if_pos h2]; split <;> rfl
  rw [if_neg h2, if_neg h2]
  by_cases h3 : l = b
  · rw [if_pos h3, if_pos h3]; split <;> rfl
  rw [if_neg h3, if_neg h3]
  by_cases h4 : l.length = r.length
  · rw [if_pos (by omega), if_pos h4, gaps_loop b l r own hl h4, Option.bind_some]
    simp only [gather_len]
    split <;> rfl
  rw [if_neg (by omega), if_neg h4]
  by_cases h5 : (l.length : Int) = own
  · rw [if_pos h5, if_pos h5, if_pos h5]
  rw [if_neg h5, if_neg h5]
  by_cases h6 : (r.length : Int) = own
  · rw [if_pos h6, if_pos h6, if_pos h6]
  rw [if_neg h6, if_neg h6]
  exact nil_own own
theorem ref_loop (b l r : List ByteArray) (hl : Bd l) (hlr : l.length = r.length) :
    iter (R33_merged_L0 b l r) ((0 : Int), []) = some (.jmp 0 ((l.length : Int), gather b l r l.length)) := by
  unfold Bd at hl
  have h1 := iter_to (step := R33_merged_L0 b l r) (fun i => ((i : Int), gather b l r i)) l.length (fun i hi => by
    have hg := gather_len b l r i
    have hr : i < r.length := by omega
    simp only [R33_merged_L0, rd_nat]
    rw [if_pos (by omega), gather_succ]
    by_cases hb : b.length = l.length
    · have hbi : i < b.length := by omega
      rw [if_pos (by omega)]
      simp only [List.getElem?_eq_getElem hbi, List.getElem?_eq_getElem hi, List.getElem?_eq_getElem hr, Option.bind_some, element_eq]
      rw [if_pos (by omega), w64_succ (by omega)]
      simp only [mv, hb, if_true, getD_at hbi, getD_at hi, getD_at hr]
    · rw [if_neg (by omega)]
      simp only [List.getElem?_eq_getElem hi, List.getElem?_eq_getElem hr, Option.bind_some, greater_ref]
      rw [if_pos (by omega), w64_succ (by omega)]
      simp only [mv, hb, if_false, getD_at hi, getD_at hr])
  have h2 : iter (R33_merged_L0 b l r) ((0 : Int), []) = _ := h1
  rw [h2]
  refine iter_jmp ?_
  simp only [R33_merged_L0]
  rw [if_neg (by omega)]
theorem refGaps_eq (b l r : List ByteArray) (own : Int) (hb : Bd b) (hl : Bd l) (hr : Bd r) : R33_Gaps b l r own = some (gapsV b l r own) := by
  unfold R33_Gaps R33_merged gapsV
  simp only [refEqual_eq l r hl, refEqual_eq r b hr, refEqual_eq l b hl, Option.bind_some, decide_eq_true_eq]
  by_cases h1 : l = r
  · rw [if_pos h1, if_pos h1, Option.bind_some]; split <;> rfl
  rw [if_neg h1, if_neg h1]
  by_cases h2 : r = b
  · rw [if_pos h2, if_pos h2, Option.bind_some]; split <;> rfl
  rw [if_neg h2, if_neg h2]
  by_cases h3 : l = b
  · rw [if_pos h3, if_pos h3, Option.bind_some]; split <;> rfl
  rw [if_neg h3, if_neg h3]
  by_cases h4 : l.length = r.length
  · rw [if_pos (by omega), if_pos h4, ref_loop b l r hl h4, Option.bind_some]
    simp only [Option.bind_some, gather_len]
    split <;> rfl
  rw [if_neg (by omega), if_neg h4]
  by_cases h5 : (l.length : Int) = own
  · rw [if_pos h5, if_pos h5, Option.bind_some, if_pos h5]
  rw [if_neg h5, if_neg h5, Option.bind_some]
  split <;> rfl
theorem gaps_bd {b l r : List ByteArray} {own : Int} (hl : Bd l) (hr : Bd r) : Bd (gapsV b l r own) := by
  unfold gapsV Bd at *
  repeat' split
  all_goals first | omega | (rw [gather_len]; omega) | simp
theorem plain_merges (x0 : List ByteArray) (w0 : WfL 16 wfStr x0) (x1 : List ByteArray) (w1 : WfL 16 wfStr x1) (x2 : List ByteArray) (w2 : WfL 16 wfStr x2) (x3 : Int) (w3 : wfInt .i64 x3) : law33_LayoutMerges x0 x1 x2 x3 = some true := by
  have b0 := bd_wf w0
  have b1 := bd_wf w1
  have b2 := bd_wf w2
  unfold law33_LayoutMerges law33_awake
  simp only [gaps_eq x0 x1 x2 x3 b0 b1 b2, refGaps_eq x0 x1 x2 x3 b0 b1 b2, Option.bind_some, strings_eq _ _ (gaps_bd b1 b2), equal_eq x1 x2 b1, refEqual_eq x1 x2 b1, decide_true, if_true]
end Xl

