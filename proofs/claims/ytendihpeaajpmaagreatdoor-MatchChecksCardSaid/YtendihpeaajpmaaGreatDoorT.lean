/- A part of the proof: T. No conditions of its own. -/
import Derived.Test.YtendihpeaajpmaaGreatDoorE5
namespace Xr
open Go Go.Ev
set_option linter.unusedSimpArgs false
set_option linter.unusedVariables false
set_option linter.defProp false
def en_i64 (x : Int) : List Pv := [.v (.int .i64 x)]
theorem en_i64_eq (x : Int) : en_i64 x = [.v (.int .i64 x)] := rfl
theorem en_i64_len (x : Int) : (en_i64 x).length = 1 := rfl
theorem en_i64_wk (x : Int) : wks (en_i64 x) = en_i64 x := rfl
def en_bool (x : Bool) : List Pv := [.v (.bool x)]
theorem en_bool_eq (x : Bool) : en_bool x = [.v (.bool x)] := rfl
theorem en_bool_len (x : Bool) : (en_bool x).length = 1 := rfl
def en_str (x : ByteArray) : List Pv := [.v (.string x)]
theorem en_str_eq (x : ByteArray) : en_str x = [.v (.string x)] := rfl
theorem en_str_len (x : ByteArray) : (en_str x).length = 1 := rfl
theorem en_str_wk (x : ByteArray) : wks (en_str x) = en_str x := rfl
structure Node where
 Kind : Int
 Text : ByteArray
 Gaps : (List ByteArray)
 Kids : (List Node)
mutual
def en_Node : Node → List Pv
 | ⟨y0, y1, y2, y3⟩ => [.v (.int .i64 y0), .v (.string y1), .lst false y2.length (encL en_str y2), .lst false y3.length (en_Node_all y3)]
def en_Node_all : List Node → List Pv
 | [] => []
 | x :: l => en_Node x ++ en_Node_all l
end
theorem en_Node_all_eq : ∀ l, en_Node_all l = encL en_Node l
 | [] => by simp [en_Node_all, encL]
 | x :: l => by rw [en_Node_all, encL_cons, en_Node_all_eq l]
theorem en_Node_eq (x : Node) : en_Node x = [.v (.int .i64 x.Kind), .v (.string x.Text), .lst false x.Gaps.length (encL en_str x.Gaps), .lst false x.Kids.length (encL en_Node x.Kids)] := by
 cases x
 simp only [en_Node, en_Node_all_eq]
theorem en_Node_len (x : Node) : (en_Node x).length = 4 := by rw [en_Node_eq]; rfl
abbrev pv_Node (x : Node) : List Pv := [.v (.int .i64 x.Kind), .v (.string x.Text), .lst false x.Gaps.length (encL en_str x.Gaps), .lst false x.Kids.length (encL en_Node x.Kids)]
mutual
theorem en_Node_wk : ∀ x, wks (en_Node x) = en_Node x
 | ⟨y0, y1, y2, y3⟩ => by simp only [en_Node, wk, wks, wks_encL en_str_wk, en_Node_all_wk y3]
theorem en_Node_all_wk : ∀ l, wks (en_Node_all l) = en_Node_all l
 | [] => by simp only [en_Node_all, wks]
 | x :: l => by simp only [en_Node_all, wks_append, en_Node_wk x, en_Node_all_wk l]
end
structure Pair where
 Old : Int
 New : Int
deriving instance DecidableEq for Pair
def en_Pair (x : Pair) : List Pv := [.v (.int .i64 x.Old), .v (.int .i64 x.New)]
theorem en_Pair_eq (x : Pair) : en_Pair x = [.v (.int .i64 x.Old), .v (.int .i64 x.New)] := rfl
theorem en_Pair_len (x : Pair) : (en_Pair x).length = 2 := by rw [en_Pair_eq]; rfl
theorem en_Pair_wk (x : Pair) : wks (en_Pair x) = en_Pair x := by simp only [en_Pair_eq, wk, wks]
structure Row where
 Parent : Int
 Kind : Int
 Text : ByteArray
 Gaps : (List ByteArray)
 Kids : (List Int)
def en_Row (x : Row) : List Pv := [.v (.int .i64 x.Parent), .v (.int .i64 x.Kind), .v (.string x.Text), .lst false x.Gaps.length (encL en_str x.Gaps), .lst false x.Kids.length (encL en_i64 x.Kids)]
theorem en_Row_eq (x : Row) : en_Row x = [.v (.int .i64 x.Parent), .v (.int .i64 x.Kind), .v (.string x.Text), .lst false x.Gaps.length (encL en_str x.Gaps), .lst false x.Kids.length (encL en_i64 x.Kids)] := rfl
theorem en_Row_len (x : Row) : (en_Row x).length = 5 := by rw [en_Row_eq]; rfl
theorem en_Row_wk (x : Row) : wks (en_Row x) = en_Row x := by simp only [en_Row_eq, wk, wks, wks_encL en_i64_wk, wks_encL en_str_wk]
theorem wksL_en_i64 (l) : wks (encL en_i64 l) = encL en_i64 l := wks_encL en_i64_wk l
theorem wksL_en_str (l) : wks (encL en_str l) = encL en_str l := wks_encL en_str_wk l
theorem wksL_en_Node (l) : wks (encL en_Node l) = encL en_Node l := wks_encL en_Node_wk l
theorem wksL_en_Pair (l) : wks (encL en_Pair l) = encL en_Pair l := wks_encL en_Pair_wk l
theorem wksL_en_Row (l) : wks (encL en_Row l) = encL en_Row l := wks_encL en_Row_wk l
def wkL := And.intro @wksL_en_Node (And.intro @wksL_en_Pair (And.intro @wksL_en_Row (And.intro @wksL_en_i64 (@wksL_en_str))))
inductive Wf_Node : Node → Prop
 | mk : ∀ y0 y1 y2 y3, wfInt .i64 y0 → wfStr y1 → WfL 16 wfStr y2 → (y3.length ≤ maxLen ∧ y3.length * 72 ≤ reachBytes) → (∀ x ∈ y3, Wf_Node x) → Wf_Node ⟨y0, y1, y2, y3⟩
structure Wf_Pair (x : Pair) : Prop where
 fOld : wfInt .i64 x.Old
 fNew : wfInt .i64 x.New
end Xr

namespace Xr
open Go Go.Ev
set_option linter.unusedSimpArgs false
set_option linter.unusedVariables false
set_option linter.defProp false
noncomputable def law24_Left_L0 (rec : Node → Int → Int → Option Int) (s2 : Int) (w0_0 : Int) (w0_1 : ByteArray) (w0_2 : (List ByteArray)) (w0_3 : (List Node)) : (Int × Int) → Option (Out (Int × Int) Int) := fun (s1, s7) =>
 if s7 < (w0_3.length : Int) then
  if (0 : Int) ≤ s1 then
   (rd w0_3 s7).bind fun v4 =>
   (rec v4 s1 (w64 (s2 - (1 : Int)))).bind fun r7 =>
   some (.next (r7, w64 (s7 + (1 : Int))))
  else
   some (.jmp 0 (s1, s7))
 else
  some (.jmp 0 (s1, s7))
noncomputable def law24_Left.body (rec : Node → Int → Int → Option Int) (x0 : Node) (x1 : Int) (x2 : Int) : Option Int :=
 if x2 = (0 : Int) then
  some (-1 : Int)
 else
  (iter (law24_Left_L0 rec x2 x0.Kind x0.Text x0.Gaps x0.Kids) (w64 (x1 - (1 : Int)), (0 : Int))).bind fun
   | .jmp _ (s1_11, s7_11) =>
    some s1_11
   | _ => none
noncomputable def tree_texts (x0 : (List ByteArray)) : Option (List ByteArray) :=
 if (x0.length : Int) = (0 : Int) then
  some ([] : List ByteArray)
 else
  if 0 ≤ (x0.length : Int) ∧ (x0.length : Int) * 16 ≤ 140737488355328 then
   some (cpL (List.replicate (x0.length : Int).toNat ByteArray.empty) x0)
  else none
noncomputable def tree_list_L0 (rec : (List Row) → Node → Int → Option (List Row)) (s7 : Int) (s35 : (List Node)) (s36 : Int) : (Int × (List Row) × (List Int)) → Option (Out (Int × (List Row) × (List Int)) (List Row)) := fun (s37, y1, y2) =>
 if s37 < s36 then
  (rd s35 s37).bind fun v10 =>
  (rd y2 s37).bind fun v13 =>
  (rec y1 v10 s7).bind fun r17 =>
  some (.next (w64 (s37 + (1 : Int)), r17, (y2.set s37.toNat (y1.length : Int))))
 else
  some (.jmp 0 (s37, y1, y2))
noncomputable def tree_list.body (rec : (List Row) → Node → Int → Option (List Row)) (x0 : (List Row)) (x1 : Node) (x2 : Int) : Option (List Row) :=
 (tree_texts x1.Gaps).bind fun r1 =>
 if (x0.length + 1) * 80 ≤ 140737488355328 then
  if (x1.Kids.length : Int) = (0 : Int) then
   some (x0 ++ [(Row.mk x2 x1.Kind x1.Text r1 ([] : List Int))])
  else
   if 0 ≤ (x1.Kids.length : Int) ∧ (x1.Kids.length : Int) * 8 ≤ 140737488355328 then
    (iter (tree_list_L0 rec (x0.length : Int) x1.Kids (x1.Kids.length : Int)) ((0 : Int), (x0 ++ [(Row.mk x2 x1.Kind x1.Text r1 ([] : List Int))]), (List.replicate (x1.Kids.length : Int).toNat (0 : Int)))).bind fun
     | .jmp _ (s37_21, y1_21, y2_21) =>
      (rd y1_21 (x0.length : Int)).bind fun v22 =>
      some (y1_21.set (x0.length : Int).toNat (Row.mk v22.Parent v22.Kind v22.Text v22.Gaps y2_21))
     | _ => none
   else none
 else none
noncomputable def R06_rows_L0 (rec : (List Row) → Node → Int → Option (List Row)) (s7 : Int) (w2_0 : Int) (w2_1 : ByteArray) (w2_2 : (List ByteArray)) (w2_3 : (List Node)) : (Int × (List Row) × (List Int)) → Option (Out (Int × (List Row) × (List Int)) (List Row)) := fun (s9, y1, y3) =>
 if s9 < (w2_3.length : Int) then
  if (y3.length + 1) * 8 ≤ 140737488355328 then
   (rd w2_3 s9).bind fun v6 =>
   (rec y1 v6 s7).bind fun r9 =>
   some (.next (w64 (s9 + (1 : Int)), r9, (y3 ++ [(y1.length : Int)])))
  else none
 else
  some (.jmp 0 (s9, y1, y3))
noncomputable def R06_rows.body (rec : (List Row) → Node → Int → Option (List Row)) (x0 : (List Row)) (x1 : Node) (x2 : Int) : Option (List Row) :=
 if (x0.length + 1) * 80 ≤ 140737488355328 then
  (iter (R06_rows_L0 rec (x0.length : Int) x1.Kind x1.Text x1.Gaps x1.Kids) ((0 : Int), (x0 ++ [(Row.mk x2 x1.Kind x1.Text x1.Gaps ([] : List Int))]), ([] : List Int))).bind fun
   | .jmp _ (s9_13, y1_13, y3_13) =>
    (rd y1_13 (x0.length : Int)).bind fun v14 =>
    some (y1_13.set (x0.length : Int).toNat (Row.mk v14.Parent v14.Kind v14.Text v14.Gaps y3_13))
   | _ => none
 else none
end Xr

namespace Xr
open Go Go.Ev
set_option linter.unusedVariables false
set_option linter.unusedSimpArgs false
mutual
def size : Node → Nat
 | ⟨_, _, _, ks⟩ => 1 + sizes ks
def sizes : List Node → Nat
 | [] => 0
 | k :: ks => size k + sizes ks
end
mutual
def height : Node → Nat
 | ⟨_, _, _, ks⟩ => 1 + heights ks
def heights : List Node → Nat
 | [] => 0
 | k :: ks => max (height k) (heights ks)
end
theorem size_eq (n : Node) : size n = 1 + sizes n.Kids := by cases n; simp only [size]
theorem height_eq (n : Node) : height n = 1 + heights n.Kids := by cases n; simp only [height]
theorem size_pos (n : Node) : 1 ≤ size n := by rw [size_eq]; omega
theorem sizes_len : ∀ l : List Node, l.length ≤ sizes l
 | [] => by simp [sizes]
 | k :: ks => by
  have := sizes_len ks
  have := size_pos k
  simp only [sizes, List.length_cons]; omega
theorem sizes_take : ∀ (l : List Node) (i : Nat) (v : Node), l[i]? = some v → sizes (l.take (i + 1)) = sizes (l.take i) + size v
 | [], i, v, h => by simp at h
 | k :: ks, 0, v, h => by
  obtain rfl : k = v := by simpa using h
  simp [sizes]
 | k :: ks, i + 1, v, h => by
  have := sizes_take ks i v (by simpa using h)
  simp only [List.take_succ_cons, sizes, this]; omega
theorem sizes_take_le : ∀ (l : List Node) (i : Nat), sizes (l.take i) ≤ sizes l
 | [], i => by simp [sizes]
 | k :: ks, 0 => by simp [sizes]
 | k :: ks, i + 1 => by
  have := sizes_take_le ks i
  simp only [List.take_succ_cons, sizes]; omega
theorem size_mem : ∀ (l : List Node) (i : Nat) (v : Node), l[i]? = some v → size v ≤ sizes l
 | [], i, v, h => by simp at h
 | k :: ks, 0, v, h => by
  obtain rfl : k = v := by simpa using h
  simp only [sizes]; omega
 | k :: ks, i + 1, v, h => by
  have := size_mem ks i v (by simpa using h)
  simp only [sizes]; omega
theorem kid_lt {n v : Node} {i : Nat} (h : n.Kids[i]? = some v) : size v < size n := by
 have := size_mem _ _ _ h
 rw [size_eq n]; omega
def leftV (n : Node) (a b : Int) : Int := if (size n : Int) ≤ a ∧ (height n : Int) ≤ b then a - size n else -1
def fitTo (l : List Node) (a b : Int) (i : Nat) : Prop := (sizes (l.take i) : Int) ≤ a ∧ (heights (l.take i) : Int) ≤ b
theorem heights_take : ∀ (l : List Node) (i : Nat) (v : Node), l[i]? = some v → heights (l.take (i + 1)) = max (heights (l.take i)) (height v)
 | [], i, v, h => by simp at h
 | k :: ks, 0, v, h => by
  obtain rfl : k = v := by simpa using h
  simp [heights]
 | k :: ks, i + 1, v, h => by
  have := heights_take ks i v (by simpa using h)
  simp only [List.take_succ_cons, heights, this]; omega
theorem heights_take_le : ∀ (l : List Node) (i : Nat), heights (l.take i) ≤ heights l
 | [], i => by simp [heights]
 | k :: ks, 0 => by simp [heights]
 | k :: ks, i + 1 => by
  have := heights_take_le ks i
  simp only [List.take_succ_cons, heights]; omega
theorem leftV_kids {n : Node} {a b : Int} (ha : 1 ≤ a) (hb : 1 ≤ b) : leftV n a b = if (sizes n.Kids : Int) ≤ a - 1 ∧ (heights n.Kids : Int) ≤ b - 1 then a - 1 - sizes n.Kids else -1 := by
 unfold leftV
 have h1 := size_eq n
 have h2 := height_eq n
 by_cases h : (sizes n.Kids : Int) ≤ a - 1 ∧ (heights n.Kids : Int) ≤ b - 1
 ·rw [if_pos h, if_pos (by omega)]; omega
 ·rw [if_neg h, if_neg (by omega)]
def law24_LeftS (n : Node) (a b : Int) : Option Int := if 0 ≤ a ∧ a < 2 ^ 40 ∧ 0 ≤ b ∧ b < 2 ^ 40 then some (leftV n a b) else none
def law24_LeftS_mu (n : Node) (a b : Int) : Nat := size n
theorem law24_LeftS_body (x0 : Node) (x1 x2 : Int) (r : Int) (h : law24_LeftS x0 x1 x2 = some r) : law24_Left.body (fun x0' x1' x2' => if law24_LeftS_mu x0' x1' x2' < law24_LeftS_mu x0 x1 x2 then law24_LeftS x0' x1' x2' else none) x0 x1 x2 = some r := by
 unfold law24_LeftS at h
 by_cases hb : 0 ≤ x1 ∧ x1 < 2 ^ 40 ∧ 0 ≤ x2 ∧ x2 < 2 ^ 40
 case neg => rw [if_neg hb] at h; cases h
 rw [if_pos hb] at h
 obtain rfl := Option.some.inj h
 generalize hrec : (fun x0' x1' x2' => if law24_LeftS_mu x0' x1' x2' < law24_LeftS_mu x0 x1 x2 then law24_LeftS x0' x1' x2' else none) = rec
 have hr : ∀ (i : Nat) v a b, x0.Kids[i]? = some v → 0 ≤ a ∧ a < 2 ^ 40 ∧ 0 ≤ b ∧ b < 2 ^ 40 → rec v a b = some (leftV v a b) := by
  intro i v a b hv hab
  subst hrec
  have := kid_lt hv
  simp only [law24_LeftS_mu, law24_LeftS, if_pos this, if_pos hab]
 clear hrec h
 have hse := size_eq x0
 have hhe := height_eq x0
 have hlen := sizes_len x0.Kids
 have hsp := size_pos x0
 unfold law24_Left.body
 by_cases h2 : x2 = 0
 ·rw [if_pos h2, leftV, if_neg (by omega)]
 rw [if_neg h2]
 have e1 : w64 (x1 - 1) = x1 - 1 := w64_id (by omega) (by omega)
 have e2 : w64 (x2 - 1) = x2 - 1 := w64_id (by omega) (by omega)
 rw [e1]
 by_cases h1 : x1 < 1
 ·obtain rfl : x1 = 0 := by omega
  by_cases hk : (0 : Int) < (x0.Kids.length : Int)
  ·rw [iter_jmp (n := 0) (s' := ((0 : Int) - 1, (0 : Int))) (by simp only [law24_Left_L0]; rw [if_pos hk, if_neg (by omega)])]
   show some ((0 : Int) - 1) = _
   rw [leftV, if_neg (by omega)]; rfl
  ·rw [iter_jmp (n := 0) (s' := ((0 : Int) - 1, (0 : Int))) (by simp only [law24_Left_L0]; rw [if_neg hk])]
   show some ((0 : Int) - 1) = _
   rw [leftV, if_neg (by omega)]; rfl
 rw [leftV_kids (by omega) (by omega)]
 have key : ∀ (d i : Nat), i + d = x0.Kids.length → fitTo x0.Kids (x1 - 1) (x2 - 1) i →
   ∃ j : Int, iter (law24_Left_L0 rec x2 x0.Kind x0.Text x0.Gaps x0.Kids) (x1 - 1 - (sizes (x0.Kids.take i) : Int), (i : Int)) =
    some (.jmp 0 (if (sizes x0.Kids : Int) ≤ x1 - 1 ∧ (heights x0.Kids : Int) ≤ x2 - 1 then x1 - 1 - (sizes x0.Kids : Int) else -1, j)) := by
  intro d
  induction d with
  | zero =>
   intro i hi hf
   obtain rfl : i = x0.Kids.length := by omega
   unfold fitTo at hf
   rw [List.take_length] at hf ⊢
   rw [if_pos hf]
   refine ⟨(x0.Kids.length : Int), iter_jmp ?_⟩
   simp only [law24_Left_L0]
   rw [if_neg (by omega)]
  | succ d ih =>
   intro i hi hf
   have hil : i < x0.Kids.length := by omega
   obtain ⟨v, hv⟩ : ∃ v, x0.Kids[i]? = some v := ⟨_, List.getElem?_eq_getElem hil⟩
   have hs := sizes_take _ _ _ hv
   have hh := heights_take _ _ _ hv
   have hle := sizes_take_le x0.Kids (i + 1)
   have hhl := heights_take_le x0.Kids (i + 1)
   have hvp := size_pos v
   have hve := height_eq v
   unfold fitTo at hf
   have hi' : i ≤ sizes (x0.Kids.take i) := by
    have := sizes_len (x0.Kids.take i)
    rw [List.length_take] at this; omega
   have hrv := hr i v (x1 - 1 - (sizes (x0.Kids.take i) : Int)) (x2 - 1) hv (by omega)
   have hstep : law24_Left_L0 rec x2 x0.Kind x0.Text x0.Gaps x0.Kids (x1 - 1 - (sizes (x0.Kids.take i) : Int), (i : Int)) =
     some (.next (leftV v (x1 - 1 - (sizes (x0.Kids.take i) : Int)) (x2 - 1), ((i + 1 : Nat) : Int))) := by
    simp only [law24_Left_L0, rd_nat, hv, Option.bind_some, e2, hrv, w64_succ (show i < 2 ^ 62 by omega)]
    rw [if_pos (by omega), if_pos (by omega)]
   rw [iter_next hstep]
   by_cases hfv : (size v : Int) ≤ x1 - 1 - (sizes (x0.Kids.take i) : Int) ∧ (height v : Int) ≤ x2 - 1
   ·have hl : leftV v (x1 - 1 - (sizes (x0.Kids.take i) : Int)) (x2 - 1) = x1 - 1 - (sizes (x0.Kids.take (i + 1)) : Int) := by
     rw [leftV, if_pos hfv, hs]; omega
    rw [hl]
    exact ih (i + 1) (by omega) (by unfold fitTo; omega)
   ·have hl : leftV v (x1 - 1 - (sizes (x0.Kids.take i) : Int)) (x2 - 1) = -1 := by
     rw [leftV, if_neg hfv]
    rw [hl, if_neg (by omega)]
    by_cases hk : ((i + 1 : Nat) : Int) < (x0.Kids.length : Int)
    ·refine ⟨((i + 1 : Nat) : Int), iter_jmp ?_⟩
     simp only [law24_Left_L0]
     rw [if_pos hk, if_neg (by omega)]
    ·refine ⟨((i + 1 : Nat) : Int), iter_jmp ?_⟩
     simp only [law24_Left_L0]
     rw [if_neg hk]
 obtain ⟨j, h0⟩ := key x0.Kids.length 0 (by omega) (by unfold fitTo; simp [sizes, heights]; omega)
 have e0 : (x1 - 1 - (sizes (x0.Kids.take 0) : Int), ((0 : Nat) : Int)) = (x1 - 1, (0 : Int)) := by simp [sizes]
 rw [e0] at h0
 rw [h0]
 rfl
def kidPos : List Node → Nat → List Int
 | [], _ => []
 | n :: ks, pos => (pos : Int) :: kidPos ks (pos + size n)
mutual
def tab : Node → Nat → Int → List Row
 | ⟨k, t, g, ks⟩, pos, par => ⟨par, k, t, g, kidPos ks (pos + 1)⟩ :: tabs ks (pos + 1) pos
def tabs : List Node → Nat → Int → List Row
 | [], _, _ => []
 | n :: ks, pos, par => tab n pos par ++ tabs ks (pos + size n) par
end
theorem tab_eq (n : Node) (pos : Nat) (par : Int) : tab n pos par = ⟨par, n.Kind, n.Text, n.Gaps, kidPos n.Kids (pos + 1)⟩ :: tabs n.Kids (pos + 1) pos := by
 cases n; simp only [tab]
mutual
theorem tab_len : ∀ (n : Node) (pos : Nat) (par : Int), (tab n pos par).length = size n
 | ⟨k, t, g, ks⟩, pos, par => by simp only [tab, size, List.length_cons, tabs_len ks]; omega
theorem tabs_len : ∀ (l : List Node) (pos : Nat) (par : Int), (tabs l pos par).length = sizes l
 | [], pos, par => by simp [tabs, sizes]
 | n :: ks, pos, par => by simp only [tabs, sizes, List.length_append, tab_len n, tabs_len ks]
end
theorem kidPos_len : ∀ (l : List Node) (pos : Nat), (kidPos l pos).length = l.length
 | [], pos => rfl
 | n :: ks, pos => by simp only [kidPos, List.length_cons, kidPos_len ks]
theorem tabs_take : ∀ (l : List Node) (i : Nat) (v : Node) (pos : Nat) (par : Int), l[i]? = some v → tabs (l.take (i + 1)) pos par = tabs (l.take i) pos par ++ tab v (pos + sizes (l.take i)) par
 | [], i, v, pos, par, h => by simp at h
 | k :: ks, 0, v, pos, par, h => by
  obtain rfl : k = v := by simpa using h
  simp [tabs, sizes]
 | k :: ks, i + 1, v, pos, par, h => by
  have := tabs_take ks i v (pos + size k) par (by simpa using h)
  simp only [List.take_succ_cons, tabs, sizes, this, List.append_assoc, Nat.add_assoc]
theorem kidPos_take : ∀ (l : List Node) (i : Nat) (v : Node) (pos : Nat), l[i]? = some v → kidPos (l.take (i + 1)) pos = kidPos (l.take i) pos ++ [((pos + sizes (l.take i) : Nat) : Int)]
 | [], i, v, pos, h => by simp at h
 | k :: ks, 0, v, pos, h => by simp [kidPos, sizes]
 | k :: ks, i + 1, v, pos, h => by
  have := kidPos_take ks i v (pos + size k) (by simpa using h)
  simp only [List.take_succ_cons, kidPos, sizes, this, List.cons_append, Nat.add_assoc]
def R06_rowsS (l : List Row) (n : Node) (p : Int) : Option (List Row) := if l.length + size n < 2 ^ 30 then some (l ++ tab n l.length p) else none
def R06_rowsS_mu (l : List Row) (n : Node) (p : Int) : Nat := size n
theorem R06_rowsS_body (x0 : List Row) (x1 : Node) (x2 : Int) (r : List Row) (h : R06_rowsS x0 x1 x2 = some r) : R06_rows.body (fun x0' x1' x2' => if R06_rowsS_mu x0' x1' x2' < R06_rowsS_mu x0 x1 x2 then R06_rowsS x0' x1' x2' else none) x0 x1 x2 = some r := by
 unfold R06_rowsS at h
 by_cases hb : x0.length + size x1 < 2 ^ 30
 case neg => rw [if_neg hb] at h; cases h
 rw [if_pos hb] at h
 obtain rfl := Option.some.inj h
 generalize hrec : (fun x0' x1' x2' => if R06_rowsS_mu x0' x1' x2' < R06_rowsS_mu x0 x1 x2 then R06_rowsS x0' x1' x2' else none) = rec
 have hr : ∀ (i : Nat) v l p, x1.Kids[i]? = some v → l.length + size v < 2 ^ 30 → rec l v p = some (l ++ tab v l.length p) := by
  intro i v l p hv hl
  subst hrec
  have := kid_lt hv
  simp only [R06_rowsS_mu, R06_rowsS, if_pos this, if_pos hl]
 clear hrec h
 have hse := size_eq x1
 have hlen := sizes_len x1.Kids
 unfold R06_rows.body
 rw [if_pos (by omega)]
 have h1 := iter_to (step := R06_rows_L0 rec (x0.length : Int) x1.Kind x1.Text x1.Gaps x1.Kids) (fun i => ((i : Int), x0 ++ [(Row.mk x2 x1.Kind x1.Text x1.Gaps ([] : List Int))] ++ tabs (x1.Kids.take i) (x0.length + 1) (x0.length : Int), kidPos (x1.Kids.take i) (x0.length + 1))) x1.Kids.length (fun i hi => by
  obtain ⟨v, hv⟩ : ∃ v, x1.Kids[i]? = some v := ⟨_, List.getElem?_eq_getElem hi⟩
  have hs := sizes_take _ _ _ hv
  have hle := sizes_take_le x1.Kids (i + 1)
  have hl : (x0 ++ [(Row.mk x2 x1.Kind x1.Text x1.Gaps ([] : List Int))] ++ tabs (x1.Kids.take i) (x0.length + 1) (x0.length : Int)).length = x0.length + 1 + sizes (x1.Kids.take i) := by
   simp only [List.length_append, List.length_cons, List.length_nil, tabs_len]
  simp only [R06_rows_L0, rd_nat, hv, Option.bind_some, w64_succ (show i < 2 ^ 62 by omega), kidPos_len, List.length_take, hr i v _ _ hv (show _ < 2 ^ 30 by rw [hl]; omega), hl]
  rw [if_pos (by omega), if_pos (by omega), tabs_take _ _ _ _ _ hv, kidPos_take _ _ _ _ hv]
  simp only [List.append_assoc])
 have e0 : (((0 : Nat) : Int), x0 ++ [(Row.mk x2 x1.Kind x1.Text x1.Gaps ([] : List Int))] ++ tabs (x1.Kids.take 0) (x0.length + 1) (x0.length : Int), kidPos (x1.Kids.take 0) (x0.length + 1)) = ((0 : Int), (x0 ++ [(Row.mk x2 x1.Kind x1.Text x1.Gaps ([] : List Int))]), ([] : List Int)) := by simp [tabs, kidPos]
 rw [← e0, h1, iter_jmp (n := 0) (s' := _)]
 rotate_left
 ·simp only [R06_rows_L0]
  rw [if_neg (by omega)]
 simp only [Option.bind_some, List.take_length, rd_nat, List.append_assoc, List.cons_append, List.nil_append]
 rw [List.getElem?_append_right (Nat.le_refl _)]
 simp only [Nat.sub_self, List.getElem?_cons_zero, Option.bind_some, Int.toNat_natCast]
 rw [List.set_append_right _ _ (Nat.le_refl _), Nat.sub_self, List.set_cons_zero, tab_eq]
mutual
def gapsB : Node → Bool
 | ⟨_, _, g, ks⟩ => decide (g.length * 16 ≤ 140737488355328) && gapsBs ks
def gapsBs : List Node → Bool
 | [] => true
 | k :: ks => gapsB k && gapsBs ks
end
theorem gapsB_eq (n : Node) : gapsB n = (decide (n.Gaps.length * 16 ≤ 140737488355328) && gapsBs n.Kids) := by cases n; simp only [gapsB]
theorem gapsB_mem : ∀ (l : List Node) (i : Nat) (v : Node), gapsBs l = true → l[i]? = some v → gapsB v = true
 | [], i, v, _, h => by simp at h
 | k :: ks, 0, v, hg, h => by
  obtain rfl : k = v := by simpa using h
  simp only [gapsBs, Bool.and_eq_true] at hg; exact hg.1
 | k :: ks, i + 1, v, hg, h => by
  simp only [gapsBs, Bool.and_eq_true] at hg
  exact gapsB_mem ks i v hg.2 (by simpa using h)
theorem texts_eq {g : List ByteArray} (h : g.length * 16 ≤ 140737488355328) : tree_texts g = some g := by
 unfold tree_texts
 by_cases h0 : (g.length : Int) = 0
 ·rw [if_pos h0]
  have : g = [] := List.length_eq_zero_iff.1 (by omega)
  rw [this]
 ·rw [if_neg h0, if_pos (by omega)]
  simp [cpL]
def tree_listS (l : List Row) (n : Node) (p : Int) : Option (List Row) := if l.length + size n < 2 ^ 30 ∧ gapsB n = true then some (l ++ tab n l.length p) else none
def tree_listS_mu (l : List Row) (n : Node) (p : Int) : Nat := size n
theorem set_take_snoc {a : List Int} {i m : Nat} {x : Int} (ha : a.length = i) (hi : i < m) : (a ++ List.replicate (m - i) 0).set i x = a ++ [x] ++ List.replicate (m - (i + 1)) 0 := by
 subst ha
 rw [List.set_append_right _ _ (Nat.le_refl _), Nat.sub_self, show m - a.length = (m - (a.length + 1)) + 1 by omega, List.replicate_succ, List.set_cons_zero]
 simp
theorem tree_listS_body (x0 : List Row) (x1 : Node) (x2 : Int) (r : List Row) (h : tree_listS x0 x1 x2 = some r) : tree_list.body (fun x0' x1' x2' => if tree_listS_mu x0' x1' x2' < tree_listS_mu x0 x1 x2 then tree_listS x0' x1' x2' else none) x0 x1 x2 = some r := by
 unfold tree_listS at h
 by_cases hb : x0.length + size x1 < 2 ^ 30 ∧ gapsB x1 = true
 case neg => rw [if_neg hb] at h; cases h
 rw [if_pos hb] at h
 obtain rfl := Option.some.inj h
 generalize hrec : (fun x0' x1' x2' => if tree_listS_mu x0' x1' x2' < tree_listS_mu x0 x1 x2 then tree_listS x0' x1' x2' else none) = rec
 obtain ⟨hb, hg⟩ := hb
 rw [gapsB_eq, Bool.and_eq_true, decide_eq_true_eq] at hg
 have hr : ∀ (i : Nat) v l p, x1.Kids[i]? = some v → l.length + size v < 2 ^ 30 → rec l v p = some (l ++ tab v l.length p) := by
  intro i v l p hv hl
  subst hrec
  have := kid_lt hv
  simp only [tree_listS_mu, tree_listS, if_pos this, if_pos (And.intro hl (gapsB_mem _ _ _ hg.2 hv))]
 clear hrec h
 have hse := size_eq x1
 have hlen := sizes_len x1.Kids
 unfold tree_list.body
 rw [texts_eq hg.1, Option.bind_some, if_pos (by omega)]
 by_cases h0 : (x1.Kids.length : Int) = 0
 ·have hk : x1.Kids = [] := List.length_eq_zero_iff.1 (by omega)
  rw [if_pos h0, tab_eq, hk]
  simp [kidPos, tabs]
 rw [if_neg h0, if_pos (by omega)]
 have h1 := iter_to (step := tree_list_L0 rec (x0.length : Int) x1.Kids (x1.Kids.length : Int)) (fun i => ((i : Int), x0 ++ [(Row.mk x2 x1.Kind x1.Text x1.Gaps ([] : List Int))] ++ tabs (x1.Kids.take i) (x0.length + 1) (x0.length : Int), kidPos (x1.Kids.take i) (x0.length + 1) ++ List.replicate (x1.Kids.length - i) 0)) x1.Kids.length (fun i hi => by
  obtain ⟨v, hv⟩ : ∃ v, x1.Kids[i]? = some v := ⟨_, List.getElem?_eq_getElem hi⟩
  have hs := sizes_take _ _ _ hv
  have hle := sizes_take_le x1.Kids (i + 1)
  have hl : (x0 ++ [(Row.mk x2 x1.Kind x1.Text x1.Gaps ([] : List Int))] ++ tabs (x1.Kids.take i) (x0.length + 1) (x0.length : Int)).length = x0.length + 1 + sizes (x1.Kids.take i) := by
   simp only [List.length_append, List.length_cons, List.length_nil, tabs_len]
  have hkl : (kidPos (x1.Kids.take i) (x0.length + 1)).length = i := by rw [kidPos_len, List.length_take]; omega
  have hrd : ∃ q, rd (kidPos (x1.Kids.take i) (x0.length + 1) ++ List.replicate (x1.Kids.length - i) 0) (i : Int) = some q := ⟨_, rd_lt (by omega) (by simp only [List.length_append, hkl, List.length_replicate]; omega)⟩
  obtain ⟨q, hq⟩ := hrd
  simp only [tree_list_L0, hq]
  simp only [rd_nat, hv, Option.bind_some, w64_succ (show i < 2 ^ 62 by omega), hr i v _ _ hv (show _ < 2 ^ 30 by rw [hl]; omega), hl, Int.toNat_natCast]
  rw [if_pos (by omega), tabs_take _ _ _ _ _ hv, kidPos_take _ _ _ _ hv, set_take_snoc hkl hi]
  simp only [List.append_assoc])
 have e0 : (((0 : Nat) : Int), x0 ++ [(Row.mk x2 x1.Kind x1.Text x1.Gaps ([] : List Int))] ++ tabs (x1.Kids.take 0) (x0.length + 1) (x0.length : Int), kidPos (x1.Kids.take 0) (x0.length + 1) ++ List.replicate (x1.Kids.length - 0) 0) = ((0 : Int), (x0 ++ [(Row.mk x2 x1.Kind x1.Text x1.Gaps ([] : List Int))]), (List.replicate (x1.Kids.length : Int).toNat 0)) := by simp [tabs, kidPos]
 rw [← e0, h1, iter_jmp (n := 0) (s' := _)]
 rotate_left
 ·simp only [tree_list_L0]
  rw [if_neg (by omega)]
 simp only [Option.bind_some, List.take_length, rd_nat, List.append_assoc, List.cons_append, List.nil_append, Nat.sub_self, List.replicate_zero, List.append_nil]
 rw [List.getElem?_append_right (Nat.le_refl _)]
 simp only [Nat.sub_self, List.getElem?_cons_zero, Option.bind_some, Int.toNat_natCast]
 rw [List.set_append_right _ _ (Nat.le_refl _), Nat.sub_self, List.set_cons_zero, tab_eq]
end Xr

namespace Xr
open Go Go.Ev
set_option linter.unusedSimpArgs false
set_option linter.unusedVariables false
set_option linter.defProp false
noncomputable def law24_Small (x0 : Node) : Option Bool :=
 (law24_LeftS x0 (60 : Int) (16 : Int)).bind fun r1 =>
 some (decide ((0 : Int) ≤ r1))
noncomputable def law24_awake : Option Bool :=
 some true
noncomputable def match_Find_L0 (s1 : Int) (s8 : (List Pair)) (s9 : Int) : Int → Option (Out (Int) (Int × Bool)) := fun s10 =>
 if s10 < s9 then
  (rd s8 s10).bind fun v2 =>
  if v2.Old = s1 then
   some (.ret (v2.New, true))
  else
   some (.next (w64 (s10 + (1 : Int))))
 else
  some (.jmp 0 s10)
noncomputable def match_Find (x0 : (List Pair)) (x1 : Int) : Option (Int × Bool) :=
 (iter (match_Find_L0 x1 x0 (x0.length : Int)) (0 : Int)).bind fun
  | .jmp _ s10_7 =>
   some ((0 : Int), false)
  | .ret r8 =>
   some r8
  | .next _ => none
noncomputable def R24_Find_L0 (s0 : (List Pair)) (s1 : Int) : Int → Option (Out (Int) (Int × Bool)) := fun s6 =>
 if s6 < (s0.length : Int) then
  (rd s0 s6).bind fun v2 =>
  if v2.Old = s1 then
   some (.ret (v2.New, true))
  else
   some (.next (w64 (s6 + (1 : Int))))
 else
  some (.jmp 0 s6)
noncomputable def R24_Find (x0 : (List Pair)) (x1 : Int) : Option (Int × Bool) :=
 (iter (R24_Find_L0 x0 x1) (0 : Int)).bind fun
  | .jmp _ s6_8 =>
   some ((0 : Int), false)
  | .ret r9 =>
   some r9
  | .next _ => none
noncomputable def tree_Rows (x0 : Node) : Option (List Row) :=
 (tree_listS ([] : List Row) x0 (-1 : Int)).bind fun r1 =>
 some r1
noncomputable def match_Check_L0 (s7 : (List Row)) (s8 : (List Row)) (s20 : (List Pair)) (s21 : Int) (w0_0 : Int) (w0_1 : ByteArray) (w0_2 : (List ByteArray)) (w0_3 : (List Node)) (w1_0 : Int) (w1_1 : ByteArray) (w1_2 : (List ByteArray)) (w1_3 : (List Node)) : (Int × Int × (List Bool)) → Option (Out (Int × Int × (List Bool)) Int) := fun (s10, s22, y2) =>
 if s22 < s21 then
  (rd s20 s22).bind fun v10 =>
  if v10.Old ≤ s10 then
   some (.ret (15 : Int))
  else
   if (s7.length : Int) ≤ v10.Old then
    some (.ret (15 : Int))
   else
    if v10.New < (0 : Int) then
     some (.ret (15 : Int))
    else
     if (s8.length : Int) ≤ v10.New then
      some (.ret (15 : Int))
     else
      (rd y2 v10.New).bind fun v17 =>
      if v17 = true then
       some (.ret (15 : Int))
      else
       (rd s7 v10.Old).bind fun v21 =>
       (rd s8 v10.New).bind fun v24 =>
       if v21.Kind = v24.Kind then
        if (decide (v10.Old = (0 : Int))) = (decide (v10.New = (0 : Int))) then
         some (.next (v10.Old, w64 (s22 + (1 : Int)), (y2.set v10.New.toNat true)))
        else
         some (.ret (15 : Int))
       else
        some (.ret (15 : Int))
 else
  some (.jmp 0 (s10, s22, y2))
noncomputable def match_Check (x0 : Node) (x1 : Node) (x2 : (List Pair)) : Option Int :=
 (tree_Rows x0).bind fun r1 =>
 (tree_Rows x1).bind fun r4 =>
 if 0 ≤ (r4.length : Int) ∧ (r4.length : Int) * 1 ≤ 140737488355328 then
  (iter (match_Check_L0 r1 r4 x2 (x2.length : Int) x0.Kind x0.Text x0.Gaps x0.Kids x1.Kind x1.Text x1.Gaps x1.Kids) ((-1 : Int), (0 : Int), (List.replicate (r4.length : Int).toNat false))).bind fun
   | .jmp _ (s10_32, s22_32, y2_32) =>
    if x0.Kind = x1.Kind then
     (rd y2_32 (0 : Int)).bind fun v34 =>
     if v34 = true then
      some (0 : Int)
     else
      some (15 : Int)
    else
     some (0 : Int)
   | .ret r38 =>
    some r38
   | .next _ => none
 else none
noncomputable def R06_Rows (x0 : Node) : Option (List Row) :=
 (R06_rowsS ([] : List Row) x0 (-1 : Int)).bind fun r1 =>
 some r1
noncomputable def R24_hasNew_L0 (s0 : (List Pair)) (s1 : Int) : Int → Option (Out (Int) Bool) := fun s5 =>
 if s5 < (s0.length : Int) then
  (rd s0 s5).bind fun v2 =>
  if v2.New = s1 then
   some (.ret true)
  else
   some (.next (w64 (s5 + (1 : Int))))
 else
  some (.jmp 0 s5)
noncomputable def R24_hasNew (x0 : (List Pair)) (x1 : Int) : Option Bool :=
 (iter (R24_hasNew_L0 x0 x1) (0 : Int)).bind fun
  | .jmp _ s5_7 =>
   some false
  | .ret r8 =>
   some r8
  | .next _ => none
noncomputable def R24_Check_L0 (s2 : (List Pair)) (s7 : (List Row)) (s8 : (List Row)) (w0_0 : Int) (w0_1 : ByteArray) (w0_2 : (List ByteArray)) (w0_3 : (List Node)) (w1_0 : Int) (w1_1 : ByteArray) (w1_2 : (List ByteArray)) (w1_3 : (List Node)) : Int → Option (Out (Int) Int) := fun s9 =>
 if s9 < (s2.length : Int) then
  (rd s2 s9).bind fun v8 =>
  if v8.Old < (0 : Int) then
   some (.ret (15 : Int))
  else
   if (s7.length : Int) ≤ v8.Old then
    some (.ret (15 : Int))
   else
    if v8.New < (0 : Int) then
     some (.ret (15 : Int))
    else
     if (s8.length : Int) ≤ v8.New then
      some (.ret (15 : Int))
     else
      if (0 : Int) < s9 then
       (rd s2 (w64 (s9 - (1 : Int)))).bind fun v16 =>
       if v8.Old ≤ v16.Old then
        some (.ret (15 : Int))
       else
        if s9 ≤ (s2.length : Int) then
         (R24_hasNew (s2.take s9.toNat) v8.New).bind fun r21 =>
         if r21 = true then
          some (.ret (15 : Int))
         else
          (rd s7 v8.Old).bind fun v25 =>
          (rd s8 v8.New).bind fun v28 =>
          if v25.Kind = v28.Kind then
           if (decide (v8.Old = (0 : Int))) = (decide (v8.New = (0 : Int))) then
            some (.next (w64 (s9 + (1 : Int))))
           else
            some (.ret (15 : Int))
          else
           some (.ret (15 : Int))
        else none
      else
       if s9 ≤ (s2.length : Int) then
        (R24_hasNew (s2.take s9.toNat) v8.New).bind fun r34 =>
        if r34 = true then
         some (.ret (15 : Int))
        else
         (rd s7 v8.Old).bind fun v38 =>
         (rd s8 v8.New).bind fun v41 =>
         if v38.Kind = v41.Kind then
          if (decide (v8.Old = (0 : Int))) = (decide (v8.New = (0 : Int))) then
           some (.next (w64 (s9 + (1 : Int))))
          else
           some (.ret (15 : Int))
         else
          some (.ret (15 : Int))
       else none
 else
  some (.jmp 0 s9)
noncomputable def R24_Check (x0 : Node) (x1 : Node) (x2 : (List Pair)) : Option Int :=
 (R06_Rows x0).bind fun r1 =>
 (R06_Rows x1).bind fun r4 =>
 (iter (R24_Check_L0 x2 r1 r4 x0.Kind x0.Text x0.Gaps x0.Kids x1.Kind x1.Text x1.Gaps x1.Kids) (0 : Int)).bind fun
  | .jmp _ s9_47 =>
   if x0.Kind = x1.Kind then
    if (x2.length : Int) = (0 : Int) then
     some (15 : Int)
    else
     (rd x2 (0 : Int)).bind fun v50 =>
     if v50.Old = (0 : Int) then
      some (0 : Int)
     else
      some (15 : Int)
   else
    some (0 : Int)
  | .ret r54 =>
   some r54
  | .next _ => none
noncomputable def law24_MatchChecks (x0 : Node) (x1 : Node) (x2 : (List Pair)) (x3 : Int) : Option Bool :=
 (law24_Small x0).bind fun r1 =>
 if r1 = true then
  (law24_Small x1).bind fun r5 =>
  if r5 = true then
   if (80 : Int) < (x2.length : Int) then
    (law24_awake).bind fun r10 =>
    some r10
   else
    (match_Find x2 x3).bind fun r13 =>
    (R24_Find x2 x3).bind fun r16 =>
    (match_Check x0 x1 x2).bind fun r19 =>
    (R24_Check x0 x1 x2).bind fun r22 =>
    if r19 = r22 then
     if r13.1 = r16.1 then
      if r13.2 = r16.2 then
       (law24_awake).bind fun r28 =>
       some r28
      else
       some false
     else
      some false
    else
     some false
  else
   (law24_awake).bind fun r31 =>
   some r31
 else
  (law24_awake).bind fun r34 =>
  some r34
end Xr

