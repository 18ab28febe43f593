/- A part of the proof: T. No conditions of its own. -/
import Derived.Test.YtddfehcpbgfmfaaE4
import Derived.Test.YtddfehcpbgfmfaaE3
namespace Xn
open Go Go.Ev
set_option linter.unusedSimpArgs false
set_option linter.unusedVariables false
set_option linter.defProp false
def en_i64 (x : Int) : List Pv := [.v (.int .i64 x)]
theorem en_i64_wk (x : Int) : wks (en_i64 x) = en_i64 x := rfl
def en_str (x : ByteArray) : List Pv := [.v (.string x)]
theorem en_str_eq (x : ByteArray) : en_str x = [.v (.string x)] := rfl
theorem en_str_len (x : ByteArray) : (en_str x).length = 1 := rfl
theorem en_str_wk (x : ByteArray) : wks (en_str x) = en_str x := rfl
structure Node where
  Kind : Int
  Text : ByteArray
  Gaps : (List ByteArray)
  Kids : (List Node)
mutual
def en_Node : Node → List Pv
  | ⟨y0, y1, y2, y3⟩ => [.v (.int .i64 y0), .v (.string y1), .lst false y2.length (encL en_str y2), .lst false y3.length (en_Node_all y3)]
def en_Node_all : List Node → List Pv
  | [] => []
  | x :: l => en_Node x ++ en_Node_all l
end
theorem en_Node_all_eq : ∀ l, en_Node_all l = encL en_Node l
  | [] => by simp [en_Node_all, encL]
  | x :: l => by rw [en_Node_all, encL_cons, en_Node_all_eq l]
theorem en_Node_eq (x : Node) : en_Node x = [.v (.int .i64 x.Kind), .v (.string x.Text), .lst false x.Gaps.length (encL en_str x.Gaps), .lst false x.Kids.length (encL en_Node x.Kids)] := by
  cases x
  simp only [en_Node, en_Node_all_eq]
theorem en_Node_len (x : Node) : (en_Node x).length = 4 := by rw [en_Node_eq]; rfl
mutual
theorem en_Node_wk : ∀ x, wks (en_Node x) = en_Node x
  | ⟨y0, y1, y2, y3⟩ => by simp only [en_Node, wk, wks, wks_encL en_str_wk, en_Node_all_wk y3]
theorem en_Node_all_wk : ∀ l, wks (en_Node_all l) = en_Node_all l
  | [] => by simp only [en_Node_all, wks]
  | x :: l => by simp only [en_Node_all, wks_append, en_Node_wk x, en_Node_all_wk l]
end
structure Pair where
  Old : Int
  New : Int
deriving instance DecidableEq for Pair
def en_Pair (x : Pair) : List Pv := [.v (.int .i64 x.Old), .v (.int .i64 x.New)]
theorem en_Pair_eq (x : Pair) : en_Pair x = [.v (.int .i64 x.Old), .v (.int .i64 x.New)] := rfl
theorem en_Pair_len (x : Pair) : (en_Pair x).length = 2 := by rw [en_Pair_eq]; rfl
theorem en_Pair_wk (x : Pair) : wks (en_Pair x) = en_Pair x := by simp only [en_Pair_eq, wk, wks]
structure Row where
  Parent : Int
  Kind : Int
  Text : ByteArray
  Gaps : (List ByteArray)
  Kids : (List Int)
def en_Row (x : Row) : List Pv := [.v (.int .i64 x.Parent), .v (.int .i64 x.Kind), .v (.string x.Text), .lst false x.Gaps.length (encL en_str x.Gaps), .lst false x.Kids.length (encL en_i64 x.Kids)]
theorem en_Row_eq (x : Row) : en_Row x = [.v (.int .i64 x.Parent), .v (.int .i64 x.Kind), .v (.string x.Text), .lst false x.Gaps.length (encL en_str x.Gaps), .lst false x.Kids.length (encL en_i64 x.Kids)] := rfl
theorem en_Row_wk (x : Row) : wks (en_Row x) = en_Row x := by simp only [en_Row_eq, wk, wks, wks_encL en_i64_wk, wks_encL en_str_wk]
theorem wksL_en_i64 (l) : wks (encL en_i64 l) = encL en_i64 l := wks_encL en_i64_wk l
theorem wksL_en_str (l) : wks (encL en_str l) = encL en_str l := wks_encL en_str_wk l
theorem wksL_en_Node (l) : wks (encL en_Node l) = encL en_Node l := wks_encL en_Node_wk l
theorem wksL_en_Pair (l) : wks (encL en_Pair l) = encL en_Pair l := wks_encL en_Pair_wk l
theorem wksL_en_Row (l) : wks (encL en_Row l) = encL en_Row l := wks_encL en_Row_wk l
def wkL := And.intro @wksL_en_Node (And.intro @wksL_en_Pair (And.intro @wksL_en_Row (And.intro @wksL_en_i64 (@wksL_en_str))))
inductive Wf_Node : Node → Prop
  | mk : ∀ y0 y1 y2 y3, wfInt .i64 y0 → wfStr y1 → WfL 16 wfStr y2 → (y3.length ≤ maxLen ∧ y3.length * 72 ≤ reachBytes) → (∀ x ∈ y3, Wf_Node x) → Wf_Node ⟨y0, y1, y2, y3⟩
structure Wf_Pair (x : Pair) : Prop where
  fOld : wfInt .i64 x.Old
  fNew : wfInt .i64 x.New
end Xn

namespace Xn
open Go Go.Ev
set_option linter.unusedSimpArgs false
set_option linter.unusedVariables false
set_option linter.defProp false
noncomputable def R06_left_L0 (rec : Node → Int → Int → Option Int) (s2 : Int) (w0_0 : Int) (w0_1 : ByteArray) (w0_2 : (List ByteArray)) (w0_3 : (List Node)) : (Int × Int) → Option (Out (Int × Int) Int) := fun (s7, s8) =>
  if s8 < (w0_3.length : Int) then
    (rd w0_3 s8).bind fun v5 =>
    (rec v5 s7 (w64 (s2 - (1 : Int)))).bind fun r8 =>
    if r8 < (0 : Int) then
      some (.ret (-1 : Int))
    else
      some (.next (r8, w64 (s8 + (1 : Int))))
  else
    some (.jmp 0 (s7, s8))
noncomputable def R06_left.body (rec : Node → Int → Int → Option Int) (x0 : Node) (x1 : Int) (x2 : Int) : Option Int :=
  if x1 < (1 : Int) then
    some (-1 : Int)
  else
    if x2 < (1 : Int) then
      some (-1 : Int)
    else
      if x1 < (x0.Kids.length : Int) then
        some (-1 : Int)
      else
        (iter (R06_left_L0 rec x2 x0.Kind x0.Text x0.Gaps x0.Kids) (w64 (x1 - (1 : Int)), (0 : Int))).bind fun
          | .jmp _ (s7_13, s8_13) =>
            some s7_13
          | .ret r14 =>
            some r14
          | .next _ => none
noncomputable def tree_locate_L0 (rec : Node → Int → Option (Node × Int × Bool)) (s1 : Int) (s17 : (List Node)) (s18 : Int) (w0_0 : Int) (w0_1 : ByteArray) : (Int × Int) → Option (Out (Int × Int) (Node × Int × Bool)) := fun (s7, s19) =>
  if s19 < s18 then
    (rd s17 s19).bind fun v3 =>
    (rec v3 (w64 (s1 - s7))).bind fun r6 =>
    if r6.2.2 = true then
      some (.ret (r6.1, (0 : Int), true))
    else
      some (.next (w64 (s7 + r6.2.1), w64 (s19 + (1 : Int))))
  else
    some (.jmp 0 (s7, s19))
noncomputable def tree_locate.body (rec : Node → Int → Option (Node × Int × Bool)) (x0 : Node) (x1 : Int) : Option (Node × Int × Bool) :=
  if x1 = (0 : Int) then
    some (x0, (0 : Int), true)
  else
    (iter (tree_locate_L0 rec x1 x0.Kids (x0.Kids.length : Int) (0 : Int) ByteArray.empty) ((1 : Int), (0 : Int))).bind fun
      | .jmp _ (s7_11, s19_11) =>
        some ((Node.mk (0 : Int) ByteArray.empty ([] : List ByteArray) ([] : List Node)), s7_11, false)
      | .ret r12 =>
        some r12
      | .next _ => none
noncomputable def tree_texts (x0 : (List ByteArray)) : Option (List ByteArray) :=
  if (x0.length : Int) = (0 : Int) then
    some ([] : List ByteArray)
  else
    if 0 ≤ (x0.length : Int) ∧ (x0.length : Int) * 16 ≤ 140737488355328 then
      some (cpL (List.replicate (x0.length : Int).toNat ByteArray.empty) x0)
    else none
noncomputable def tree_clone_L0 (rec : Node → Option Node) (s15 : (List Node)) (s16 : Int) (w0_0 : Int) (w0_1 : ByteArray) (w1_0 : Int) (w1_1 : ByteArray) (w1_2 : (List ByteArray)) : (Int × (List Node)) → Option (Out (Int × (List Node)) Node) := fun (s17, y2) =>
  if s17 < s16 then
    (rd s15 s17).bind fun v5 =>
    (rec v5).bind fun r8 =>
    if (y2.length + 1) * 72 ≤ 140737488355328 then
      some (.next (w64 (s17 + (1 : Int)), (y2 ++ [r8])))
    else none
  else
    some (.jmp 0 (s17, y2))
noncomputable def tree_clone.body (rec : Node → Option Node) (x0 : Node) : Option Node :=
  (tree_texts x0.Gaps).bind fun r1 =>
  (iter (tree_clone_L0 rec x0.Kids (x0.Kids.length : Int) (0 : Int) ByteArray.empty x0.Kind x0.Text r1) ((0 : Int), ([] : List Node))).bind fun
    | .jmp _ (s17_14, y2_14) =>
      some (Node.mk x0.Kind x0.Text r1 y2_14)
    | _ => none
noncomputable def tree_Size_L0 (rec : Node → Option Int) (s7 : (List Node)) (s8 : Int) : (Int × Int) → Option (Out (Int × Int) Int) := fun (s3, s9) =>
  if s9 < s8 then
    (rd s7 s9).bind fun v2 =>
    (rec v2).bind fun r5 =>
    some (.next (w64 (s3 + r5), w64 (s9 + (1 : Int))))
  else
    some (.jmp 0 (s3, s9))
noncomputable def tree_Size.body (rec : Node → Option Int) (x0 : Node) : Option Int :=
  (iter (tree_Size_L0 rec x0.Kids (x0.Kids.length : Int)) ((1 : Int), (0 : Int))).bind fun
    | .jmp _ (s3_9, s9_9) =>
      some s3_9
    | _ => none
noncomputable def R06_rows_L0 (rec : (List Row) → Node → Int → Option (List Row)) (s7 : Int) (w2_0 : Int) (w2_1 : ByteArray) (w2_2 : (List ByteArray)) (w2_3 : (List Node)) : (Int × (List Row) × (List Int)) → Option (Out (Int × (List Row) × (List Int)) (List Row)) := fun (s9, y1, y3) =>
  if s9 < (w2_3.length : Int) then
    if (y3.length + 1) * 8 ≤ 140737488355328 then
      (rd w2_3 s9).bind fun v6 =>
      (rec y1 v6 s7).bind fun r9 =>
      some (.next (w64 (s9 + (1 : Int)), r9, (y3 ++ [(y1.length : Int)])))
    else none
  else
    some (.jmp 0 (s9, y1, y3))
noncomputable def R06_rows.body (rec : (List Row) → Node → Int → Option (List Row)) (x0 : (List Row)) (x1 : Node) (x2 : Int) : Option (List Row) :=
  if (x0.length + 1) * 80 ≤ 140737488355328 then
    (iter (R06_rows_L0 rec (x0.length : Int) x1.Kind x1.Text x1.Gaps x1.Kids) ((0 : Int), (x0 ++ [(Row.mk x2 x1.Kind x1.Text x1.Gaps ([] : List Int))]), ([] : List Int))).bind fun
      | .jmp _ (s9_13, y1_13, y3_13) =>
        (rd y1_13 (x0.length : Int)).bind fun v14 =>
        some (y1_13.set (x0.length : Int).toNat (Row.mk v14.Parent v14.Kind v14.Text v14.Gaps y3_13))
      | _ => none
  else none
end Xn

namespace Xn
open Go Go.Ev
set_option linter.unusedVariables false
set_option linter.unusedSimpArgs false
mutual
def size : Node → Nat
  | ⟨_, _, _, ks⟩ => 1 + sizes ks
def sizes : List Node → Nat
  | [] => 0
  | k :: ks => size k + sizes ks
end
mutual
def height : Node → Nat
  | ⟨_, _, _, ks⟩ => 1 + heights ks
def heights : List Node → Nat
  | [] => 0
  | k :: ks => max (height k) (heights ks)
end
theorem size_eq (n : Node) : size n = 1 + sizes n.Kids := by cases n; simp only [size]
theorem height_eq (n : Node) : height n = 1 + heights n.Kids := by cases n; simp only [height]
theorem size_pos (n : Node) : 1 ≤ size n := by rw [size_eq]; omega
theorem sizes_len : ∀ l : List Node, l.length ≤ sizes l
  | [] => by simp [sizes]
  | k :: ks => by
    have := sizes_len ks
    have := size_pos k
    simp only [sizes, List.length_cons]; omega
theorem sizes_take : ∀ (l : List Node) (i : Nat) (v : Node), l[i]? = some v → sizes (l.take (i + 1)) = sizes (l.take i) + size v
  | [], i, v, h => by simp at h
  | k :: ks, 0, v, h => by
    obtain rfl : k = v := by simpa using h
    simp [sizes]
  | k :: ks, i + 1, v, h => by
    have := sizes_take ks i v (by simpa using h)
    simp only [List.take_succ_cons, sizes, this]; omega
theorem sizes_take_le : ∀ (l : List Node) (i : Nat), sizes (l.take i) ≤ sizes l
  | [], i => by simp [sizes]
  | k :: ks, 0 => by simp [sizes]
  | k :: ks, i + 1 => by
    have := sizes_take_le ks i
    simp only [List.take_succ_cons, sizes]; omega
theorem size_mem : ∀ (l : List Node) (i : Nat) (v : Node), l[i]? = some v → size v ≤ sizes l
  | [], i, v, h => by simp at h
  | k :: ks, 0, v, h => by
    obtain rfl : k = v := by simpa using h
    simp only [sizes]; omega
  | k :: ks, i + 1, v, h => by
    have := size_mem ks i v (by simpa using h)
    simp only [sizes]; omega
theorem kid_lt {n v : Node} {i : Nat} (h : n.Kids[i]? = some v) : size v < size n := by
  have := size_mem _ _ _ h
  rw [size_eq n]; omega
def leftV (n : Node) (a b : Int) : Int := if (size n : Int) ≤ a ∧ (height n : Int) ≤ b then a - size n else -1
def R06_leftS (n : Node) (a b : Int) : Option Int := if -2 ^ 40 ≤ a ∧ a < 2 ^ 40 ∧ -2 ^ 40 ≤ b ∧ b < 2 ^ 40 then some (leftV n a b) else none
def R06_leftS_mu (n : Node) (a b : Int) : Nat := size n
def fitTo (l : List Node) (a b : Int) (i : Nat) : Prop := (sizes (l.take i) : Int) ≤ a ∧ (heights (l.take i) : Int) ≤ b
theorem heights_take : ∀ (l : List Node) (i : Nat) (v : Node), l[i]? = some v → heights (l.take (i + 1)) = max (heights (l.take i)) (height v)
  | [], i, v, h => by simp at h
  | k :: ks, 0, v, h => by
    obtain rfl : k = v := by simpa using h
    simp [heights]
  | k :: ks, i + 1, v, h => by
    have := heights_take ks i v (by simpa using h)
    simp only [List.take_succ_cons, heights, this]; omega
theorem heights_take_le : ∀ (l : List Node) (i : Nat), heights (l.take i) ≤ heights l
  | [], i => by simp [heights]
  | k :: ks, 0 => by simp [heights]
  | k :: ks, i + 1 => by
    have := heights_take_le ks i
    simp only [List.take_succ_cons, heights]; omega
theorem leftV_kids {n : Node} {a b : Int} (ha : 1 ≤ a) (hb : 1 ≤ b) : leftV n a b = if (sizes n.Kids : Int) ≤ a - 1 ∧ (heights n.Kids : Int) ≤ b - 1 then a - 1 - sizes n.Kids else -1 := by
  unfold leftV
  have h1 := size_eq n
  have h2 := height_eq n
  by_cases h : (sizes n.Kids : Int) ≤ a - 1 ∧ (heights n.Kids : Int) ≤ b - 1
  · rw [if_pos h, if_pos (by omega)]; omega
  · rw [if_neg h, if_neg (by omega)]
theorem R06_leftS_body (x0 : Node) (x1 x2 : Int) (r : Int) (h : R06_leftS x0 x1 x2 = some r) : R06_left.body (fun x0' x1' x2' => if R06_leftS_mu x0' x1' x2' < R06_leftS_mu x0 x1 x2 then R06_leftS x0' x1' x2' else none) x0 x1 x2 = some r := by
  unfold R06_leftS at h
  by_cases hb : -2 ^ 40 ≤ x1 ∧ x1 < 2 ^ 40 ∧ -2 ^ 40 ≤ x2 ∧ x2 < 2 ^ 40
  case neg => rw [if_neg hb] at h; cases h
  rw [if_pos hb] at h
  obtain rfl := Option.some.inj h
  generalize hrec : (fun x0' x1' x2' => if R06_leftS_mu x0' x1' x2' < R06_leftS_mu x0 x1 x2 then R06_leftS x0' x1' x2' else none) = rec
  have hr : ∀ (i : Nat) v a b, x0.Kids[i]? = some v → -2 ^ 40 ≤ a ∧ a < 2 ^ 40 ∧ -2 ^ 40 ≤ b ∧ b < 2 ^ 40 → rec v a b = some (leftV v a b) := by
    intro i v a b hv hab
    subst hrec
    have := kid_lt hv
    simp only [R06_leftS_mu, R06_leftS, if_pos this, if_pos hab]
  clear hrec h
  have hse := size_eq x0
  have hhe := height_eq x0
  have hlen := sizes_len x0.Kids
  have hsp := size_pos x0
  unfold R06_left.body
  by_cases h1 : x1 < 1
  · rw [if_pos h1, leftV, if_neg (by omega)]
  rw [if_neg h1]
  by_cases h2 : x2 < 1
  · rw [if_pos h2, leftV, if_neg (by omega)]
  rw [if_neg h2]
  by_cases h3 : x1 < (x0.Kids.length : Int)
  · rw [if_pos h3, leftV, if_neg (by omega)]
  rw [if_neg h3, leftV_kids (by omega) (by omega)]
  have e1 : w64 (x1 - 1) = x1 - 1 := w64_id (by omega) (by omega)
  have e2 : w64 (x2 - 1) = x2 - 1 := w64_id (by omega) (by omega)
  have key : ∀ (d i : Nat), i + d = x0.Kids.length → fitTo x0.Kids (x1 - 1) (x2 - 1) i →
      iter (R06_left_L0 rec x2 x0.Kind x0.Text x0.Gaps x0.Kids) (x1 - 1 - (sizes (x0.Kids.take i) : Int), (i : Int)) =
        some (if (sizes x0.Kids : Int) ≤ x1 - 1 ∧ (heights x0.Kids : Int) ≤ x2 - 1 then .jmp 0 (x1 - 1 - (sizes x0.Kids : Int), (x0.Kids.length : Int)) else .ret (-1)) := by
    intro d
    induction d with
    | zero =>
      intro i hi hf
      obtain rfl : i = x0.Kids.length := by omega
      unfold fitTo at hf
      rw [List.take_length] at hf ⊢
      rw [if_pos hf]
      apply iter_jmp
      simp only [R06_left_L0]
      rw [if_neg (by omega)]
    | succ d ih =>
      intro i hi hf
      have hil : i < x0.Kids.length := by omega
      obtain ⟨v, hv⟩ : ∃ v, x0.Kids[i]? = some v := ⟨_, List.getElem?_eq_getElem hil⟩
      have hs := sizes_take _ _ _ hv
      have hh := heights_take _ _ _ hv
      have hle := sizes_take_le x0.Kids (i + 1)
      have hhl := heights_take_le x0.Kids (i + 1)
      unfold fitTo at hf
      have hrv := hr i v (x1 - 1 - (sizes (x0.Kids.take i) : Int)) (x2 - 1) hv (by omega)
      have hstep : R06_left_L0 rec x2 x0.Kind x0.Text x0.Gaps x0.Kids (x1 - 1 - (sizes (x0.Kids.take i) : Int), (i : Int)) =
          if leftV v (x1 - 1 - (sizes (x0.Kids.take i) : Int)) (x2 - 1) < 0 then some (.ret (-1)) else some (.next (leftV v (x1 - 1 - (sizes (x0.Kids.take i) : Int)) (x2 - 1), ((i + 1 : Nat) : Int))) := by
        simp only [R06_left_L0, rd_nat, hv, Option.bind_some, e2, hrv, w64_succ (show i < 2 ^ 62 by omega)]
        rw [if_pos (by omega)]
      by_cases hfv : (size v : Int) ≤ x1 - 1 - (sizes (x0.Kids.take i) : Int) ∧ (height v : Int) ≤ x2 - 1
      · have hl : leftV v (x1 - 1 - (sizes (x0.Kids.take i) : Int)) (x2 - 1) = x1 - 1 - (sizes (x0.Kids.take (i + 1)) : Int) := by
          rw [leftV, if_pos hfv, hs]; omega
        rw [hl, if_neg (by omega)] at hstep
        rw [iter_next hstep]
        exact ih (i + 1) (by omega) (by unfold fitTo; omega)
      · have hl : leftV v (x1 - 1 - (sizes (x0.Kids.take i) : Int)) (x2 - 1) = -1 := by
          rw [leftV, if_neg hfv]
        rw [hl, if_pos (by omega)] at hstep
        rw [iter_ret hstep, if_neg (by omega)]
  have h0 := key x0.Kids.length 0 (by omega) (by unfold fitTo; simp [sizes, heights]; omega)
  have e0 : (x1 - 1 - (sizes (x0.Kids.take 0) : Int), ((0 : Nat) : Int)) = (x1 - 1, (0 : Int)) := by simp [sizes]
  rw [e0] at h0
  rw [e1, h0]
  by_cases hf : (sizes x0.Kids : Int) ≤ x1 - 1 ∧ (heights x0.Kids : Int) ≤ x2 - 1
  · simp only [if_pos hf, Option.bind_some]
  · simp only [if_neg hf, Option.bind_some]
def kidPos : List Node → Nat → List Int
  | [], _ => []
  | n :: ks, pos => (pos : Int) :: kidPos ks (pos + size n)
mutual
def tab : Node → Nat → Int → List Row
  | ⟨k, t, g, ks⟩, pos, par => ⟨par, k, t, g, kidPos ks (pos + 1)⟩ :: tabs ks (pos + 1) pos
def tabs : List Node → Nat → Int → List Row
  | [], _, _ => []
  | n :: ks, pos, par => tab n pos par ++ tabs ks (pos + size n) par
end
mutual
theorem tab_len : ∀ (n : Node) (pos : Nat) (par : Int), (tab n pos par).length = size n
  | ⟨k, t, g, ks⟩, pos, par => by simp only [tab, size, List.length_cons, tabs_len ks]; omega
theorem tabs_len : ∀ (l : List Node) (pos : Nat) (par : Int), (tabs l pos par).length = sizes l
  | [], pos, par => by simp [tabs, sizes]
  | n :: ks, pos, par => by simp only [tabs, sizes, List.length_append, tab_len n, tabs_len ks]
end
mutual
def gapsB : Node → Bool
  | ⟨_, _, g, ks⟩ => decide (g.length * 16 ≤ 140737488355328) && gapsBs ks
def gapsBs : List Node → Bool
  | [] => true
  | k :: ks => gapsB k && gapsBs ks
end
theorem gapsB_eq (n : Node) : gapsB n = (decide (n.Gaps.length * 16 ≤ 140737488355328) && gapsBs n.Kids) := by cases n; simp only [gapsB]
theorem gapsB_mem : ∀ (l : List Node) (i : Nat) (v : Node), gapsBs l = true → l[i]? = some v → gapsB v = true
  | [], i, v, _, h => by simp at h
  | k :: ks, 0, v, hg, h => by
    obtain rfl : k = v := by simpa using h
    simp only [gapsBs, Bool.and_eq_true] at hg; exact hg.1
  | k :: ks, i + 1, v, hg, h => by
    simp only [gapsBs, Bool.and_eq_true] at hg
    exact gapsB_mem ks i v hg.2 (by simpa using h)
theorem texts_eq {g : List ByteArray} (h : g.length * 16 ≤ 140737488355328) : tree_texts g = some g := by
  unfold tree_texts
  by_cases h0 : (g.length : Int) = 0
  · rw [if_pos h0]
    have : g = [] := List.length_eq_zero_iff.1 (by omega)
    rw [this]
  · rw [if_neg h0, if_pos (by omega)]
    simp [cpL]
end Xn

set_option linter.unusedVariables false
set_option linter.unusedSimpArgs false
namespace Xn
open Go Go.Ev
def tree_SizeS (n : Node) : Option Int := if size n < 2 ^ 40 then some (size n) else none
def tree_SizeS_mu (n : Node) : Nat := size n
theorem tree_SizeS_body (x0 : Node) (r : Int) (h : tree_SizeS x0 = some r) : tree_Size.body (fun x0' => if tree_SizeS_mu x0' < tree_SizeS_mu x0 then tree_SizeS x0' else none) x0 = some r := by
  unfold tree_SizeS at h
  by_cases hb : size x0 < 2 ^ 40
  case neg => rw [if_neg hb] at h; cases h
  rw [if_pos hb] at h
  obtain rfl := Option.some.inj h
  have hse := size_eq x0
  have hlen := sizes_len x0.Kids
  unfold tree_Size.body
  generalize hrec : (fun x0' => if tree_SizeS_mu x0' < tree_SizeS_mu x0 then tree_SizeS x0' else none) = rec
  have hr : ∀ (i : Nat) v, x0.Kids[i]? = some v → rec v = some ((size v : Nat) : Int) := by
    intro i v hv
    subst hrec
    have := kid_lt hv
    simp only [tree_SizeS_mu, tree_SizeS, if_pos this, if_pos (show size v < 2 ^ 40 by omega)]
  have h1 := iter_to (step := tree_Size_L0 rec x0.Kids (x0.Kids.length : Int)) (fun i => (((1 + sizes (x0.Kids.take i) : Nat) : Int), (i : Int))) x0.Kids.length (fun i hi => by
    obtain ⟨v, hv⟩ : ∃ v, x0.Kids[i]? = some v := ⟨_, List.getElem?_eq_getElem hi⟩
    have hs := sizes_take _ _ _ hv
    have hle := sizes_take_le x0.Kids (i + 1)
    have e1 : w64 (((1 + sizes (x0.Kids.take i) : Nat) : Int) + (size v : Int)) = ((1 + sizes (x0.Kids.take (i + 1)) : Nat) : Int) := by
      rw [w64_id (by omega) (by omega)]; omega
    simp only [tree_Size_L0, rd_nat, hv, Option.bind_some, hr i v hv, e1, w64_succ (show i < 2 ^ 62 by omega)]
    rw [if_pos (by omega)])
  have e0 : (((1 + sizes (x0.Kids.take 0) : Nat) : Int), ((0 : Nat) : Int)) = ((1 : Int), (0 : Int)) := by simp [sizes]
  rw [← e0, h1, iter_jmp (n := 0) (s' := (((1 + sizes (x0.Kids.take x0.Kids.length) : Nat) : Int), (x0.Kids.length : Int)))]
  · simp [hse]
  · simp only [tree_Size_L0]
    rw [if_neg (by omega)]
def tree_cloneS (n : Node) : Option Node := if size n < 2 ^ 30 ∧ gapsB n = true then some n else none
def tree_cloneS_mu (n : Node) : Nat := size n
theorem tree_cloneS_body (x0 : Node) (r : Node) (h : tree_cloneS x0 = some r) : tree_clone.body (fun x0' => if tree_cloneS_mu x0' < tree_cloneS_mu x0 then tree_cloneS x0' else none) x0 = some r := by
  unfold tree_cloneS at h
  by_cases hb : size x0 < 2 ^ 30 ∧ gapsB x0 = true
  case neg => rw [if_neg hb] at h; cases h
  rw [if_pos hb] at h
  obtain rfl := Option.some.inj h
  obtain ⟨hb, hg⟩ := hb
  rw [gapsB_eq, Bool.and_eq_true, decide_eq_true_eq] at hg
  have hse := size_eq x0
  have hlen := sizes_len x0.Kids
  unfold tree_clone.body
  generalize hrec : (fun x0' => if tree_cloneS_mu x0' < tree_cloneS_mu x0 then tree_cloneS x0' else none) = rec
  have hr : ∀ (i : Nat) v, x0.Kids[i]? = some v → rec v = some v := by
    intro i v hv
    subst hrec
    have := kid_lt hv
    show (if tree_cloneS_mu v < tree_cloneS_mu x0 then tree_cloneS v else none) = _
    rw [if_pos (show tree_cloneS_mu v < tree_cloneS_mu x0 from this), tree_cloneS, if_pos ⟨by omega, gapsB_mem _ _ _ hg.2 hv⟩]
  rw [texts_eq hg.1, Option.bind_some]
  have h1 := iter_to (step := tree_clone_L0 rec x0.Kids (x0.Kids.length : Int) 0 ByteArray.empty x0.Kind x0.Text x0.Gaps) (fun i => ((i : Int), x0.Kids.take i)) x0.Kids.length (fun i hi => by
    obtain ⟨v, hv⟩ : ∃ v, x0.Kids[i]? = some v := ⟨_, List.getElem?_eq_getElem hi⟩
    simp only [tree_clone_L0, rd_nat, hv, Option.bind_some, hr i v hv]
    rw [if_pos (by omega), if_pos (by rw [List.length_take]; omega), w64_succ (by omega), List.take_add_one, hv]; rfl)
  have h2 : iter (tree_clone_L0 rec x0.Kids (x0.Kids.length : Int) 0 ByteArray.empty x0.Kind x0.Text x0.Gaps) ((0 : Int), ([] : List Node)) = _ := h1
  rw [h2, iter_jmp (n := 0) (s' := ((x0.Kids.length : Int), x0.Kids))]
  · cases x0; rfl
  · simp only [tree_clone_L0]
    rw [if_neg (by omega), List.take_length]
mutual
def subs : Node → List Node
  | ⟨k, t, g, ks⟩ => ⟨k, t, g, ks⟩ :: subss ks
def subss : List Node → List Node
  | [] => []
  | k :: ks => subs k ++ subss ks
end
theorem subs_eq (n : Node) : subs n = n :: subss n.Kids := by cases n; simp only [subs]
mutual
theorem subs_len : ∀ n : Node, (subs n).length = size n
  | ⟨k, t, g, ks⟩ => by simp only [subs, size, List.length_cons, subss_len ks]; omega
theorem subss_len : ∀ l : List Node, (subss l).length = sizes l
  | [] => by simp [subss, sizes]
  | k :: ks => by simp only [subss, sizes, List.length_append, subs_len k, subss_len ks]
end
theorem subss_take : ∀ (l : List Node) (i : Nat) (v : Node), l[i]? = some v → ∃ rest, subss l = subss (l.take i) ++ subs v ++ rest
  | [], i, v, h => by simp at h
  | k :: ks, 0, v, h => by
    obtain rfl : k = v := by simpa using h
    exact ⟨subss ks, by simp [subss]⟩
  | k :: ks, i + 1, v, h => by
    obtain ⟨rest, hr⟩ := subss_take ks i v (by simpa using h)
    exact ⟨rest, by simp only [List.take_succ_cons, subss, hr, List.append_assoc]⟩
def node0 : Node := ⟨0, ByteArray.empty, [], []⟩
def tree_locateS (n : Node) (i : Int) : Option (Node × Int × Bool) :=
  if size n < 2 ^ 30 ∧ 0 ≤ i ∧ i < 2 ^ 63 then some (match (subs n)[i.toNat]? with | some v => (v, 0, true) | none => (node0, (size n : Int), false)) else none
def tree_locateS_mu (n : Node) (i : Int) : Nat := size n
theorem tree_locateS_body (x0 : Node) (x1 : Int) (r : Node × Int × Bool) (h : tree_locateS x0 x1 = some r) :
    tree_locate.body (fun x0' x1' => if tree_locateS_mu x0' x1' < tree_locateS_mu x0 x1 then tree_locateS x0' x1' else none) x0 x1 = some r := by
  unfold tree_locateS at h
  by_cases hb : size x0 < 2 ^ 30 ∧ 0 ≤ x1 ∧ x1 < 2 ^ 63
  case neg => rw [if_neg hb] at h; cases h
  rw [if_pos hb] at h
  obtain rfl := Option.some.inj h
  obtain ⟨hb, h0, h63⟩ := hb
  have hse := size_eq x0
  have hlen := sizes_len x0.Kids
  unfold tree_locate.body
  generalize hrec : (fun x0' x1' => if tree_locateS_mu x0' x1' < tree_locateS_mu x0 x1 then tree_locateS x0' x1' else none) = rec
  have hr : ∀ (i : Nat) v j, x0.Kids[i]? = some v → 0 ≤ j → j < 2 ^ 63 → rec v j = some (match (subs v)[j.toNat]? with | some v => (v, 0, true) | none => (node0, (size v : Int), false)) := by
    intro i v j hv hj1 hj2
    subst hrec
    have := kid_lt hv
    show (if tree_locateS_mu v j < tree_locateS_mu x0 x1 then tree_locateS v j else none) = _
    rw [if_pos (show tree_locateS_mu v j < tree_locateS_mu x0 x1 from this), tree_locateS, if_pos ⟨by omega, hj1, hj2⟩]
  by_cases hz : x1 = 0
  · subst hz
    rw [if_pos rfl, subs_eq]; rfl
  rw [if_neg hz]
  have key : ∀ d i, i + d = x0.Kids.length → (1 + sizes (x0.Kids.take i) : Int) ≤ x1 → iter (tree_locate_L0 rec x1 x0.Kids (x0.Kids.length : Int) 0 ByteArray.empty) (((1 + sizes (x0.Kids.take i) : Nat) : Int), (i : Int)) =
      some (match (subs x0)[x1.toNat]? with | some v => .ret (v, 0, true) | none => .jmp 0 ((size x0 : Int), (x0.Kids.length : Int))) := by
    intro d
    induction d with
    | zero =>
      intro i hi hx
      obtain rfl : i = x0.Kids.length := by omega
      rw [List.take_length] at hx ⊢
      rw [List.getElem?_eq_none (by rw [subs_len]; omega)]
      apply iter_jmp
      simp only [tree_locate_L0]
      rw [if_neg (by omega), hse]
    | succ d ih =>
      intro i hi hx
      obtain ⟨v, hv⟩ : ∃ v, x0.Kids[i]? = some v := ⟨_, List.getElem?_eq_getElem (by omega)⟩
      have hs := sizes_take _ _ _ hv
      have hle := sizes_take_le x0.Kids (i + 1)
      have e1 : w64 (x1 - ((1 + sizes (x0.Kids.take i) : Nat) : Int)) = x1 - (1 + sizes (x0.Kids.take i) : Nat) := w64_id (by omega) (by omega)
      have hrv := hr i v (x1 - (1 + sizes (x0.Kids.take i) : Nat)) hv (by omega) (by omega)
      have hstep : tree_locate_L0 rec x1 x0.Kids (x0.Kids.length : Int) 0 ByteArray.empty (((1 + sizes (x0.Kids.take i) : Nat) : Int), (i : Int)) =
          some (match (subs v)[(x1 - (1 + sizes (x0.Kids.take i) : Nat)).toNat]? with | some v => .ret (v, 0, true) | none => .next (((1 + sizes (x0.Kids.take (i + 1)) : Nat) : Int), ((i + 1 : Nat) : Int))) := by
        simp only [tree_locate_L0, rd_nat, hv, Option.bind_some, e1, hrv]
        rw [if_pos (by omega)]
        cases hsub : (subs v)[(x1 - (1 + sizes (x0.Kids.take i) : Nat)).toNat]? with
        | some u => rfl
        | none =>
          simp only [Bool.false_eq_true, if_false]
          rw [w64_succ (by omega), w64_id (by omega) (by omega)]
          congr 3
          omega
      obtain ⟨rest, hrest⟩ := subss_take x0.Kids i v hv
      have hidx : (subs v)[(x1 - (1 + sizes (x0.Kids.take i) : Nat)).toNat]? = none ∨ (subs x0)[x1.toNat]? = (subs v)[(x1 - (1 + sizes (x0.Kids.take i) : Nat)).toNat]? := by
        by_cases hlt : (x1 - (1 + sizes (x0.Kids.take i) : Nat)).toNat < (subs v).length
        · right
          rw [subs_eq x0, show x1.toNat = (x1.toNat - 1) + 1 by omega, List.getElem?_cons_succ, hrest, List.append_assoc, List.getElem?_append_right (by rw [subss_len]; omega), List.getElem?_append_left (by rw [subss_len]; omega), subss_len]
          congr 1; omega
        · left; exact List.getElem?_eq_none (by omega)
      cases hsub : (subs v)[(x1 - (1 + sizes (x0.Kids.take i) : Nat)).toNat]? with
      | some u =>
        rw [hsub] at hstep hidx
        rw [iter_ret hstep]
        rcases hidx with h | h
        · cases h
        · rw [h]
      | none =>
        rw [hsub] at hstep
        rw [iter_next hstep]
        have hl := List.getElem?_eq_none_iff.1 hsub
        rw [subs_len] at hl
        exact ih (i + 1) (by omega) (by omega)
  have h1 := key x0.Kids.length 0 (by omega) (by simp [sizes]; omega)
  have e0 : (((1 + sizes (x0.Kids.take 0) : Nat) : Int), ((0 : Nat) : Int)) = ((1 : Int), (0 : Int)) := by simp [sizes]
  rw [e0] at h1
  rw [h1]
  cases (subs x0)[x1.toNat]? <;> rfl
end Xn

namespace Xn
open Go Go.Ev
set_option linter.unusedSimpArgs false
set_option linter.unusedVariables false
set_option linter.defProp false
noncomputable def R06_Fits (x0 : Node) (x1 : Int) (x2 : Int) : Option Bool :=
  (R06_leftS x0 x1 x2).bind fun r1 =>
  some (decide ((0 : Int) ≤ r1))
noncomputable def law22_small (x0 : Node) : Option Bool :=
  (R06_Fits x0 (40 : Int) (30 : Int)).bind fun r1 =>
  some r1
noncomputable def law22_awake : Option Bool :=
  some true
noncomputable def tree_At (x0 : Node) (x1 : Int) : Option (Node × Bool) :=
  if x1 < (0 : Int) then
    some ((Node.mk (0 : Int) ByteArray.empty ([] : List ByteArray) ([] : List Node)), false)
  else
    (tree_locateS x0 x1).bind fun r2 =>
    if r2.2.2 = true then
      (tree_cloneS r2.1).bind fun r6 =>
      some (r6, true)
    else
      some ((Node.mk (0 : Int) ByteArray.empty ([] : List ByteArray) ([] : List Node)), false)
noncomputable def similar_below (x0 : Int) (x1 : Int) (x2 : Int) : Option Bool :=
  if x1 < x0 then
    some (decide (x0 < (w64 (x1 + x2))))
  else
    some false
noncomputable def similar_Score_L0 (s3 : Int) (s4 : Int) (s16 : Int) (s17 : Int) (s43 : (List Pair)) (s44 : Int) : (Int × Int) → Option (Out (Int × Int) (Int × Int)) := fun (s18, s45) =>
  if s45 < s44 then
    (rd s43 s45).bind fun v16 =>
    (similar_below v16.Old s3 s16).bind fun r19 =>
    if r19 = true then
      (similar_below v16.New s4 s17).bind fun r23 =>
      if r23 = true then
        some (.next (w64 (s18 + (1 : Int)), w64 (s45 + (1 : Int))))
      else
        some (.next (s18, w64 (s45 + (1 : Int))))
    else
      some (.next (s18, w64 (s45 + (1 : Int))))
  else
    some (.jmp 0 (s18, s45))
noncomputable def similar_Score (x0 : Node) (x1 : Node) (x2 : (List Pair)) (x3 : Int) (x4 : Int) : Option (Int × Int) :=
  (tree_At x0 x3).bind fun r1 =>
  (tree_At x1 x4).bind fun r4 =>
  if r1.2 = true then
    if r4.2 = true then
      (tree_SizeS r1.1).bind fun r9 =>
      (tree_SizeS r4.1).bind fun r12 =>
      (iter (similar_Score_L0 x3 x4 r9 r12 x2 (x2.length : Int)) ((0 : Int), (0 : Int))).bind fun
        | .jmp _ (s18_28, s45_28) =>
          some (s18_28, w64 ((w64 (r9 + r12)) - (2 : Int)))
        | _ => none
    else
      some ((0 : Int), (0 : Int))
  else
    some ((0 : Int), (0 : Int))
noncomputable def law22_SimilarTurns_L0 (s2 : (List Pair)) (s3 : Int) (s4 : Int) (w0_0 : Int) (w0_1 : ByteArray) (w0_2 : (List ByteArray)) (w0_3 : (List Node)) (w1_0 : Int) (w1_1 : ByteArray) (w1_2 : (List ByteArray)) (w1_3 : (List Node)) : (Int × (List Pair)) → Option (Out (Int × (List Pair)) Bool) := fun (s12, y2) =>
  if s12 < (s2.length : Int) then
    (rd s2 s12).bind fun v14 =>
    if (y2.length + 1) * 16 ≤ 140737488355328 then
      some (.next (w64 (s12 + (1 : Int)), (y2 ++ [(Pair.mk v14.New v14.Old)])))
    else none
  else
    some (.jmp 0 (s12, y2))
noncomputable def law22_SimilarTurns (x0 : Node) (x1 : Node) (x2 : (List Pair)) (x3 : Int) (x4 : Int) : Option Bool :=
  (law22_small x0).bind fun r1 =>
  if r1 = true then
    (law22_small x1).bind fun r5 =>
    if r5 = true then
      if (200 : Int) < (x2.length : Int) then
        (law22_awake).bind fun r10 =>
        some r10
      else
        (iter (law22_SimilarTurns_L0 x2 x3 x4 x0.Kind x0.Text x0.Gaps x0.Kids x1.Kind x1.Text x1.Gaps x1.Kids) ((0 : Int), ([] : List Pair))).bind fun
          | .jmp _ (s12_21, y2_21) =>
            (similar_Score x0 x1 x2 x3 x4).bind fun r22 =>
            (similar_Score x1 x0 y2_21 x4 x3).bind fun r25 =>
            if r22.1 = r25.1 then
              if r22.2 = r25.2 then
                (law22_awake).bind fun r30 =>
                some r30
              else
                some false
            else
              some false
          | _ => none
    else
      (law22_awake).bind fun r33 =>
      some r33
  else
    (law22_awake).bind fun r36 =>
    some r36
end Xn

