/- A part of the proof: T. No conditions of its own. -/
import Derived.Test.YtcpenhffpgajoaaE5
namespace Xr
open Go Go.Ev
set_option linter.unusedSimpArgs false
set_option linter.unusedVariables false
set_option linter.defProp false
def en_i64 (x : Int) : List Pv := [.v (.int .i64 x)]
theorem en_i64_eq (x : Int) : en_i64 x = [.v (.int .i64 x)] := rfl
theorem en_i64_len (x : Int) : (en_i64 x).length = 1 := rfl
theorem en_i64_wk (x : Int) : wks (en_i64 x) = en_i64 x := rfl
def en_u64 (x : Int) : List Pv := [.v (.int .u64 x)]
theorem en_u64_eq (x : Int) : en_u64 x = [.v (.int .u64 x)] := rfl
theorem en_u64_len (x : Int) : (en_u64 x).length = 1 := rfl
theorem en_u64_wk (x : Int) : wks (en_u64 x) = en_u64 x := rfl
def en_str (x : ByteArray) : List Pv := [.v (.string x)]
theorem en_str_eq (x : ByteArray) : en_str x = [.v (.string x)] := rfl
theorem en_str_len (x : ByteArray) : (en_str x).length = 1 := rfl
theorem en_str_wk (x : ByteArray) : wks (en_str x) = en_str x := rfl
structure Node where
 Kind : Int
 Text : ByteArray
 Gaps : (List ByteArray)
 Kids : (List Node)
mutual
def en_Node : Node → List Pv
 | ⟨y0, y1, y2, y3⟩ => [.v (.int .i64 y0), .v (.string y1), .lst false y2.length (encL en_str y2), .lst false y3.length (en_Node_all y3)]
def en_Node_all : List Node → List Pv
 | [] => []
 | x :: l => en_Node x ++ en_Node_all l
end
theorem en_Node_all_eq : ∀ l, en_Node_all l = encL en_Node l
 | [] => by simp [en_Node_all, encL]
 | x :: l => by rw [en_Node_all, encL_cons, en_Node_all_eq l]
theorem en_Node_eq (x : Node) : en_Node x = [.v (.int .i64 x.Kind), .v (.string x.Text), .lst false x.Gaps.length (encL en_str x.Gaps), .lst false x.Kids.length (encL en_Node x.Kids)] := by
 cases x
 simp only [en_Node, en_Node_all_eq]
theorem en_Node_len (x : Node) : (en_Node x).length = 4 := by rw [en_Node_eq]; rfl
abbrev pv_Node (x : Node) : List Pv := [.v (.int .i64 x.Kind), .v (.string x.Text), .lst false x.Gaps.length (encL en_str x.Gaps), .lst false x.Kids.length (encL en_Node x.Kids)]
mutual
theorem en_Node_wk : ∀ x, wks (en_Node x) = en_Node x
 | ⟨y0, y1, y2, y3⟩ => by simp only [en_Node, wk, wks, wks_encL en_str_wk, en_Node_all_wk y3]
theorem en_Node_all_wk : ∀ l, wks (en_Node_all l) = en_Node_all l
 | [] => by simp only [en_Node_all, wks]
 | x :: l => by simp only [en_Node_all, wks_append, en_Node_wk x, en_Node_all_wk l]
end
def en_Li64 (x : (List Int)) : List Pv := [.lst false x.length (encL en_i64 x)]
theorem en_Li64_eq (x : (List Int)) : en_Li64 x = [.lst false x.length (encL en_i64 x)] := rfl
theorem en_Li64_len (x : (List Int)) : (en_Li64 x).length = 1 := rfl
theorem en_Li64_wk (x : (List Int)) : wks (en_Li64 x) = en_Li64 x := by simp only [en_Li64_eq, wk, wks, wks_encL en_i64_wk]
theorem wksL_en_i64 (l) : wks (encL en_i64 l) = encL en_i64 l := wks_encL en_i64_wk l
theorem wksL_en_str (l) : wks (encL en_str l) = encL en_str l := wks_encL en_str_wk l
theorem wksL_en_Li64 (l) : wks (encL en_Li64 l) = encL en_Li64 l := wks_encL en_Li64_wk l
theorem wksL_en_Node (l) : wks (encL en_Node l) = encL en_Node l := wks_encL en_Node_wk l
theorem wksL_en_u64 (l) : wks (encL en_u64 l) = encL en_u64 l := wks_encL en_u64_wk l
def wkL := And.intro @wksL_en_Li64 (And.intro @wksL_en_Node (And.intro @wksL_en_i64 (And.intro @wksL_en_str (@wksL_en_u64))))
inductive Wf_Node : Node → Prop
 | mk : ∀ y0 y1 y2 y3, wfInt .i64 y0 → wfStr y1 → WfL 16 wfStr y2 → (y3.length ≤ maxLen ∧ y3.length * 72 ≤ reachBytes) → (∀ x ∈ y3, Wf_Node x) → Wf_Node ⟨y0, y1, y2, y3⟩
end Xr

namespace Xr
open Go Go.Ev
set_option linter.unusedSimpArgs false
set_option linter.unusedVariables false
set_option linter.defProp false
noncomputable def R06_left_L0 (rec : Node → Int → Int → Option Int) (s2 : Int) (w0_0 : Int) (w0_1 : ByteArray) (w0_2 : (List ByteArray)) (w0_3 : (List Node)) : (Int × Int) → Option (Out (Int × Int) Int) := fun (s7, s8) =>
 if s8 < (w0_3.length : Int) then
  (rd w0_3 s8).bind fun v5 =>
  (rec v5 s7 (w64 (s2 - (1 : Int)))).bind fun r8 =>
  if r8 < (0 : Int) then
   some (.ret (-1 : Int))
  else
   some (.next (r8, w64 (s8 + (1 : Int))))
 else
  some (.jmp 0 (s7, s8))
noncomputable def R06_left.body (rec : Node → Int → Int → Option Int) (x0 : Node) (x1 : Int) (x2 : Int) : Option Int :=
 if x1 < (1 : Int) then
  some (-1 : Int)
 else
  if x2 < (1 : Int) then
   some (-1 : Int)
  else
   if x1 < (x0.Kids.length : Int) then
    some (-1 : Int)
   else
    (iter (R06_left_L0 rec x2 x0.Kind x0.Text x0.Gaps x0.Kids) (w64 (x1 - (1 : Int)), (0 : Int))).bind fun
     | .jmp _ (s7_13, s8_13) =>
      some s7_13
     | .ret r14 =>
      some r14
     | .next _ => none
noncomputable def R06_weigh_L1 (rec : Node → Int → Option Int) (w0_0 : Int) (w0_1 : ByteArray) (w0_2 : (List ByteArray)) (w0_3 : (List Node)) : (Int × Int) → Option (Out (Int × Int) Int) := fun (s5, s7) =>
 if s7 < (w0_3.length : Int) then
  (rd w0_3 s7).bind fun v12 =>
  (rec v12 s5).bind fun r15 =>
  if r15 < (0 : Int) then
   some (.ret (-1 : Int))
  else
   some (.next (r15, w64 (s7 + (1 : Int))))
 else
  some (.jmp 2 (s5, s7))
noncomputable def R06_weigh_L0 (rec : Node → Int → Option Int) (w0_0 : Int) (w0_1 : ByteArray) (w0_2 : (List ByteArray)) (w0_3 : (List Node)) : (Int × Int) → Option (Out (Int × Int) Int) := fun (s5, s6) =>
 if s6 < (w0_2.length : Int) then
  (rd w0_2 s6).bind fun v4 =>
  if s5 ≤ (v4.size : Int) then
   some (.ret (-1 : Int))
  else
   some (.next (w64 ((w64 (s5 - (v4.size : Int))) - (1 : Int)), w64 (s6 + (1 : Int))))
 else
  some (.jmp 0 (s5, s6))
noncomputable def R06_weigh.body (rec : Node → Int → Option Int) (x0 : Node) (x1 : Int) : Option Int :=
 if x1 < (x0.Text.size : Int) then
  some (-1 : Int)
 else
  if x1 < (x0.Gaps.length : Int) then
   some (-1 : Int)
  else
   (iter (R06_weigh_L0 rec x0.Kind x0.Text x0.Gaps x0.Kids) (w64 (x1 - (x0.Text.size : Int)), (0 : Int))).bind fun
    | .jmp _ (s5_10, s6_10) =>
     (iter (R06_weigh_L1 rec x0.Kind x0.Text x0.Gaps x0.Kids) (s5_10, (0 : Int))).bind fun
      | .jmp _ (s5_20, s7_20) =>
       some s5_20
      | .ret r21 =>
       some r21
      | .next _ => none
    | .ret r22 =>
     some r22
    | .next _ => none
noncomputable def R06_list_L0 (rec : (List Node) → Node → Option (List Node)) (w2_0 : Int) (w2_1 : ByteArray) (w2_2 : (List ByteArray)) (w2_3 : (List Node)) : (Int × (List Node)) → Option (Out (Int × (List Node)) (List Node)) := fun (s5, y1) =>
 if s5 < (w2_3.length : Int) then
  (rd w2_3 s5).bind fun v4 =>
  (rec y1 v4).bind fun r7 =>
  some (.next (w64 (s5 + (1 : Int)), r7))
 else
  some (.jmp 0 (s5, y1))
noncomputable def R06_list.body (rec : (List Node) → Node → Option (List Node)) (x0 : (List Node)) (x1 : Node) : Option (List Node) :=
 if (x0.length + 1) * 72 ≤ 140737488355328 then
  (iter (R06_list_L0 rec x1.Kind x1.Text x1.Gaps x1.Kids) ((0 : Int), (x0 ++ [x1]))).bind fun
   | .jmp _ (s5_11, y1_11) =>
    some y1_11
   | _ => none
 else none
noncomputable def hash_parts_L0 (rec : (List Node) → Node → Option (List Node)) (s12 : (List Node)) (s13 : Int) : (Int × (List Node)) → Option (Out (Int × (List Node)) (List Node)) := fun (s14, y1) =>
 if s14 < s13 then
  (rd s12 s14).bind fun v4 =>
  (rec y1 v4).bind fun r7 =>
  some (.next (w64 (s14 + (1 : Int)), r7))
 else
  some (.jmp 0 (s14, y1))
noncomputable def hash_parts.body (rec : (List Node) → Node → Option (List Node)) (x0 : (List Node)) (x1 : Node) : Option (List Node) :=
 if (x0.length + 1) * 72 ≤ 140737488355328 then
  (iter (hash_parts_L0 rec x1.Kids (x1.Kids.length : Int)) ((0 : Int), (x0 ++ [x1]))).bind fun
   | .jmp _ (s14_11, y1_11) =>
    some y1_11
   | _ => none
 else none
noncomputable def digest_add (x0 : Int) (x1 : Int) : Option Int :=
 some (IntKind.wrap .u64 ((xorK .u64 x0 (IntKind.wrap .u64 x1)) * (1099511628211 : Int)))
noncomputable def digest_Sum_L0 (s0 : ByteArray) (s6 : Int) : (Int × Int) → Option (Out (Int × Int) Int) := fun (s3, s7) =>
 if s7 < s6 then
  (bt s0 s7).bind fun q2 =>
  (digest_add s3 q2).bind fun r5 =>
  some (.next (r5, w64 (s7 + (1 : Int))))
 else
  some (.jmp 0 (s3, s7))
noncomputable def digest_Sum (x0 : ByteArray) : Option Int :=
 (iter (digest_Sum_L0 x0 (x0.size : Int)) ((14695981039346656037 : Int), (0 : Int))).bind fun
  | .jmp _ (s3_9, s7_9) =>
   some s3_9
  | _ => none
noncomputable def digest_Mix_L1 (s7 : Int) (a11_0 : Int) (a11_1 : Int) (s12 : Int) : (Int × Int) → Option (Out (Int × Int) Int) := fun (s5, s8) =>
 if (0 : Int) ≤ s8 then
  (shrK .u64 s7 (IntKind.wrap .u64 s8)).bind fun q6 =>
  (digest_add s5 (IntKind.wrap .u8 q6)).bind fun r9 =>
  some (.next (r9, w64 (s8 - (8 : Int))))
 else
  some (.jmp 2 (s5, s8))
noncomputable def digest_Mix_L0 (a11_0 : Int) (a11_1 : Int) : (Int × Int) → Option (Out (Int × Int) Int) := fun (s5, s12) =>
 if s12 < (2 : Int) then
  (rd [a11_0, a11_1] s12).bind fun q2 =>
  (iter (digest_Mix_L1 q2 a11_0 a11_1 s12) (s5, (56 : Int))).bind fun
   | .jmp _ (s5_13, s8_13) =>
    some (.next (s5_13, w64 (s12 + (1 : Int))))
   | _ => none
 else
  some (.jmp 0 (s5, s12))
noncomputable def digest_Mix (x0 : Int) (x1 : Int) : Option Int :=
 (iter (digest_Mix_L0 x0 x1) ((14695981039346656037 : Int), (0 : Int))).bind fun
  | .jmp _ (s5_15, s12_15) =>
   some s5_15
  | _ => none
noncomputable def hash_fill_L0 (rec : (List Int) → Node → Option ((List Int) × Int)) (p2 : Node → Option ByteArray) (s8 : Int) (s27 : (List Node)) (s28 : Int) (w2_0 : Int) (w2_1 : ByteArray) (w2_2 : (List ByteArray)) (w2_3 : (List Node)) : (Int × Int × (List Int)) → Option (Out (Int × Int × (List Int)) ((List Int) × Int)) := fun (s9, s29, y1) =>
 if s29 < s28 then
  (rd s27 s29).bind fun v13 =>
  (rec y1 v13).bind fun r16 =>
  (digest_Mix s9 r16.2).bind fun r19 =>
  some (.next (r19, w64 (s29 + (1 : Int)), r16.1))
 else
  some (.jmp 0 (s9, s29, y1))
noncomputable def hash_fill.body (rec : (List Int) → Node → Option ((List Int) × Int)) (p2 : Node → Option ByteArray) (x0 : (List Int)) (x1 : Node) : Option ((List Int) × Int) :=
 if (x0.length + 1) * 8 ≤ 140737488355328 then
  (p2 x1).bind fun r3 =>
  (digest_Sum r3).bind fun r6 =>
  (digest_Mix (IntKind.wrap .u64 x1.Kind) r6).bind fun r9 =>
  (iter (hash_fill_L0 rec p2 (x0.length : Int) x1.Kids (x1.Kids.length : Int) x1.Kind x1.Text x1.Gaps x1.Kids) (r9, (0 : Int), (x0 ++ [(0 : Int)]))).bind fun
   | .jmp _ (s9_23, s29_23, y1_23) =>
    (digest_Mix s9_23 (IntKind.wrap .u64 (x1.Kids.length : Int))).bind fun r24 =>
    (rd y1_23 (x0.length : Int)).bind fun v27 =>
    some ((y1_23.set (x0.length : Int).toNat r24), r24)
   | _ => none
 else none
noncomputable def tree_Same_L0 (rec : Node → Node → Option Bool) (s29 : Int) (w0_0 : Int) (w0_1 : ByteArray) (w0_2 : (List ByteArray)) (w0_3 : (List Node)) (w1_0 : Int) (w1_1 : ByteArray) (w1_2 : (List ByteArray)) (w1_3 : (List Node)) : Int → Option (Out (Int) Bool) := fun s30 =>
 if s30 < s29 then
  (rd w0_3 s30).bind fun v5 =>
  (rd w1_3 s30).bind fun v8 =>
  (rec v5 v8).bind fun r11 =>
  if r11 = true then
   some (.next (w64 (s30 + (1 : Int))))
  else
   some (.ret false)
 else
  some (.jmp 0 s30)
noncomputable def tree_Same.body (rec : Node → Node → Option Bool) (x0 : Node) (x1 : Node) : Option Bool :=
 if x0.Kind = x1.Kind then
  if x0.Text = x1.Text then
   if (x0.Kids.length : Int) = (x1.Kids.length : Int) then
    (iter (tree_Same_L0 rec (x0.Kids.length : Int) x0.Kind x0.Text x0.Gaps x0.Kids x1.Kind x1.Text x1.Gaps x1.Kids) (0 : Int)).bind fun
     | .jmp _ s30_16 =>
      some true
     | .ret r17 =>
      some r17
     | .next _ => none
   else
    some false
  else
   some false
 else
  some false
noncomputable def R06_Same_L0 (rec : Node → Node → Option Bool) (w0_0 : Int) (w0_1 : ByteArray) (w0_2 : (List ByteArray)) (w0_3 : (List Node)) (w1_0 : Int) (w1_1 : ByteArray) (w1_2 : (List ByteArray)) (w1_3 : (List Node)) : Int → Option (Out (Int) Bool) := fun s5 =>
 if s5 < (w0_3.length : Int) then
  (rd w0_3 s5).bind fun v5 =>
  (rd w1_3 s5).bind fun v8 =>
  (rec v5 v8).bind fun r11 =>
  if r11 = true then
   some (.next (w64 (s5 + (1 : Int))))
  else
   some (.ret false)
 else
  some (.jmp 0 s5)
noncomputable def R06_Same.body (rec : Node → Node → Option Bool) (x0 : Node) (x1 : Node) : Option Bool :=
 if x0.Kind = x1.Kind then
  if x0.Text = x1.Text then
   if (x0.Kids.length : Int) = (x1.Kids.length : Int) then
    (iter (R06_Same_L0 rec x0.Kind x0.Text x0.Gaps x0.Kids x1.Kind x1.Text x1.Gaps x1.Kids) (0 : Int)).bind fun
     | .jmp _ s5_16 =>
      some true
     | .ret r17 =>
      some r17
     | .next _ => none
   else
    some false
  else
   some false
 else
  some false
noncomputable def R02_Step (x0 : Int) (x1 : Int) : Option Int :=
 some (IntKind.wrap .u64 ((xorK .u64 x0 (IntKind.wrap .u64 x1)) * (1099511628211 : Int)))
noncomputable def R02_Sum_L0 (s0 : ByteArray) : (Int × Int) → Option (Out (Int × Int) Int) := fun (s3, s4) =>
 if s4 < (s0.size : Int) then
  (bt s0 s4).bind fun q2 =>
  (R02_Step s3 q2).bind fun r5 =>
  some (.next (r5, w64 (s4 + (1 : Int))))
 else
  some (.jmp 0 (s3, s4))
noncomputable def R02_Sum (x0 : ByteArray) : Option Int :=
 (iter (R02_Sum_L0 x0) ((14695981039346656037 : Int), (0 : Int))).bind fun
  | .jmp _ (s3_9, s4_9) =>
   some s3_9
  | _ => none
noncomputable def R02_number_L0 (s1 : Int) : (Int × Int) → Option (Out (Int × Int) Int) := fun (s5, s6) =>
 if (0 : Int) ≤ s6 then
  (shrK .u64 s1 s6).bind fun q2 =>
  (R02_Step s5 (IntKind.wrap .u8 q2)).bind fun r5 =>
  some (.next (r5, w64 (s6 - (8 : Int))))
 else
  some (.jmp 0 (s5, s6))
noncomputable def R02_number (x0 : Int) (x1 : Int) : Option Int :=
 (iter (R02_number_L0 x1) (x0, (56 : Int))).bind fun
  | .jmp _ (s5_9, s6_9) =>
   some s5_9
  | _ => none
noncomputable def R02_Mix (x0 : Int) (x1 : Int) : Option Int :=
 (R02_Sum (ByteArray.mk #[])).bind fun r1 =>
 (R02_number r1 x0).bind fun r4 =>
 (R02_number r4 x1).bind fun r7 =>
 some r7
end Xr

namespace Xr
open Go Go.Ev
set_option linter.unusedVariables false
set_option linter.unusedSimpArgs false
mutual
def size : Node → Nat
 | ⟨_, _, _, ks⟩ => 1 + sizes ks
def sizes : List Node → Nat
 | [] => 0
 | k :: ks => size k + sizes ks
end
mutual
def height : Node → Nat
 | ⟨_, _, _, ks⟩ => 1 + heights ks
def heights : List Node → Nat
 | [] => 0
 | k :: ks => max (height k) (heights ks)
end
theorem size_eq (n : Node) : size n = 1 + sizes n.Kids := by cases n; simp only [size]
theorem height_eq (n : Node) : height n = 1 + heights n.Kids := by cases n; simp only [height]
theorem size_pos (n : Node) : 1 ≤ size n := by rw [size_eq]; omega
theorem sizes_len : ∀ l : List Node, l.length ≤ sizes l
 | [] => by simp [sizes]
 | k :: ks => by
  have := sizes_len ks
  have := size_pos k
  simp only [sizes, List.length_cons]; omega
theorem sizes_take : ∀ (l : List Node) (i : Nat) (v : Node), l[i]? = some v → sizes (l.take (i + 1)) = sizes (l.take i) + size v
 | [], i, v, h => by simp at h
 | k :: ks, 0, v, h => by
  obtain rfl : k = v := by simpa using h
  simp [sizes]
 | k :: ks, i + 1, v, h => by
  have := sizes_take ks i v (by simpa using h)
  simp only [List.take_succ_cons, sizes, this]; omega
theorem sizes_take_le : ∀ (l : List Node) (i : Nat), sizes (l.take i) ≤ sizes l
 | [], i => by simp [sizes]
 | k :: ks, 0 => by simp [sizes]
 | k :: ks, i + 1 => by
  have := sizes_take_le ks i
  simp only [List.take_succ_cons, sizes]; omega
theorem size_mem : ∀ (l : List Node) (i : Nat) (v : Node), l[i]? = some v → size v ≤ sizes l
 | [], i, v, h => by simp at h
 | k :: ks, 0, v, h => by
  obtain rfl : k = v := by simpa using h
  simp only [sizes]; omega
 | k :: ks, i + 1, v, h => by
  have := size_mem ks i v (by simpa using h)
  simp only [sizes]; omega
theorem kid_lt {n v : Node} {i : Nat} (h : n.Kids[i]? = some v) : size v < size n := by
 have := size_mem _ _ _ h
 rw [size_eq n]; omega
def leftV (n : Node) (a b : Int) : Int := if (size n : Int) ≤ a ∧ (height n : Int) ≤ b then a - size n else -1
def R06_leftS (n : Node) (a b : Int) : Option Int := if -2 ^ 40 ≤ a ∧ a < 2 ^ 40 ∧ -2 ^ 40 ≤ b ∧ b < 2 ^ 40 then some (leftV n a b) else none
def R06_leftS_mu (n : Node) (a b : Int) : Nat := size n
def fitTo (l : List Node) (a b : Int) (i : Nat) : Prop := (sizes (l.take i) : Int) ≤ a ∧ (heights (l.take i) : Int) ≤ b
theorem heights_take : ∀ (l : List Node) (i : Nat) (v : Node), l[i]? = some v → heights (l.take (i + 1)) = max (heights (l.take i)) (height v)
 | [], i, v, h => by simp at h
 | k :: ks, 0, v, h => by
  obtain rfl : k = v := by simpa using h
  simp [heights]
 | k :: ks, i + 1, v, h => by
  have := heights_take ks i v (by simpa using h)
  simp only [List.take_succ_cons, heights, this]; omega
theorem heights_take_le : ∀ (l : List Node) (i : Nat), heights (l.take i) ≤ heights l
 | [], i => by simp [heights]
 | k :: ks, 0 => by simp [heights]
 | k :: ks, i + 1 => by
  have := heights_take_le ks i
  simp only [List.take_succ_cons, heights]; omega
theorem leftV_kids {n : Node} {a b : Int} (ha : 1 ≤ a) (hb : 1 ≤ b) : leftV n a b = if (sizes n.Kids : Int) ≤ a - 1 ∧ (heights n.Kids : Int) ≤ b - 1 then a - 1 - sizes n.Kids else -1 := by
 unfold leftV
 have h1 := size_eq n
 have h2 := height_eq n
 by_cases h : (sizes n.Kids : Int) ≤ a - 1 ∧ (heights n.Kids : Int) ≤ b - 1
 ·rw [if_pos h, if_pos (by omega)]; omega
 ·rw [if_neg h, if_neg (by omega)]
theorem R06_leftS_body (x0 : Node) (x1 x2 : Int) (r : Int) (h : R06_leftS x0 x1 x2 = some r) : R06_left.body (fun x0' x1' x2' => if R06_leftS_mu x0' x1' x2' < R06_leftS_mu x0 x1 x2 then R06_leftS x0' x1' x2' else none) x0 x1 x2 = some r := by
 unfold R06_leftS at h
 by_cases hb : -2 ^ 40 ≤ x1 ∧ x1 < 2 ^ 40 ∧ -2 ^ 40 ≤ x2 ∧ x2 < 2 ^ 40
 case neg => rw [if_neg hb] at h; cases h
 rw [if_pos hb] at h
 obtain rfl := Option.some.inj h
 generalize hrec : (fun x0' x1' x2' => if R06_leftS_mu x0' x1' x2' < R06_leftS_mu x0 x1 x2 then R06_leftS x0' x1' x2' else none) = rec
 have hr : ∀ (i : Nat) v a b, x0.Kids[i]? = some v → -2 ^ 40 ≤ a ∧ a < 2 ^ 40 ∧ -2 ^ 40 ≤ b ∧ b < 2 ^ 40 → rec v a b = some (leftV v a b) := by
  intro i v a b hv hab
  subst hrec
  have := kid_lt hv
  simp only [R06_leftS_mu, R06_leftS, if_pos this, if_pos hab]
 clear hrec h
 have hse := size_eq x0
 have hhe := height_eq x0
 have hlen := sizes_len x0.Kids
 have hsp := size_pos x0
 unfold R06_left.body
 by_cases h1 : x1 < 1
 ·rw [if_pos h1, leftV, if_neg (by omega)]
 rw [if_neg h1]
 by_cases h2 : x2 < 1
 ·rw [if_pos h2, leftV, if_neg (by omega)]
 rw [if_neg h2]
 by_cases h3 : x1 < (x0.Kids.length : Int)
 ·rw [if_pos h3, leftV, if_neg (by omega)]
 rw [if_neg h3, leftV_kids (by omega) (by omega)]
 have e1 : w64 (x1 - 1) = x1 - 1 := w64_id (by omega) (by omega)
 have e2 : w64 (x2 - 1) = x2 - 1 := w64_id (by omega) (by omega)
 have key : ∀ (d i : Nat), i + d = x0.Kids.length → fitTo x0.Kids (x1 - 1) (x2 - 1) i →
   iter (R06_left_L0 rec x2 x0.Kind x0.Text x0.Gaps x0.Kids) (x1 - 1 - (sizes (x0.Kids.take i) : Int), (i : Int)) =
    some (if (sizes x0.Kids : Int) ≤ x1 - 1 ∧ (heights x0.Kids : Int) ≤ x2 - 1 then .jmp 0 (x1 - 1 - (sizes x0.Kids : Int), (x0.Kids.length : Int)) else .ret (-1)) := by
  intro d
  induction d with
  | zero =>
   intro i hi hf
   obtain rfl : i = x0.Kids.length := by omega
   unfold fitTo at hf
   rw [List.take_length] at hf ⊢
   rw [if_pos hf]
   apply iter_jmp
   simp only [R06_left_L0]
   rw [if_neg (by omega)]
  | succ d ih =>
   intro i hi hf
   have hil : i < x0.Kids.length := by omega
   obtain ⟨v, hv⟩ : ∃ v, x0.Kids[i]? = some v := ⟨_, List.getElem?_eq_getElem hil⟩
   have hs := sizes_take _ _ _ hv
   have hh := heights_take _ _ _ hv
   have hle := sizes_take_le x0.Kids (i + 1)
   have hhl := heights_take_le x0.Kids (i + 1)
   unfold fitTo at hf
   have hrv := hr i v (x1 - 1 - (sizes (x0.Kids.take i) : Int)) (x2 - 1) hv (by omega)
   have hstep : R06_left_L0 rec x2 x0.Kind x0.Text x0.Gaps x0.Kids (x1 - 1 - (sizes (x0.Kids.take i) : Int), (i : Int)) =
     if leftV v (x1 - 1 - (sizes (x0.Kids.take i) : Int)) (x2 - 1) < 0 then some (.ret (-1)) else some (.next (leftV v (x1 - 1 - (sizes (x0.Kids.take i) : Int)) (x2 - 1), ((i + 1 : Nat) : Int))) := by
    simp only [R06_left_L0, rd_nat, hv, Option.bind_some, e2, hrv, w64_succ (show i < 2 ^ 62 by omega)]
    rw [if_pos (by omega)]
   by_cases hfv : (size v : Int) ≤ x1 - 1 - (sizes (x0.Kids.take i) : Int) ∧ (height v : Int) ≤ x2 - 1
   ·have hl : leftV v (x1 - 1 - (sizes (x0.Kids.take i) : Int)) (x2 - 1) = x1 - 1 - (sizes (x0.Kids.take (i + 1)) : Int) := by
     rw [leftV, if_pos hfv, hs]; omega
    rw [hl, if_neg (by omega)] at hstep
    rw [iter_next hstep]
    exact ih (i + 1) (by omega) (by unfold fitTo; omega)
   ·have hl : leftV v (x1 - 1 - (sizes (x0.Kids.take i) : Int)) (x2 - 1) = -1 := by
     rw [leftV, if_neg hfv]
    rw [hl, if_pos (by omega)] at hstep
    rw [iter_ret hstep, if_neg (by omega)]
 have h0 := key x0.Kids.length 0 (by omega) (by unfold fitTo; simp [sizes, heights]; omega)
 have e0 : (x1 - 1 - (sizes (x0.Kids.take 0) : Int), ((0 : Nat) : Int)) = (x1 - 1, (0 : Int)) := by simp [sizes]
 rw [e0] at h0
 rw [e1, h0]
 by_cases hf : (sizes x0.Kids : Int) ≤ x1 - 1 ∧ (heights x0.Kids : Int) ≤ x2 - 1
 ·simp only [if_pos hf, Option.bind_some]
 ·simp only [if_neg hf, Option.bind_some]
end Xr

set_option linter.unusedVariables false
set_option linter.unusedSimpArgs false
namespace Xr
open Go Go.Ev
def addI (d c : Int) : Int := IntKind.wrap .u64 ((xorK .u64 d (IntKind.wrap .u64 c)) * (1099511628211 : Int))
def byI (n : Int) (s : Nat) : Int := IntKind.wrap .u8 (n.fdiv (2 ^ s))
def numI (d n : Int) : Int := addI (addI (addI (addI (addI (addI (addI (addI d (byI n 56)) (byI n 48)) (byI n 40)) (byI n 32)) (byI n 24)) (byI n 16)) (byI n 8)) (byI n 0)
def basI : Int := 14695981039346656037
def mixI (a b : Int) : Int := numI (numI basI a) b
def sumL (d : Int) : List UInt8 → Int
 | [] => d
 | c :: l => sumL (addI d c.toNat) l
def sumI (s : ByteArray) : Int := sumL basI s.data.toList
theorem wu64 (s : Nat) (h : s ≤ 64) : IntKind.wrap .u64 (s : Int) = s := by
 show (s : Int) % (2 ^ 64 : Int) = s
 omega
theorem shr_nat {n : Int} (s : Nat) (h : s ≤ 64) : shrK .u64 n (s : Int) = some (n.fdiv (2 ^ s)) := by
 unfold shrK
 rw [if_neg (by omega)]
 rw [show min (s : Int).toNat IntKind.u64.bits = s from Nat.min_eq_left h]
theorem mxL1 (n a b i d : Int) (s : Nat) (hs : s ≤ 56) : digest_Mix_L1 n a b i (d, (s : Int)) = some (.next (addI d (byI n s), (s : Int) - 8)) := by
 simp only [digest_Mix_L1, wu64 s (by omega), shr_nat s (show s ≤ 64 by omega), Option.bind_some, digest_add]
 rw [if_pos (by omega), w64_id (by omega) (by omega)]; rfl
theorem nmL0 (n d : Int) (s : Nat) (hs : s ≤ 56) : R02_number_L0 n (d, (s : Int)) = some (.next (addI d (byI n s), (s : Int) - 8)) := by
 simp only [R02_number_L0, shr_nat s (show s ≤ 64 by omega), Option.bind_some, R02_Step]
 rw [if_pos (by omega), w64_id (by omega) (by omega)]; rfl
theorem eight {step : (Int × Int) → Option (Out (Int × Int) Int)} {n : Int} {k : Nat} (h : ∀ d (s : Nat), s ≤ 56 → step (d, (s : Int)) = some (.next (addI d (byI n s), (s : Int) - 8))) (he : ∀ d, step (d, (-8 : Int)) = some (.jmp k (d, (-8 : Int)))) (d : Int) : iter step (d, (56 : Int)) = some (.jmp k (numI d n, (-8 : Int))) := by
 rw [show (56 : Int) = ((56 : Nat) : Int) from rfl, iter_next (h d 56 (by omega)), show ((56 : Nat) : Int) - 8 = ((48 : Nat) : Int) from rfl, iter_next (h _ 48 (by omega)), show ((48 : Nat) : Int) - 8 = ((40 : Nat) : Int) from rfl, iter_next (h _ 40 (by omega)),
  show ((40 : Nat) : Int) - 8 = ((32 : Nat) : Int) from rfl, iter_next (h _ 32 (by omega)), show ((32 : Nat) : Int) - 8 = ((24 : Nat) : Int) from rfl, iter_next (h _ 24 (by omega)),
  show ((24 : Nat) : Int) - 8 = ((16 : Nat) : Int) from rfl, iter_next (h _ 16 (by omega)), show ((16 : Nat) : Int) - 8 = ((8 : Nat) : Int) from rfl, iter_next (h _ 8 (by omega)),
  show ((8 : Nat) : Int) - 8 = ((0 : Nat) : Int) from rfl, iter_next (h _ 0 (by omega)), show ((0 : Nat) : Int) - 8 = (-8 : Int) from rfl, iter_jmp (he _)]
 rfl
theorem mxI (n a b i d : Int) : iter (digest_Mix_L1 n a b i) (d, (56 : Int)) = some (.jmp 2 (numI d n, (-8 : Int))) :=
 eight (fun d s hs => mxL1 n a b i d s hs) (fun d => by simp only [digest_Mix_L1]; rw [if_neg (by omega)]) d
theorem digest_Mix_eq (a b : Int) : digest_Mix a b = some (mixI a b) := by
 unfold digest_Mix
 have h0 : digest_Mix_L0 a b (basI, (0 : Int)) = some (.next (numI basI a, (1 : Int))) := by
  simp only [digest_Mix_L0]
  rw [if_pos (by omega), show rd [a, b] (0 : Int) = some a from rfl]
  simp only [Option.bind_some, mxI]; rfl
 have h1 : digest_Mix_L0 a b (numI basI a, (1 : Int)) = some (.next (mixI a b, (2 : Int))) := by
  simp only [digest_Mix_L0]
  rw [if_pos (by omega), show rd [a, b] (1 : Int) = some b from rfl]
  simp only [Option.bind_some, mxI]; rfl
 have h2 : digest_Mix_L0 a b (mixI a b, (2 : Int)) = some (.jmp 0 (mixI a b, (2 : Int))) := by
  simp only [digest_Mix_L0]
  rw [if_neg (by omega)]
 show (iter (digest_Mix_L0 a b) (basI, (0 : Int))).bind _ = _
 rw [iter_next h0, iter_next h1, iter_jmp h2]; rfl
theorem bt_nat {s : ByteArray} {i : Nat} : bt s (i : Int) = (s.data.toList[i]?).map fun b => (b.toNat : Int) := by
 unfold bt
 rw [if_pos (by omega)]
 congr 1
 rw [Array.getElem?_toList]; rfl
theorem sum_it {step : (Int × Int) → Option (Out (Int × Int) Int)} {s : ByteArray} {m : Nat} (hm : s.data.toList.length = m)
  (h : ∀ d (i : Nat) c, s.data.toList[i]? = some c → step (d, (i : Int)) = some (.next (addI d c.toNat, ((i + 1 : Nat) : Int)))) (he : ∀ d, step (d, (m : Int)) = some (.jmp 0 (d, (m : Int)))) :
  ∀ (l : List UInt8) (i : Nat) (d : Int), s.data.toList.drop i = l → i ≤ m → iter step (d, (i : Int)) = some (.jmp 0 (sumL d l, (m : Int)))
 | [], i, d, hl, hi => by
  have : i = m := by have := congrArg List.length hl; simp only [List.length_drop, List.length_nil] at this; omega
  subst this
  rw [iter_jmp (he d)]; rfl
 | c :: l, i, d, hl, hi => by
  have hc : s.data.toList[i]? = some c := by
   have := congrArg (fun x => x[0]?) hl
   simpa [List.getElem?_drop] using this
  have hl' : s.data.toList.drop (i + 1) = l := by
   have := congrArg List.tail hl
   simpa [List.tail_drop] using this
  have hi' : i + 1 ≤ m := by
   have := (List.getElem?_eq_some_iff.1 hc).1
   omega
  rw [iter_next (h d i c hc)]
  exact sum_it hm h he l (i + 1) _ hl' hi'
theorem size_list (s : ByteArray) : s.data.toList.length = s.size := by rw [Array.length_toList]; rfl
theorem digest_Sum_eq {s : ByteArray} (hs : s.size < 2 ^ 40) : digest_Sum s = some (sumI s) := by
 unfold digest_Sum
 have := sum_it (step := digest_Sum_L0 s (s.size : Int)) (s := s) (m := s.size) (size_list s) (fun d i c hc => by
  have hi := (List.getElem?_eq_some_iff.1 hc).1
  rw [size_list] at hi
  simp only [digest_Sum_L0, bt_nat, hc, Option.map_some, Option.bind_some, digest_add]
  rw [if_pos (by omega), w64_id (by omega) (by omega)]; rfl) (fun d => by
  simp only [digest_Sum_L0]
  rw [if_neg (by omega)]) s.data.toList 0 basI rfl (by omega)
 show (iter (digest_Sum_L0 s (s.size : Int)) (basI, ((0 : Nat) : Int))).bind _ = _
 rw [this]; rfl
theorem R02_Sum_eq {s : ByteArray} (hs : s.size < 2 ^ 40) : R02_Sum s = some (sumI s) := by
 unfold R02_Sum
 have := sum_it (step := R02_Sum_L0 s) (s := s) (m := s.size) (size_list s) (fun d i c hc => by
  have hi := (List.getElem?_eq_some_iff.1 hc).1
  rw [size_list] at hi
  simp only [R02_Sum_L0, bt_nat, hc, Option.map_some, Option.bind_some, R02_Step]
  rw [if_pos (by omega), w64_id (by omega) (by omega)]; rfl) (fun d => by
  simp only [R02_Sum_L0]
  rw [if_neg (by omega)]) s.data.toList 0 basI rfl (by omega)
 show (iter (R02_Sum_L0 s) (basI, ((0 : Nat) : Int))).bind _ = _
 rw [this]; rfl
theorem R02_number_eq (d n : Int) : R02_number d n = some (numI d n) := by
 unfold R02_number
 rw [eight (step := R02_number_L0 n) (n := n) (k := 0) (fun d s hs => nmL0 n d s hs) (fun d => by simp only [R02_number_L0]; rw [if_neg (by omega)])]
 rfl
theorem R02_Mix_eq (a b : Int) : R02_Mix a b = some (mixI a b) := by
 unfold R02_Mix
 rw [R02_Sum_eq (by decide)]
 simp only [Option.bind_some, R02_number_eq]
 rfl
end Xr

set_option linter.unusedVariables false
set_option linter.unusedSimpArgs false
namespace Xr
open Go Go.Ev
set_option maxRecDepth 4000
theorem drop_cons {T : Type} {l ks : List T} {i : Nat} {k : T} (h : l.drop i = k :: ks) : l[i]? = some k ∧ l.drop (i + 1) = ks ∧ i < l.length := by
 have hk : l[i]? = some k := by
  have := congrArg (fun x => x[0]?) h
  simpa [List.getElem?_drop] using this
 refine ⟨hk, ?_, (List.getElem?_eq_some_iff.1 hk).1⟩
 have := congrArg List.tail h
 simpa [List.tail_drop] using this
theorem drop_nil {T : Type} {l : List T} {i : Nat} (h : l.drop i = []) (hi : i ≤ l.length) : i = l.length := by
 have := congrArg List.length h
 simp only [List.length_drop, List.length_nil] at this
 omega
def gapW : List ByteArray → Nat
 | [] => 0
 | g :: l => g.size + 1 + gapW l
theorem gapW_len : ∀ l : List ByteArray, l.length ≤ gapW l
 | [] => Nat.le_refl _
 | g :: l => by have := gapW_len l; simp only [List.length_cons, gapW]; omega
mutual
def weight : Node → Nat
 | ⟨_, t, g, ks⟩ => t.size + gapW g + weights ks
def weights : List Node → Nat
 | [] => 0
 | k :: ks => weight k + weights ks
end
theorem weight_eq (n : Node) : weight n = n.Text.size + gapW n.Gaps + weights n.Kids := by cases n; simp only [weight]
def R06_weighS (n : Node) (a : Int) : Option Int := if size n < 2 ^ 40 ∧ -2 ^ 40 ≤ a ∧ a < 2 ^ 40 then some (if (weight n : Int) ≤ a then a - weight n else -1) else none
def R06_weighS_mu (n : Node) (a : Int) : Nat := size n
theorem weigh_gaps {rec : Node → Int → Option Int} {k : Int} {t : ByteArray} {g : List ByteArray} {ks : List Node} (hg : g.length < 2 ^ 40) : ∀ (l : List ByteArray) (i : Nat) (x : Int), g.drop i = l → i ≤ g.length → 0 ≤ x → x < 2 ^ 40 →
  iter (R06_weigh_L0 rec k t g ks) (x, (i : Int)) = some (if (gapW l : Int) ≤ x then .jmp 0 (x - gapW l, (g.length : Int)) else .ret (-1))
 | [], i, x, hl, hi, h0, h1 => by
  obtain rfl := drop_nil hl hi
  rw [if_pos (by simp only [gapW]; omega)]
  rw [show x - ((gapW [] : Nat) : Int) = x by simp [gapW]]
  apply iter_jmp
  simp only [R06_weigh_L0]
  rw [if_neg (by omega)]
 | c :: l, i, x, hl, hi, h0, h1 => by
  obtain ⟨hc, hl', hi'⟩ := drop_cons hl
  by_cases hx : x ≤ (c.size : Int)
  ·have hs : R06_weigh_L0 rec k t g ks (x, (i : Int)) = some (.ret (-1)) := by
    simp only [R06_weigh_L0, rd_nat, hc, Option.bind_some]
    rw [if_pos (by omega), if_pos hx]
   rw [iter_ret hs, if_neg (by simp only [gapW]; omega)]
  ·have hs : R06_weigh_L0 rec k t g ks (x, (i : Int)) = some (.next (x - (c.size : Int) - 1, ((i + 1 : Nat) : Int))) := by
    simp only [R06_weigh_L0, rd_nat, hc, Option.bind_some]
    rw [if_pos (by omega), if_neg hx, w64_id (x := x - (c.size : Int)) (by omega) (by omega), w64_id (x := x - (c.size : Int) - 1) (by omega) (by omega), w64_id (x := (i : Int) + 1) (by omega) (by omega)]
    rfl
   rw [iter_next hs, weigh_gaps hg l (i + 1) _ hl' (by omega) (by omega) (by omega)]
   have eg : gapW (c :: l) = c.size + 1 + gapW l := rfl
   by_cases hf : (gapW l : Int) ≤ x - (c.size : Int) - 1
   ·rw [if_pos hf, if_pos (by omega)]
    congr 3; omega
   ·rw [if_neg hf, if_neg (by omega)]
theorem weigh_kids {rec : Node → Int → Option Int} {k : Int} {t : ByteArray} {g : List ByteArray} {n : List Node} (hn : n.length < 2 ^ 40)
  (hr : ∀ (i : Nat) v (a : Int), n[i]? = some v → 0 ≤ a → a < 2 ^ 40 → rec v a = some (if (weight v : Int) ≤ a then a - weight v else -1)) : ∀ (l : List Node) (i : Nat) (x : Int), n.drop i = l → i ≤ n.length → 0 ≤ x → x < 2 ^ 40 →
  iter (R06_weigh_L1 rec k t g n) (x, (i : Int)) = some (if (weights l : Int) ≤ x then .jmp 2 (x - weights l, (n.length : Int)) else .ret (-1))
 | [], i, x, hl, hi, h0, h1 => by
  obtain rfl := drop_nil hl hi
  rw [if_pos (by simp only [weights]; omega)]
  rw [show x - ((weights [] : Nat) : Int) = x by simp [weights]]
  apply iter_jmp
  simp only [R06_weigh_L1]
  rw [if_neg (by omega)]
 | c :: l, i, x, hl, hi, h0, h1 => by
  obtain ⟨hc, hl', hi'⟩ := drop_cons hl
  have hv := hr i c x hc h0 h1
  by_cases hx : (weight c : Int) ≤ x
  ·rw [if_pos hx] at hv
   have hs : R06_weigh_L1 rec k t g n (x, (i : Int)) = some (.next (x - (weight c : Int), ((i + 1 : Nat) : Int))) := by
    simp only [R06_weigh_L1, rd_nat, hc, Option.bind_some, hv]
    rw [if_pos (by omega), if_neg (by omega), w64_id (x := (i : Int) + 1) (by omega) (by omega)]
    rfl
   rw [iter_next hs, weigh_kids hn hr l (i + 1) _ hl' (by omega) (by omega) (by omega)]
   have eg : weights (c :: l) = weight c + weights l := by simp only [weights]
   by_cases hf : (weights l : Int) ≤ x - (weight c : Int)
   ·rw [if_pos hf, if_pos (by omega)]
    congr 3; omega
   ·rw [if_neg hf, if_neg (by omega)]
  ·rw [if_neg hx] at hv
   have hs : R06_weigh_L1 rec k t g n (x, (i : Int)) = some (.ret (-1)) := by
    simp only [R06_weigh_L1, rd_nat, hc, Option.bind_some, hv]
    rw [if_pos (by omega), if_pos (by omega)]
   rw [iter_ret hs, if_neg (by simp only [weights]; omega)]
theorem R06_weighS_body (x0 : Node) (x1 : Int) (r : Int) (h : R06_weighS x0 x1 = some r) : R06_weigh.body (fun x0' x1' => if R06_weighS_mu x0' x1' < R06_weighS_mu x0 x1 then R06_weighS x0' x1' else none) x0 x1 = some r := by
 unfold R06_weighS at h
 split at h
 case isFalse => cases h
 rename_i hb
 obtain rfl := Option.some.inj h
 clear h
 have hw := weight_eq x0
 have hlen := sizes_len x0.Kids
 have hse := size_eq x0
 have hgl := gapW_len x0.Gaps
 generalize hrec : (fun x0' x1' => if R06_weighS_mu x0' x1' < R06_weighS_mu x0 x1 then R06_weighS x0' x1' else none) = rec
 have hr : ∀ (i : Nat) v (a : Int), x0.Kids[i]? = some v → 0 ≤ a → a < 2 ^ 40 → rec v a = some (if (weight v : Int) ≤ a then a - weight v else -1) := by
  intro i v a hv h0 h1
  subst hrec
  have := kid_lt hv
  show (if R06_weighS_mu v a < R06_weighS_mu x0 x1 then R06_weighS v a else none) = _
  rw [if_pos (show R06_weighS_mu v a < R06_weighS_mu x0 x1 from this), R06_weighS, if_pos (by omega)]
 clear hrec
 unfold R06_weigh.body
 by_cases h1 : x1 < (x0.Text.size : Int)
 ·rw [if_pos h1, if_neg (by omega)]
 rw [if_neg h1]
 by_cases h2 : x1 < (x0.Gaps.length : Int)
 ·rw [if_pos h2, if_neg (by omega)]
 rw [if_neg h2, w64_id (by omega) (by omega)]
 have e1 := weigh_gaps (rec := rec) (k := x0.Kind) (t := x0.Text) (ks := x0.Kids) (show x0.Gaps.length < 2 ^ 40 by omega) x0.Gaps 0 (x1 - (x0.Text.size : Int)) rfl (by omega) (by omega) (by omega)
 rw [show ((0 : Nat) : Int) = 0 from rfl] at e1
 rw [e1]
 by_cases h3 : (gapW x0.Gaps : Int) ≤ x1 - (x0.Text.size : Int)
 ·simp only [if_pos h3, Option.bind_some]
  have e2 := weigh_kids (rec := rec) (k := x0.Kind) (t := x0.Text) (g := x0.Gaps) (show x0.Kids.length < 2 ^ 40 by omega) hr x0.Kids 0 (x1 - (x0.Text.size : Int) - (gapW x0.Gaps : Int)) rfl (by omega) (by omega) (by omega)
  rw [show ((0 : Nat) : Int) = 0 from rfl] at e2
  rw [e2]
  by_cases h4 : (weights x0.Kids : Int) ≤ x1 - (x0.Text.size : Int) - (gapW x0.Gaps : Int)
  ·rw [if_pos h4, if_pos (by omega)]
   simp only [Option.bind_some]
   congr 1; omega
  ·rw [if_neg h4, if_neg (by omega)]
   simp only [Option.bind_some]
 ·simp only [if_neg h3, Option.bind_some]
  rw [if_neg (by omega)]
mutual
def hsO (p : Node → Option ByteArray) : Node → Option (List Int)
 | ⟨k, t, g, ks⟩ => (p ⟨k, t, g, ks⟩).bind fun x => if x.size < 2 ^ 40 then (hsL p ks (mixI (IntKind.wrap .u64 k) (sumI x))).map fun y => mixI y.1 (IntKind.wrap .u64 (ks.length : Int)) :: y.2 else none
def hsL (p : Node → Option ByteArray) : List Node → Int → Option (Int × List Int)
 | [], d => some (d, [])
 | n :: ks, d => (hsO p n).bind fun h => (hsL p ks (mixI d (h.headD 0))).map fun y => (y.1, h ++ y.2)
end
mutual
theorem hsO_len (p : Node → Option ByteArray) : ∀ (n : Node) (h : List Int), hsO p n = some h → h.length = size n
 | ⟨k, t, g, ks⟩, h, e => by
  simp only [hsO, Option.bind_eq_some_iff] at e
  obtain ⟨x, _, e⟩ := e
  split at e
  ·simp only [Option.map_eq_some_iff] at e
   obtain ⟨y, ey, rfl⟩ := e
   have := hsL_len p ks _ y ey
   simp only [List.length_cons, size]; omega
  ·cases e
theorem hsL_len (p : Node → Option ByteArray) : ∀ (l : List Node) (d : Int) (y : Int × List Int), hsL p l d = some y → y.2.length = sizes l
 | [], d, y, e => by
  simp only [hsL, Option.some.injEq] at e
  subst e; rfl
 | n :: ks, d, y, e => by
  simp only [hsL, Option.bind_eq_some_iff, Option.map_eq_some_iff] at e
  obtain ⟨h, eh, z, ez, rfl⟩ := e
  have h1 := hsO_len p n h eh
  have h2 := hsL_len p ks _ z ez
  simp only [List.length_append, sizes]; omega
end
def hash_fillS (p : Node → Option ByteArray) (l : List Int) (n : Node) : Option (List Int × Int) := if l.length + size n < 2 ^ 30 then (hsO p n).map fun h => (l ++ h, h.headD 0) else none
def hash_fillS_mu (l : List Int) (n : Node) : Nat := size n
theorem fill_it {p : Node → Option ByteArray} {rec : List Int → Node → Option (List Int × Int)} {b : Int} {n : List Node} {k : Int} {t : ByteArray} {g : List ByteArray} (hn : n.length < 2 ^ 40)
  (hr : ∀ (i : Nat) v y h, n[i]? = some v → y.length + size v < 2 ^ 30 → hsO p v = some h → rec y v = some (y ++ h, h.headD 0)) : ∀ (l : List Node) (i : Nat) (d : Int) (y : List Int) (z : Int × List Int), n.drop i = l → i ≤ n.length → y.length + sizes l < 2 ^ 30 → hsL p l d = some z →
  iter (hash_fill_L0 rec p b n (n.length : Int) k t g n) (d, (i : Int), y) = some (.jmp 0 (z.1, (n.length : Int), y ++ z.2))
 | [], i, d, y, z, hl, hi, hy, hz => by
  obtain rfl := drop_nil hl hi
  simp only [hsL, Option.some.injEq] at hz
  subst hz
  rw [List.append_nil]
  apply iter_jmp
  simp only [hash_fill_L0]
  rw [if_neg (by omega)]
 | c :: l, i, d, y, z, hl, hi, hy, hz => by
  obtain ⟨hc, hl', hi'⟩ := drop_cons hl
  simp only [hsL, Option.bind_eq_some_iff, Option.map_eq_some_iff] at hz
  obtain ⟨h, eh, w, ew, rfl⟩ := hz
  have hlh := hsO_len p c h eh
  simp only [sizes] at hy
  have hs : hash_fill_L0 rec p b n (n.length : Int) k t g n (d, (i : Int), y) = some (.next (mixI d (h.headD 0), ((i + 1 : Nat) : Int), y ++ h)) := by
   simp only [hash_fill_L0, rd_nat, hc, Option.bind_some, hr i c y h hc (by omega) eh, digest_Mix_eq]
   rw [if_pos (by omega), w64_id (x := (i : Int) + 1) (by omega) (by omega)]
   rfl
  rw [iter_next hs, fill_it hn hr l (i + 1) _ (y ++ h) w hl' (by omega) (by rw [List.length_append]; omega) ew, List.append_assoc]
theorem hash_fillS_body (p2 : Node → Option ByteArray) (x0 : List Int) (x1 : Node) (r : List Int × Int) (h : hash_fillS p2 x0 x1 = some r) : hash_fill.body (fun x0' x1' => if hash_fillS_mu x0' x1' < hash_fillS_mu x0 x1 then hash_fillS p2 x0' x1' else none) p2 x0 x1 = some r := by
 unfold hash_fillS at h
 split at h
 case isFalse => cases h
 rename_i hb
 simp only [Option.map_eq_some_iff] at h
 obtain ⟨hh, e, rfl⟩ := h
 have hse := size_eq x1
 have hlen := sizes_len x1.Kids
 have e0 : (p2 x1).bind (fun x => if x.size < 2 ^ 40 then (hsL p2 x1.Kids (mixI (IntKind.wrap .u64 x1.Kind) (sumI x))).map fun y => mixI y.1 (IntKind.wrap .u64 (x1.Kids.length : Int)) :: y.2 else none) = some hh := by
  cases x1; simpa only [hsO] using e
 simp only [Option.bind_eq_some_iff] at e0
 obtain ⟨x, hx, e0⟩ := e0
 split at e0
 case isFalse => cases e0
 rename_i hxs
 simp only [Option.map_eq_some_iff] at e0
 obtain ⟨y, hy, rfl⟩ := e0
 generalize hrec : (fun x0' x1' => if hash_fillS_mu x0' x1' < hash_fillS_mu x0 x1 then hash_fillS p2 x0' x1' else none) = rec
 have hr : ∀ (i : Nat) v y h, x1.Kids[i]? = some v → y.length + size v < 2 ^ 30 → hsO p2 v = some h → rec y v = some (y ++ h, h.headD 0) := by
  intro i v y h hv hl he
  subst hrec
  have := kid_lt hv
  show (if hash_fillS_mu y v < hash_fillS_mu x0 x1 then hash_fillS p2 y v else none) = _
  rw [if_pos (show hash_fillS_mu y v < hash_fillS_mu x0 x1 from this), hash_fillS, if_pos hl, he]
  rfl
 clear hrec
 unfold hash_fill.body
 rw [if_pos (by omega), hx]
 simp only [Option.bind_some, digest_Sum_eq hxs, digest_Mix_eq]
 have e2 := fill_it (rec := rec) (b := (x0.length : Int)) (k := x1.Kind) (t := x1.Text) (g := x1.Gaps) (show x1.Kids.length < 2 ^ 40 by omega) hr x1.Kids 0 (mixI (IntKind.wrap .u64 x1.Kind) (sumI x)) (x0 ++ [0]) y rfl (by omega) (by rw [List.length_append, List.length_singleton]; omega) hy
 rw [show ((0 : Nat) : Int) = 0 from rfl] at e2
 rw [e2]
 simp only [Option.bind_some]
 rw [rd_nat, List.append_assoc, List.getElem?_append_right (Nat.le_refl _), Nat.sub_self]
 simp only [List.cons_append, List.nil_append, List.getElem?_cons_zero, Option.bind_some, Int.toNat_natCast]
 rw [List.set_append_right _ _ (Nat.le_refl _), Nat.sub_self, List.set_cons_zero]
 rfl
end Xr

set_option linter.unusedVariables false
set_option linter.unusedSimpArgs false
namespace Xr
open Go Go.Ev
def stN (d c : Nat) : Nat := (Nat.xor d c * 1099511628211) % 18446744073709551616
def sumN (d : Nat) : List UInt8 → Nat
 | [] => d
 | c :: l => sumN (stN d c.toNat) l
def byN (n : Nat) (k : Nat) : Nat := n / k % 256
def numN (d n : Nat) : Nat := stN (stN (stN (stN (stN (stN (stN (stN d (byN n 72057594037927936)) (byN n 281474976710656)) (byN n 1099511627776)) (byN n 4294967296)) (byN n 16777216)) (byN n 65536)) (byN n 256)) (byN n 1)
def mixN (a b : Nat) : Nat := numN (numN 14695981039346656037 a) b
theorem stN_lt (d c : Nat) : stN d c < 18446744073709551616 := Nat.mod_lt _ (by decide)
theorem addI_nat {d c : Nat} (hd : d < 18446744073709551616) (hc : c < 18446744073709551616) : addI d c = (stN d c : Nat) := by
 unfold addI stN
 have e1 : IntKind.wrap .u64 (c : Int) = c := by
  show (c : Int) % (2 ^ 64 : Int) = c
  omega
 rw [e1]
 have e2 : xorK .u64 (d : Int) (c : Int) = ((Nat.xor d c : Nat) : Int) := by
  have h : Nat.xor d c < 2 ^ 64 := Nat.xor_lt_two_pow (by simpa using hd) (by simpa using hc)
  unfold xorK
  show IntKind.wrap .u64 (((BitVec.ofInt 64 (d : Int) ^^^ BitVec.ofInt 64 (c : Int)).toNat : Nat) : Int) = _
  rw [BitVec.toNat_xor, BitVec.ofInt_natCast, BitVec.ofInt_natCast, BitVec.toNat_ofNat, BitVec.toNat_ofNat, Nat.mod_eq_of_lt hd, Nat.mod_eq_of_lt hc]
  show ((d ^^^ c : Nat) : Int) % (2 ^ 64 : Int) = _
  have h' : (d ^^^ c) < 2 ^ 64 := h
  show ((d ^^^ c : Nat) : Int) % (2 ^ 64 : Int) = ((d ^^^ c : Nat) : Int)
  omega
 rw [e2]
 generalize Nat.xor d c = x
 show ((x : Int) * 1099511628211) % (2 ^ 64 : Int) = _
 omega
theorem byI_nat (n : Nat) (s k : Nat) (hk : 2 ^ s = k) : byI n s = (byN n k : Nat) := by
 unfold byI byN
 have e : (n : Int).fdiv (2 ^ s) = ((n / k : Nat) : Int) := by
  rw [Int.fdiv_eq_ediv_of_nonneg _ (by exact_mod_cast Nat.zero_le (2 ^ s)), ← hk]
  push_cast; rfl
 rw [e]
 generalize n / k = x
 show (x : Int) % (2 ^ 8 : Int) = _
 omega
theorem byN_lt (n k : Nat) : byN n k < 18446744073709551616 := by
 have := Nat.mod_lt (n / k) (show 0 < 256 by decide)
 unfold byN; omega
theorem numI_nat {d n : Nat} (hd : d < 18446744073709551616) : numI d n = (numN d n : Nat) := by
 unfold numI numN
 rw [byI_nat n 56 72057594037927936 (by decide), byI_nat n 48 281474976710656 (by decide), byI_nat n 40 1099511627776 (by decide), byI_nat n 32 4294967296 (by decide), byI_nat n 24 16777216 (by decide), byI_nat n 16 65536 (by decide), byI_nat n 8 256 (by decide), byI_nat n 0 1 (by decide)]
 rw [addI_nat hd (byN_lt _ _), addI_nat (stN_lt _ _) (byN_lt _ _), addI_nat (stN_lt _ _) (byN_lt _ _), addI_nat (stN_lt _ _) (byN_lt _ _), addI_nat (stN_lt _ _) (byN_lt _ _), addI_nat (stN_lt _ _) (byN_lt _ _), addI_nat (stN_lt _ _) (byN_lt _ _), addI_nat (stN_lt _ _) (byN_lt _ _)]
theorem mixI_nat (a b : Nat) : mixI a b = (mixN a b : Nat) := by
 unfold mixI mixN
 rw [show basI = ((14695981039346656037 : Nat) : Int) from rfl, numI_nat (by decide), numI_nat (by unfold numN; exact stN_lt _ _)]
theorem sumL_nat : ∀ (l : List UInt8) (d : Nat), d < 18446744073709551616 → sumL d l = (sumN d l : Nat)
 | [], d, _ => rfl
 | c :: l, d, h => by
  simp only [sumL, sumN]
  rw [addI_nat h (by have := c.toNat_lt; omega), sumL_nat l _ (stN_lt _ _)]
theorem sumI_nat (s : ByteArray) : sumI s = (sumN 14695981039346656037 s.data.toList : Nat) := sumL_nat _ _ (by decide)
def mixS : List Dv → Option (Dv × List Ob)
 | [.p (.v (.int .u64 (.ofNat a))), .p (.v (.int .u64 (.ofNat b)))] => some (.p (.v (.int .u64 (.ofNat (mixN a b)))), [])
 | _ => none
def sumS : List Dv → Option (Dv × List Ob)
 | [.p (.v (.string s))] => bif Nat.blt s.size 1099511627776 then some (.p (.v (.int .u64 (.ofNat (sumN 14695981039346656037 s.data.toList)))), []) else none
 | _ => none
theorem mixS_ok {args : List Dv} {r : Dv × List Ob} (h : mixS args = some r) : ∃ a b : Int, args = [.p (.v (.int .u64 a)), .p (.v (.int .u64 b))] ∧ r = (.p (.v (.int .u64 (mixI a b))), []) := by
 unfold mixS at h
 split at h
 ·rename_i a b
  obtain rfl := Option.some.inj h
  exact ⟨(a : Int), (b : Int), rfl, by rw [mixI_nat]; rfl⟩
 ·cases h
theorem sumS_ok {args : List Dv} {r : Dv × List Ob} (h : sumS args = some r) : ∃ s : ByteArray, args = [.p (.v (.string s))] ∧ s.size < 2 ^ 40 ∧ r = (.p (.v (.int .u64 (sumI s))), []) := by
 unfold sumS at h
 split at h
 ·rename_i s
  cases hb : Nat.blt s.size 1099511627776 with
  | false => rw [hb] at h; cases h
  | true =>
   rw [hb] at h
   obtain rfl := Option.some.inj h
   exact ⟨s, rfl, Nat.le_of_ble_eq_true hb, by rw [sumI_nat]; rfl⟩
 ·cases h
end Xr

set_option linter.unusedVariables false
set_option linter.unusedSimpArgs false
namespace Xr
open Go Go.Ev
theorem cmp_iter {α : Type} [DecidableEq α] (step : Int → Option (Out Int Bool)) (a b : List α) (hl : a.length = b.length)
  (hs : ∀ (i : Nat) (h : i < a.length) (h' : i < b.length), step i = if a[i] = b[i] then some (.next (((i + 1 : Nat)) : Int)) else some (.ret false)) (he : step (a.length : Int) = some (.jmp 0 (a.length : Int))) :
  iter step 0 = if a = b then some (.jmp 0 (a.length : Int)) else some (.ret false) := by
 classical
 have := iter_all (step := step) (fun i => (i : Int)) (fun i => a[i]? = b[i]?) false 0 (a.length : Int) a.length (fun i hi _ => by
  have h' : i < b.length := by omega
  rw [hs i hi h', List.getElem?_eq_getElem hi, List.getElem?_eq_getElem h']
  simp only [Option.some.injEq]) (fun _ => he)
 have e0 : iter step ((0 : Nat) : Int) = iter step 0 := rfl
 rw [← e0, this]
 by_cases hab : a = b
 ·rw [if_pos hab, if_pos (fun i _ => by rw [hab])]
 ·rw [if_neg hab, if_neg]
  intro h
  apply hab
  apply List.ext_getElem?
  intro i
  by_cases hi : i < a.length
  ·exact h i hi
  ·rw [List.getElem?_eq_none (by omega), List.getElem?_eq_none (by omega)]
mutual
def barV : Node → Node
 | ⟨k, t, _, ks⟩ => ⟨k, t, [], barVs ks⟩
def barVs : List Node → List Node
 | [] => []
 | x :: l => barV x :: barVs l
end
theorem barVs_map : ∀ l, barVs l = l.map barV
 | [] => by simp only [barVs, List.map_nil]
 | x :: l => by simp only [barVs, List.map_cons, barVs_map l]
theorem barV_eq (n : Node) : barV n = ⟨n.Kind, n.Text, [], n.Kids.map barV⟩ := by cases n; simp only [barV, barVs_map]
open Classical in
noncomputable def R06_SameS (a b : Node) : Option Bool := if size a < 2 ^ 40 then some (decide (barV a = barV b)) else none
def R06_SameS_mu (a b : Node) : Nat := size a
theorem R06_SameS_body (x0 x1 : Node) (r : Bool) (h : R06_SameS x0 x1 = some r) : R06_Same.body (fun x0' x1' => if R06_SameS_mu x0' x1' < R06_SameS_mu x0 x1 then R06_SameS x0' x1' else none) x0 x1 = some r := by
 classical
 unfold R06_SameS at h
 by_cases hb : size x0 < 2 ^ 40
 case neg => rw [if_neg hb] at h; cases h
 rw [if_pos hb] at h
 obtain rfl := Option.some.inj h
 have hk : x0.Kids.length < 2 ^ 40 := by have := sizes_len x0.Kids; have := size_eq x0; omega
 unfold R06_Same.body
 generalize hrec : (fun x0' x1' => if R06_SameS_mu x0' x1' < R06_SameS_mu x0 x1 then R06_SameS x0' x1' else none) = rec
 have hr : ∀ (i : Nat) v w, x0.Kids[i]? = some v → rec v w = some (decide (barV v = barV w)) := by
  intro i v w hv
  subst hrec
  have := kid_lt hv
  simp only [R06_SameS_mu, R06_SameS, if_pos this, if_pos (Nat.lt_trans this hb)]
 have e0 := barV_eq x0
 have e1 := barV_eq x1
 by_cases h1 : x0.Kind = x1.Kind
 case neg => rw [if_neg h1, decide_eq_false (fun e => h1 (by rw [e0, e1] at e; exact (Node.mk.inj e).1))]
 rw [if_pos h1]
 by_cases h2 : x0.Text = x1.Text
 case neg => rw [if_neg h2, decide_eq_false (fun e => h2 (by rw [e0, e1] at e; exact (Node.mk.inj e).2.1))]
 rw [if_pos h2]
 by_cases h4 : x0.Kids.length = x1.Kids.length
 case neg => rw [if_neg (by omega), decide_eq_false (fun e => h4 (by rw [e0, e1] at e; simpa using congrArg List.length (Node.mk.inj e).2.2.2))]
 have hc := cmp_iter (R06_Same_L0 rec x0.Kind x0.Text x0.Gaps x0.Kids x1.Kind x1.Text x1.Gaps x1.Kids) (x0.Kids.map barV) (x1.Kids.map barV) (by simpa using h4) (fun i hi hi' => by
  have hi2 : i < x0.Kids.length := by simpa using hi
  have hi3 : i < x1.Kids.length := by simpa using hi'
  simp only [R06_Same_L0, rd_nat, List.getElem?_eq_getElem hi2, List.getElem?_eq_getElem hi3, Option.bind_some, List.getElem_map]
  rw [if_pos (by omega), hr i _ _ (List.getElem?_eq_getElem hi2), Option.bind_some, w64_succ (by omega)]
  by_cases he : barV x0.Kids[i] = barV x1.Kids[i]
  ·rw [decide_eq_true he, if_pos rfl, if_pos he]
  ·rw [decide_eq_false he, if_neg (by simp), if_neg he]) (by simp only [R06_Same_L0, List.length_map]; rw [if_neg (by omega)])
 rw [if_pos (by omega), hc]
 by_cases h5 : x0.Kids.map barV = x1.Kids.map barV
 ·rw [if_pos h5, decide_eq_true (by rw [e0, e1, h1, h2, h5])]; rfl
 ·rw [if_neg h5, decide_eq_false (fun e => h5 (by rw [e0, e1] at e; exact (Node.mk.inj e).2.2.2))]; rfl
mutual
def subs : Node → List Node
 | ⟨k, t, g, ks⟩ => ⟨k, t, g, ks⟩ :: subss ks
def subss : List Node → List Node
 | [] => []
 | n :: ks => subs n ++ subss ks
end
theorem subs_eq (n : Node) : subs n = n :: subss n.Kids := by cases n; simp only [subs]
mutual
theorem subs_len : ∀ n : Node, (subs n).length = size n
 | ⟨k, t, g, ks⟩ => by simp only [subs, size, List.length_cons, subss_len ks]; omega
theorem subss_len : ∀ l : List Node, (subss l).length = sizes l
 | [] => by simp only [subss, sizes, List.length_nil]
 | n :: ks => by simp only [subss, sizes, List.length_append, subs_len n, subss_len ks]
end
end Xr

set_option linter.unusedVariables false
set_option linter.unusedSimpArgs false
namespace Xr
open Go Go.Ev
open Classical in
noncomputable def tree_SameS (a b : Node) : Option Bool := if size a < 2 ^ 40 then some (decide (barV a = barV b)) else none
def tree_SameS_mu (a b : Node) : Nat := size a
theorem tree_SameS_body (x0 x1 : Node) (r : Bool) (h : tree_SameS x0 x1 = some r) : tree_Same.body (fun x0' x1' => if tree_SameS_mu x0' x1' < tree_SameS_mu x0 x1 then tree_SameS x0' x1' else none) x0 x1 = some r := by
 classical
 unfold tree_SameS at h
 by_cases hb : size x0 < 2 ^ 40
 case neg => rw [if_neg hb] at h; cases h
 rw [if_pos hb] at h
 obtain rfl := Option.some.inj h
 have hk : x0.Kids.length < 2 ^ 40 := by have := sizes_len x0.Kids; have := size_eq x0; omega
 unfold tree_Same.body
 generalize hrec : (fun x0' x1' => if tree_SameS_mu x0' x1' < tree_SameS_mu x0 x1 then tree_SameS x0' x1' else none) = rec
 have hr : ∀ (i : Nat) v w, x0.Kids[i]? = some v → rec v w = some (decide (barV v = barV w)) := by
  intro i v w hv
  subst hrec
  have := kid_lt hv
  simp only [tree_SameS_mu, tree_SameS, if_pos this, if_pos (Nat.lt_trans this hb)]
 have e0 := barV_eq x0
 have e1 := barV_eq x1
 by_cases h1 : x0.Kind = x1.Kind
 case neg => rw [if_neg h1, decide_eq_false (fun e => h1 (by rw [e0, e1] at e; exact (Node.mk.inj e).1))]
 rw [if_pos h1]
 by_cases h2 : x0.Text = x1.Text
 case neg => rw [if_neg h2, decide_eq_false (fun e => h2 (by rw [e0, e1] at e; exact (Node.mk.inj e).2.1))]
 rw [if_pos h2]
 by_cases h4 : x0.Kids.length = x1.Kids.length
 case neg => rw [if_neg (by omega), decide_eq_false (fun e => h4 (by rw [e0, e1] at e; simpa using congrArg List.length (Node.mk.inj e).2.2.2))]
 have hc := cmp_iter (tree_Same_L0 rec (x0.Kids.length : Int) x0.Kind x0.Text x0.Gaps x0.Kids x1.Kind x1.Text x1.Gaps x1.Kids) (x0.Kids.map barV) (x1.Kids.map barV) (by simpa using h4) (fun i hi hi' => by
  have hi2 : i < x0.Kids.length := by simpa using hi
  have hi3 : i < x1.Kids.length := by simpa using hi'
  simp only [tree_Same_L0, rd_nat, List.getElem?_eq_getElem hi2, List.getElem?_eq_getElem hi3, Option.bind_some, List.getElem_map]
  rw [if_pos (by omega), hr i _ _ (List.getElem?_eq_getElem hi2), Option.bind_some, w64_succ (by omega)]
  by_cases he : barV x0.Kids[i] = barV x1.Kids[i]
  ·rw [decide_eq_true he, if_pos rfl, if_pos he]
  ·rw [decide_eq_false he, if_neg (by simp), if_neg he]) (by simp only [tree_Same_L0, List.length_map]; rw [if_neg (by omega)])
 rw [if_pos (by omega), hc]
 by_cases h5 : x0.Kids.map barV = x1.Kids.map barV
 ·rw [if_pos h5, decide_eq_true (by rw [e0, e1, h1, h2, h5])]; rfl
 ·rw [if_neg h5, decide_eq_false (fun e => h5 (by rw [e0, e1] at e; exact (Node.mk.inj e).2.2.2))]; rfl
def hash_partsS (l : List Node) (n : Node) : Option (List Node) := if l.length + size n < 2 ^ 30 then some (l ++ subs n) else none
def hash_partsS_mu (l : List Node) (n : Node) : Nat := size n
theorem hash_parts_it {rec : List Node → Node → Option (List Node)} {n : List Node} (hn : n.length < 2 ^ 40)
  (hr : ∀ (i : Nat) v (y : List Node), n[i]? = some v → y.length + size v < 2 ^ 30 → rec y v = some (y ++ subs v)) : ∀ (l : List Node) (i : Nat) (y : List Node), n.drop i = l → i ≤ n.length → y.length + sizes l < 2 ^ 30 →
  iter (hash_parts_L0 rec n (n.length : Int)) ((i : Int), y) = some (.jmp 0 ((n.length : Int), y ++ subss l))
 | [], i, y, hl, hi, hy => by
  obtain rfl := drop_nil hl hi
  have e : subss [] = [] := by simp only [subss]
  rw [e, List.append_nil]
  apply iter_jmp
  simp only [hash_parts_L0]
  rw [if_neg (by omega)]
 | c :: l, i, y, hl, hi, hy => by
  obtain ⟨hc, hl', hi'⟩ := drop_cons hl
  simp only [sizes] at hy
  have hs : hash_parts_L0 rec n (n.length : Int) ((i : Int), y) = some (.next (((i + 1 : Nat) : Int), y ++ subs c)) := by
   simp only [hash_parts_L0, rd_nat, hc, Option.bind_some, hr i c y hc (by omega)]
   rw [if_pos (by omega), w64_id (x := (i : Int) + 1) (by omega) (by omega)]; rfl
  have e : subss (c :: l) = subs c ++ subss l := by simp only [subss]
  rw [iter_next hs, hash_parts_it hn hr l (i + 1) (y ++ subs c) hl' (by omega) (by rw [List.length_append, subs_len]; omega), e, List.append_assoc]
theorem hash_partsS_body (x0 : List Node) (x1 : Node) (r : List Node) (h : hash_partsS x0 x1 = some r) : hash_parts.body (fun x0' x1' => if hash_partsS_mu x0' x1' < hash_partsS_mu x0 x1 then hash_partsS x0' x1' else none) x0 x1 = some r := by
 unfold hash_partsS at h
 split at h
 case isFalse => cases h
 rename_i hb
 obtain rfl := Option.some.inj h
 clear h
 have hlen := sizes_len x1.Kids
 have hse := size_eq x1
 generalize hrec : (fun x0' x1' => if hash_partsS_mu x0' x1' < hash_partsS_mu x0 x1 then hash_partsS x0' x1' else none) = rec
 have hr : ∀ (i : Nat) v (y : List Node), x1.Kids[i]? = some v → y.length + size v < 2 ^ 30 → rec y v = some (y ++ subs v) := by
  intro i v y hv hl
  subst hrec
  have := kid_lt hv
  show (if hash_partsS_mu y v < hash_partsS_mu x0 x1 then hash_partsS y v else none) = _
  rw [if_pos (show hash_partsS_mu y v < hash_partsS_mu x0 x1 from this), hash_partsS, if_pos hl]
 clear hrec
 unfold hash_parts.body
 have e1 := hash_parts_it (rec := rec) (show x1.Kids.length < 2 ^ 40 by omega) hr x1.Kids 0 (x0 ++ [x1]) rfl (by omega) (by rw [List.length_append, List.length_singleton]; omega)
 rw [show ((0 : Nat) : Int) = 0 from rfl] at e1
 rw [if_pos (by omega), e1]
 simp only [Option.bind_some]
 rw [subs_eq x1, List.append_assoc]
 rfl
def R06_listS (l : List Node) (n : Node) : Option (List Node) := if l.length + size n < 2 ^ 30 then some (l ++ subs n) else none
def R06_listS_mu (l : List Node) (n : Node) : Nat := size n
theorem R06_list_it {rec : List Node → Node → Option (List Node)} {n : List Node} {k : Int} {t : ByteArray} {g : List ByteArray} (hn : n.length < 2 ^ 40)
  (hr : ∀ (i : Nat) v (y : List Node), n[i]? = some v → y.length + size v < 2 ^ 30 → rec y v = some (y ++ subs v)) : ∀ (l : List Node) (i : Nat) (y : List Node), n.drop i = l → i ≤ n.length → y.length + sizes l < 2 ^ 30 →
  iter (R06_list_L0 rec k t g n) ((i : Int), y) = some (.jmp 0 ((n.length : Int), y ++ subss l))
 | [], i, y, hl, hi, hy => by
  obtain rfl := drop_nil hl hi
  have e : subss [] = [] := by simp only [subss]
  rw [e, List.append_nil]
  apply iter_jmp
  simp only [R06_list_L0]
  rw [if_neg (by omega)]
 | c :: l, i, y, hl, hi, hy => by
  obtain ⟨hc, hl', hi'⟩ := drop_cons hl
  simp only [sizes] at hy
  have hs : R06_list_L0 rec k t g n ((i : Int), y) = some (.next (((i + 1 : Nat) : Int), y ++ subs c)) := by
   simp only [R06_list_L0, rd_nat, hc, Option.bind_some, hr i c y hc (by omega)]
   rw [if_pos (by omega), w64_id (x := (i : Int) + 1) (by omega) (by omega)]; rfl
  have e : subss (c :: l) = subs c ++ subss l := by simp only [subss]
  rw [iter_next hs, R06_list_it hn hr l (i + 1) (y ++ subs c) hl' (by omega) (by rw [List.length_append, subs_len]; omega), e, List.append_assoc]
theorem R06_listS_body (x0 : List Node) (x1 : Node) (r : List Node) (h : R06_listS x0 x1 = some r) : R06_list.body (fun x0' x1' => if R06_listS_mu x0' x1' < R06_listS_mu x0 x1 then R06_listS x0' x1' else none) x0 x1 = some r := by
 unfold R06_listS at h
 split at h
 case isFalse => cases h
 rename_i hb
 obtain rfl := Option.some.inj h
 clear h
 have hlen := sizes_len x1.Kids
 have hse := size_eq x1
 generalize hrec : (fun x0' x1' => if R06_listS_mu x0' x1' < R06_listS_mu x0 x1 then R06_listS x0' x1' else none) = rec
 have hr : ∀ (i : Nat) v (y : List Node), x1.Kids[i]? = some v → y.length + size v < 2 ^ 30 → rec y v = some (y ++ subs v) := by
  intro i v y hv hl
  subst hrec
  have := kid_lt hv
  show (if R06_listS_mu y v < R06_listS_mu x0 x1 then R06_listS y v else none) = _
  rw [if_pos (show R06_listS_mu y v < R06_listS_mu x0 x1 from this), R06_listS, if_pos hl]
 clear hrec
 unfold R06_list.body
 have e1 := R06_list_it (rec := rec) (k := x1.Kind) (t := x1.Text) (g := x1.Gaps) (show x1.Kids.length < 2 ^ 40 by omega) hr x1.Kids 0 (x0 ++ [x1]) rfl (by omega) (by rw [List.length_append, List.length_singleton]; omega)
 rw [show ((0 : Nat) : Int) = 0 from rfl] at e1
 rw [if_pos (by omega), e1]
 simp only [Option.bind_some]
 rw [subs_eq x1, List.append_assoc]
 rfl
mutual
theorem subs_size : ∀ (n : Node) (i : Nat) (v : Node), (subs n)[i]? = some v → size v ≤ size n
 | ⟨k, t, g, ks⟩, i, v, h => by
  simp only [subs] at h
  cases i with
  | zero =>
   simp only [List.getElem?_cons_zero, Option.some.injEq] at h
   subst h
   exact Nat.le_refl _
  | succ i =>
   simp only [List.getElem?_cons_succ] at h
   have := subss_size ks i v h
   simp only [size]; omega
theorem subss_size : ∀ (l : List Node) (i : Nat) (v : Node), (subss l)[i]? = some v → size v ≤ sizes l
 | [], i, v, h => by simp [subss] at h
 | n :: ks, i, v, h => by
  simp only [subss] at h
  simp only [sizes]
  by_cases hi : i < (subs n).length
  ·rw [List.getElem?_append_left hi] at h
   have := subs_size n i v h
   omega
  ·rw [List.getElem?_append_right (by omega)] at h
   have := subss_size ks _ v h
   omega
end
end Xr

namespace Xr
open Go Go.Ev
set_option linter.unusedSimpArgs false
set_option linter.unusedVariables false
set_option linter.defProp false
noncomputable def R06_Fits (x0 : Node) (x1 : Int) (x2 : Int) : Option Bool :=
 (R06_leftS x0 x1 x2).bind fun r1 =>
 some (decide ((0 : Int) ≤ r1))
noncomputable def R06_Light (x0 : Node) (x1 : Int) (x2 : Int) (x3 : Int) : Option Bool :=
 (R06_Fits x0 x1 x2).bind fun r1 =>
 if r1 = true then
  (R06_weighS x0 x3).bind fun r5 =>
  some (decide ((0 : Int) ≤ r5))
 else
  some false
noncomputable def R06_List (x0 : Node) : Option (List Node) :=
 (R06_listS ([] : List Node) x0).bind fun r1 =>
 some r1
noncomputable def hash_Exact_c1 (x0 : Node) : Option ByteArray :=
 some x0.Text
noncomputable def hash_Exact (x0 : Node) : Option (List Int) :=
 (hash_fillS hash_Exact_c1 ([] : List Int) x0).bind fun r1 =>
 some r1.1
def nodeL (l : List Node) (k : Int) : Node := l.getD k.toNat ⟨0, ByteArray.empty, [], []⟩
open Classical in
noncomputable def grpP (l : List Node) (hs : List Int) (i : Nat) (row : List Int) : Bool := decide (hs.getD (row.headD 0).toNat 0 = hs.getD i 0) && decide (barV (nodeL l (row.headD 0)) = barV (nodeL l i))
noncomputable def grpStep (l : List Node) (hs : List Int) (Gs : List (List Int)) (i : Nat) : List (List Int) :=
 match (List.range Gs.length).find? (fun q => grpP l hs i (Gs.getD q [])) with
 | some g => Gs.set g (Gs.getD g [] ++ [(i : Int)])
 | none => Gs ++ [[(i : Int)]]
noncomputable def grps (l : List Node) (hs : List Int) : Nat → List (List Int)
 | 0 => []
 | i + 1 => grpStep l hs (grps l hs i) i
noncomputable def hash_Groups (n : Node) : Option (List (List Int)) :=
 (hash_Exact n).bind fun hs => if size n < 2 ^ 20 ∧ hs.length = size n then some ((grps (subs n) hs (size n)).filter fun r => decide (1 < r.length)) else none
noncomputable def law18_awake : Option Bool :=
 some true
noncomputable def law18_HashParts_L4 (s3 : (List Node)) (s10 : Int) (y0 : (List Int)) : Int → Option (Out (Int) Bool) := fun s11 =>
 if s11 < s10 then
  (rd y0 s10).bind fun v64 =>
  if (0 : Int) ≤ v64 then
   (rd y0 s11).bind fun v69 =>
   (rd s3 s10).bind fun v72 =>
   (rd s3 s11).bind fun v75 =>
   (R06_SameS v72 v75).bind fun r78 =>
   if (decide (v64 = v69)) = r78 then
    some (.next (w64 (s11 + (1 : Int))))
   else
    some (.ret false)
  else
   (rd s3 s10).bind fun v82 =>
   (rd s3 s11).bind fun v85 =>
   (R06_SameS v82 v85).bind fun r88 =>
   if false = r88 then
    some (.next (w64 (s11 + (1 : Int))))
   else
    some (.ret false)
 else
  some (.jmp 8 s11)
noncomputable def law18_HashParts_L3 (s3 : (List Node)) (y0 : (List Int)) : Int → Option (Out (Int) Bool) := fun s10 =>
 if s10 < (s3.length : Int) then
  (iter (law18_HashParts_L4 s3 s10 y0) (0 : Int)).bind fun
   | .jmp _ s11_93 =>
    some (.next (w64 (s10 + (1 : Int))))
   | .ret r94 =>
    some (.ret r94)
   | .next _ => none
 else
  some (.jmp 6 s10)
noncomputable def law18_HashParts_L2 (s3 : (List Node)) (s4 : (List (List Int))) (s7 : Int) : (Int × (List Int)) → Option (Out (Int × (List Int)) Bool) := fun (s8, y0) =>
 (rd s4 s7).bind fun v21 =>
 if s8 < (v21.length : Int) then
  (rd v21 s8).bind fun v26 =>
  if v26 < (0 : Int) then
   some (.ret false)
  else
   if (s3.length : Int) ≤ v26 then
    some (.ret false)
   else
    (rd y0 v26).bind fun v31 =>
    if v31 = (-1 : Int) then
     if (0 : Int) < s8 then
      (rd v21 (w64 (s8 - (1 : Int)))).bind fun v37 =>
      if v26 ≤ v37 then
       some (.ret false)
      else
       some (.next (w64 (s8 + (1 : Int)), (y0.set v26.toNat s7)))
     else
      some (.next (w64 (s8 + (1 : Int)), (y0.set v26.toNat s7)))
    else
     some (.ret false)
 else
  some (.jmp 4 (s8, y0))
noncomputable def law18_HashParts_L1 (s3 : (List Node)) (s4 : (List (List Int))) : (Int × (List Int)) → Option (Out (Int × (List Int)) Bool) := fun (s7, y0) =>
 if s7 < (s4.length : Int) then
  (rd s4 s7).bind fun v17 =>
  if (v17.length : Int) < (2 : Int) then
   some (.ret false)
  else
   (iter (law18_HashParts_L2 s3 s4 s7) ((0 : Int), y0)).bind fun
    | .jmp _ (s8_46, y0_46) =>
     if (0 : Int) < s7 then
      (rd v17 (0 : Int)).bind fun v49 =>
      (rd s4 (w64 (s7 - (1 : Int)))).bind fun v52 =>
      (rd v52 (0 : Int)).bind fun v55 =>
      if v49 ≤ v55 then
       some (.ret false)
      else
       some (.next (w64 (s7 + (1 : Int)), y0_46))
     else
      some (.next (w64 (s7 + (1 : Int)), y0_46))
    | .ret r59 =>
     some (.ret r59)
    | .next _ => none
 else
  some (.jmp 2 (s7, y0))
noncomputable def law18_HashParts_L0 (s3 : (List Node)) (s4 : (List (List Int))) : (Int × (List Int)) → Option (Out (Int × (List Int)) Bool) := fun (s6, y0) =>
 if s6 < (s3.length : Int) then
  if (y0.length + 1) * 8 ≤ 140737488355328 then
   some (.next (w64 (s6 + (1 : Int)), (y0 ++ [(-1 : Int)])))
  else none
 else
  some (.jmp 0 (s6, y0))
noncomputable def law18_HashParts (x0 : Node) : Option Bool :=
 (R06_Light x0 (60 : Int) (60 : Int) (4000 : Int)).bind fun r1 =>
 if r1 = true then
  (R06_List x0).bind fun r5 =>
  (hash_Groups x0).bind fun r8 =>
  (iter (law18_HashParts_L0 r5 r8) ((0 : Int), ([] : List Int))).bind fun
   | .jmp _ (s6_15, y0_15) =>
    (iter (law18_HashParts_L1 r5 r8) ((0 : Int), y0_15)).bind fun
     | .jmp _ (s7_61, y0_61) =>
      (iter (law18_HashParts_L3 r5 y0_61) (0 : Int)).bind fun
       | .jmp _ s10_96 =>
        (law18_awake).bind fun r97 =>
        some r97
       | _ => none
     | .ret r100 =>
      some r100
     | .next _ => none
   | _ => none
 else
  (law18_awake).bind fun r101 =>
  some r101
end Xr

