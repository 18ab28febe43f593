/- A part of the proof: P2. No conditions of its own. -/
import Derived.Test.YtgjhagehbfhioaaP1
namespace Xn
open Go Go.Ev Go.Proofs
set_option linter.unusedSimpArgs false
set_option linter.unusedVariables false
set_option linter.defProp false
set_option maxRecDepth 8000
set_option maxHeartbeats 40000000
def ls47 := And.intro @ap_38_38 (And.intro @ap_53_53 (And.intro @bs_38_1 (And.intro @bs_53_1 (And.intro @bu_59_0_1_2_3 (And.intro @faP_25_0 (And.intro @faP_25_1 (And.intro @faP_25_2 (And.intro @faP_25_3 (And.intro @faP_59_4 (And.intro @idxL_23 (And.intro @idxR_53 (And.intro @varld_4_0_0 (And.intro @varld_4_0_1 (And.intro @varld_4_0_2 (@varld_4_0_3)))))))))))))))
theorem R06_rows_rcall {rec : (List Row) → Node → Int → Option (List Row)} (hrec : ∀ x0 x1 x2 r, rec x0 x1 x2 = some r → callW Try.prog A0 47 [.ref 0 0 x0.length 5, .p (.agg [.v (.int .i64 x1.Kind), .v (.string x1.Text), .lst false x1.Gaps.length (encL en_str x1.Gaps), .lst false x1.Kids.length (encL en_Node x1.Kids)]), iv x2] [.arr (encL en_Row x0)] = some (.ref 1 0 r.length 5, [.dead, .arr (encL en_Row r)])) {H : List Ob} {id n : Nat} {b1 b2 : Bool} {x0 : (List Row)} {x1 : Node} {x2 : Int} {r : (List Row)} : H[id]? = some (.arr (encL en_Row x0)) → n = x0.length → ∀ (h : rec x0 x1 x2 = some r), callD (callW Try.prog A0) A0 H 47 [.ref id 0 n 5, .p (.agg [.v (.int .i64 x1.Kind), .v (.string x1.Text), .lst b1 x1.Gaps.length (encL en_str x1.Gaps), .lst b2 x1.Kids.length (encL en_Node x1.Kids)]), iv x2] = some (.ref H.length 0 r.length 5, some (H.set id .dead ++ [.arr (encL en_Row r)])) := by
  intro hid hn h; subst hn; exact callD_mut1 (args := [.agg [.v (.int .i64 x1.Kind), .v (.string x1.Text), .lst false x1.Gaps.length (encL en_str x1.Gaps), .lst false x1.Kids.length (encL en_Node x1.Kids)], .v (.int .i64 x2)]) (by simp only [List.map_cons, List.map_nil, wkDv, wk, wks, wkL]) rfl hid (hrec x0 x1 x2 _ h)
noncomputable def L47_0 : Code := (loopsOf (bodyOf Try.f47)).getD 0 .skip
def g47_0 : List Ghost := [.own 8 1, .keep [0, 4, 7, 8, 9]]
def F47_0 (s7 : Int) (w2_0 : Int) (w2_1 : ByteArray) (w2_2 : (List ByteArray)) (w2_3 : (List Node)) : (Int × (List Row) × (List Int)) → St := fun (s9, y1, y3) => ⟨[.ref 1 0 y1.length 5, .junk, .junk, .junk, .ptr 2 0, .junk, .junk, iv s7, .ref 3 0 y3.length 1, iv s9, .junk, .junk, .junk, .junk, .junk, .junk, .junk, .junk, .junk, .junk, .junk, .junk, .junk, .junk, .junk, .junk, .junk, .junk, .junk, .junk, .junk, .junk, .junk, .junk, .junk, .junk, .junk, .junk, .junk, .junk, .junk, .junk, .junk, .junk, .junk, .junk, .junk, .junk, .junk], [.dead, .arr (encL en_Row y1), .var [iv w2_0, .p (.v (.string w2_1)), .p (.lst false w2_2.length (encL en_str w2_2)), .p (.lst false w2_3.length (encL en_Node w2_3))], .arr (encL en_i64 y3)], 1⟩
theorem L47_0_ok {rec : (List Row) → Node → Int → Option (List Row)} (hrec : ∀ x0 x1 x2 r, rec x0 x1 x2 = some r → callW Try.prog A0 47 [.ref 0 0 x0.length 5, .p (.agg [.v (.int .i64 x1.Kind), .v (.string x1.Text), .lst false x1.Gaps.length (encL en_str x1.Gaps), .lst false x1.Kids.length (encL en_Node x1.Kids)]), iv x2] [.arr (encL en_Row x0)] = some (.ref 1 0 r.length 5, [.dead, .arr (encL en_Row r)])) (s7 : Int) (w2_0 : Int) (w2_1 : ByteArray) (w2_2 : (List ByteArray)) (w2_3 : (List Node)) : ∀ s st o, ghostsD g47_0 st = some (F47_0 s7 w2_0 w2_1 w2_2 w2_3 s) → iter (R06_rows_L0 rec s7 w2_0 w2_1 w2_2 w2_3) s = some o →
    Wp (evW Try.prog A0 47 (.loop L47_0) st) (OutQ (F47_0 s7 w2_0 w2_1 w2_2 w2_3) g47_0 (fun n s st => n = 0 ∧ ghostsD [.keep [0, 4, 7, 8, 9]] st = some (F47_0 s7 w2_0 w2_1 w2_2 w2_3 s)) (fun r st => finishD Try.prog A0 47 Try.f47 st = some (.ref 1 0 r.length 5, [.dead, .arr (encL en_Row r)])) o) := by
 refine Wp.iter ?_
 intro s st o hg h
 obtain ⟨s9, y1, y3⟩ := s
 unfold R06_rows_L0 at h
 unfold g47_0 F47_0 at hg ⊢
 (try simp only [] at h hg)
 unfold L47_0 bodyOf Try.f47; simp only [Option.getD_some, loopsOf, List.append_nil, List.nil_append, List.cons_append, List.getD_cons_zero, List.getD_cons_succ]
 by_cases h3 : s9 < (w2_3.length : Int)
 ·rw [if_pos h3] at h
  have h3' : decide (s9 < (w2_3.length : Int)) = true := decide_eq_true h3
  by_cases hw_ : (y3.length + 1) * 8 ≤ 140737488355328
  case neg => rw [if_neg hw_] at h; cases h
  rw [if_pos hw_] at h
  have h5 := hw_
  have h4 : ∀ (H : List Ob) (id : Nat), apOb H id 0 y3.length 1 1 1 8 [.v (.int .i64 (y1.length : Int))] (some (.arr (encL en_i64 y3))) = some (.ref H.length 0 (y3 ++ [(y1.length : Int)]).length 1, H.set id .dead ++ [.arr (encL en_i64 (y3 ++ [(y1.length : Int)]))]) := fun H id => ap_enc (y := [(y1.length : Int)]) en_i64_len (by first | rfl | omega) rfl (by first | (simp only [encL_cons, encL_nil, en_i64_eq, List.cons_append, List.nil_append]; done) | (simp only [encL_cons, encL_nil, en_i64_eq, List.cons_append, List.nil_append]; rfl) | rfl) (by assumption)
  obtain ⟨v6, h7, h⟩ := Option.bind_eq_some_iff.1 h
  obtain ⟨h7a, h7b, _⟩ := rd_some h7
  have h8 := lk_frz_25 h7
  obtain ⟨r9, h10, h⟩ := Option.bind_eq_some_iff.1 h
  have h11 : ∀ H, H[1]? = some (.arr (encL en_Row y1)) → callD (callW Try.prog A0) A0 H 47 [.ref 1 0 y1.length 5, .p (.agg [.v (.int .i64 v6.Kind), .v (.string v6.Text), .lst false v6.Gaps.length (encL en_str v6.Gaps), .lst false v6.Kids.length (encL en_Node v6.Kids)]), iv s7] = some (.ref H.length 0 r9.length 5, some (H.set 1 .dead ++ [.arr (encL en_Row r9)])) := fun H hid => R06_rows_rcall hrec (H := H) (id := 1) hid (by first | rfl | omega) h10
  have h11' := h11 [.dead, .arr (encL en_Row y1), .var [iv w2_0, .p (.v (.string w2_1)), .p (.lst false w2_2.length (encL en_str w2_2)), .p (.lst false w2_3.length (encL en_Node w2_3))], .dead, .arr (encL en_i64 (y3 ++ [(y1.length : Int)]))] rfl
  obtain rfl := Option.some.inj h
  simp (maxSteps := 10000000) (implicitDefEqProofs := false) (disch := first | assumption | omega | exact rfl) only [bs, rs47, ls47, Nat.reduceAdd, ↓reduceIte, lenD_lst u23, lenD_ref u53, loadD_iagg a25 z25, loadD_ptr a22, loadD_ptr a23, loadD_ptr a3, loadD_ptr a9, own_ref, wksL_en_i64, wksL_en_str, wks_nil_, hg, ↓h3', h4, h8, h11']
  exact ⟨rfl, by kernel_rfl⟩
 ·rw [if_neg h3] at h
  have h3' : decide (s9 < (w2_3.length : Int)) = false := decide_eq_false h3
  obtain rfl := Option.some.inj h
  simp (maxSteps := 10000000) (implicitDefEqProofs := false) (disch := first | assumption | omega | exact rfl) only [bs, rs47, ls47, Nat.reduceAdd, ↓reduceIte, lenD_lst u23, lenD_ref u53, loadD_iagg a25 z25, loadD_ptr a22, loadD_ptr a23, loadD_ptr a3, loadD_ptr a9, own_ref, wksL_en_i64, wksL_en_str, wks_nil_, hg, ↓h3']
  exact ⟨rfl, rfl, by kernel_rfl⟩
theorem f47_ok {rec : (List Row) → Node → Int → Option (List Row)} (hrec : ∀ x0 x1 x2 r, rec x0 x1 x2 = some r → callW Try.prog A0 47 [.ref 0 0 x0.length 5, .p (.agg [.v (.int .i64 x1.Kind), .v (.string x1.Text), .lst false x1.Gaps.length (encL en_str x1.Gaps), .lst false x1.Kids.length (encL en_Node x1.Kids)]), iv x2] [.arr (encL en_Row x0)] = some (.ref 1 0 r.length 5, [.dead, .arr (encL en_Row r)]))  (x0 : (List Row)) (x1 : Node) (x2 : Int) (r : (List Row)) (h : R06_rows.body rec x0 x1 x2 = some r) : callW Try.prog A0 47 [.ref 0 0 x0.length 5, .p (.agg [.v (.int .i64 x1.Kind), .v (.string x1.Text), .lst false x1.Gaps.length (encL en_str x1.Gaps), .lst false x1.Kids.length (encL en_Node x1.Kids)]), iv x2] [.arr (encL en_Row x0)] = some (.ref 1 0 r.length 5, [.dead, .arr (encL en_Row r)]) := by
 refine call_ofH (fn := Try.f47) (c := bodyOf Try.f47) rfl (by kernel_rfl) (by kernel_rfl) ?_
 rw [show initS Try.f47 [.ref 0 0 x0.length 5, .p (.agg [.v (.int .i64 x1.Kind), .v (.string x1.Text), .lst false x1.Gaps.length (encL en_str x1.Gaps), .lst false x1.Kids.length (encL en_Node x1.Kids)]), iv x2] [.arr (encL en_Row x0)] = ⟨.ref 0 0 x0.length 5 :: .p (.agg [.v (.int .i64 x1.Kind), .v (.string x1.Text), .lst false x1.Gaps.length (encL en_str x1.Gaps), .lst false x1.Kids.length (encL en_Node x1.Kids)]) :: iv x2 :: List.replicate 46 undefD, [.arr (encL en_Row x0)], 1⟩ from by kernel_rfl]
 unfold R06_rows.body at h
 unfold bodyOf Try.f47; simp only [Option.getD_some, loopsOf, List.append_nil, List.nil_append, List.cons_append, List.getD_cons_zero, List.getD_cons_succ]
 simp only [List.replicate]
 by_cases hw_ : (x0.length + 1) * 80 ≤ 140737488355328
 case neg => rw [if_neg hw_] at h; cases h
 rw [if_pos hw_] at h
 have h2 := hw_
 have h1 : ∀ (H : List Ob) (id : Nat), apOb H id 0 x0.length 1 5 5 80 [.v (.int .i64 x2), .v (.int .i64 x1.Kind), .v (.string x1.Text), .lst false x1.Gaps.length (encL en_str x1.Gaps), .lst false 0 []] (some (.arr (encL en_Row x0))) = some (.ref H.length 0 (x0 ++ [(Row.mk x2 x1.Kind x1.Text x1.Gaps ([] : List Int))]).length 5, H.set id .dead ++ [.arr (encL en_Row (x0 ++ [(Row.mk x2 x1.Kind x1.Text x1.Gaps ([] : List Int))]))]) := fun H id => ap_enc (y := [(Row.mk x2 x1.Kind x1.Text x1.Gaps ([] : List Int))]) en_Row_len (by first | rfl | omega) rfl (by first | (simp only [encL_cons, encL_nil, en_Row_eq, List.cons_append, List.nil_append]; done) | (simp only [encL_cons, encL_nil, en_Row_eq, List.cons_append, List.nil_append]; rfl) | rfl) (by assumption)
 obtain ⟨o, h12, h⟩ := Option.bind_eq_some_iff.1 h
 simp (maxSteps := 10000000) (implicitDefEqProofs := false) (disch := first | assumption | omega | exact rfl) only [bs, rs47, ls47, Nat.reduceAdd, ↓reduceIte, lenD_lst u23, lenD_ref u53, loadD_iagg a25 z25, loadD_ptr a22, loadD_ptr a23, loadD_ptr a3, loadD_ptr a9, own_ref, wksL_en_i64, wksL_en_str, wks_nil_, h1]
 refine Wp.ctx (fun x => seqW _ _ _ _ (blockW _ (x))) (L47_0_ok hrec (x0.length : Int) x1.Kind x1.Text x1.Gaps x1.Kids ((0 : Int), (x0 ++ [(Row.mk x2 x1.Kind x1.Text x1.Gaps ([] : List Int))]), ([] : List Int)) _ o (by kernel_rfl) h12) ?_
 intro e st hq
 cases o with
 | next _ => (first | cases h | (simp at h))
 | jmp n_ s_ =>
  obtain ⟨rfl, rfl, hq⟩ := hq
  obtain ⟨s9_13, y1_13, y3_13⟩ := s_
  unfold F47_0 at hq
  (try simp only [] at h hq)
  obtain ⟨v14, h15, h⟩ := Option.bind_eq_some_iff.1 h
  obtain ⟨h15a, h15b, _⟩ := rd_some h15
  have h16 : storeD Try.prog [.dead, .arr (encL en_Row y1_13), .var [iv x1.Kind, .p (.v (.string x1.Text)), .p (.lst false x1.Gaps.length (encL en_str x1.Gaps)), .p (.lst false x1.Kids.length (encL en_Node x1.Kids))], .arr (encL en_i64 y3_13)] 38 (.ptr 1 ((x0.length : Int).toNat * 5 + 4)) (.ref 3 0 y3_13.length 1) = some [.dead, .arr (encL en_Row (y1_13.set (x0.length : Int).toNat (Row.mk v14.Parent v14.Kind v14.Text v14.Gaps y3_13))), .var [iv x1.Kind, .p (.v (.string x1.Text)), .p (.lst false x1.Gaps.length (encL en_str x1.Gaps)), .p (.lst false x1.Kids.length (encL en_Node x1.Kids))], .frz (encL en_i64 y3_13)] := (storeD_row (v' := (Row.mk v14.Parent v14.Kind v14.Text v14.Gaps y3_13)) (k := 4) z38 en_Row_len en_i64_len rfl rfl rfl (by first | rfl | omega) h15 (by decide) (by rw [en_Row_eq, en_Row_eq]; rfl)).trans rfl
  have h17 : (y1_13.set (x0.length : Int).toNat (Row.mk v14.Parent v14.Kind v14.Text v14.Gaps y3_13)).length = y1_13.length := List.length_set
  obtain rfl := Option.some.inj h
  simp (maxSteps := 10000000) (implicitDefEqProofs := false) (disch := first | assumption | omega | exact rfl) only [bs, rs47, ls47, Nat.reduceAdd, ↓reduceIte, lenD_lst u23, lenD_ref u53, loadD_iagg a25 z25, loadD_ptr a22, loadD_ptr a23, loadD_ptr a3, loadD_ptr a9, own_ref, wksL_en_i64, wksL_en_str, wks_nil_, h1, hq, h16]
  refine ⟨by first | exact .inl trivial | exact .inr trivial | simp, ?_⟩
  show _ = _
  simp only [List.length_set, cpL_len]; kernel_rfl
 | ret _ => (first | cases h | (simp at h))
def ls47n := And.intro @ap_38_38 (And.intro @ap_53_53 (And.intro @bs_38_1 (And.intro @bs_53_1 (And.intro @bu_59_0_1_2_3 (And.intro @faP_25_0 (And.intro @faP_25_1 (And.intro @faP_25_2 (And.intro @faP_25_3 (And.intro @faP_59_4 (And.intro @idxL_23 (And.intro @idxR_53 (And.intro @varld_4_0_0 (And.intro @varld_4_0_1 (And.intro @varld_4_0_2 (@varld_4_0_3)))))))))))))))
def F47n_0 (s7 : Int) (w1_0 : Int) (w1_1 : ByteArray) (w1_2 : (List ByteArray)) (w1_3 : (List Node)) : (Int × (List Row) × (List Int)) → St := fun (s9, y0, y2) => ⟨[.ref 0 0 y0.length 5, .junk, .junk, .junk, .ptr 1 0, .junk, .junk, iv s7, .ref 2 0 y2.length 1, iv s9, .junk, .junk, .junk, .junk, .junk, .junk, .junk, .junk, .junk, .junk, .junk, .junk, .junk, .junk, .junk, .junk, .junk, .junk, .junk, .junk, .junk, .junk, .junk, .junk, .junk, .junk, .junk, .junk, .junk, .junk, .junk, .junk, .junk, .junk, .junk, .junk, .junk, .junk, .junk], [.arr (encL en_Row y0), .var [iv w1_0, .p (.v (.string w1_1)), .p (.lst false w1_2.length (encL en_str w1_2)), .p (.lst false w1_3.length (encL en_Node w1_3))], .arr (encL en_i64 y2)], 0⟩
theorem L47n_0_ok {rec : (List Row) → Node → Int → Option (List Row)} (hrec : ∀ x0 x1 x2 r, rec x0 x1 x2 = some r → callW Try.prog A0 47 [.ref 0 0 x0.length 5, .p (.agg [.v (.int .i64 x1.Kind), .v (.string x1.Text), .lst false x1.Gaps.length (encL en_str x1.Gaps), .lst false x1.Kids.length (encL en_Node x1.Kids)]), iv x2] [.arr (encL en_Row x0)] = some (.ref 1 0 r.length 5, [.dead, .arr (encL en_Row r)])) (s7 : Int) (w1_0 : Int) (w1_1 : ByteArray) (w1_2 : (List ByteArray)) (w1_3 : (List Node)) : ∀ s st o, ghostsD g47_0 st = some (F47n_0 s7 w1_0 w1_1 w1_2 w1_3 s) → iter (R06_rows_L0 rec s7 w1_0 w1_1 w1_2 w1_3) s = some o →
    Wp (evW Try.prog A0 47 (.loop L47_0) st) (OutQ (F47n_0 s7 w1_0 w1_1 w1_2 w1_3) g47_0 (fun n s st => n = 0 ∧ ghostsD [.keep [0, 4, 7, 8, 9]] st = some (F47n_0 s7 w1_0 w1_1 w1_2 w1_3 s)) (fun r st => finishD Try.prog A0 47 Try.f47 st = some (.ref 0 0 r.length 5, [.arr (encL en_Row r)])) o) := by
 refine Wp.iter ?_
 intro s st o hg h
 obtain ⟨s9, y0, y2⟩ := s
 unfold R06_rows_L0 at h
 unfold g47_0 F47n_0 at hg ⊢
 (try simp only [] at h hg)
 unfold L47_0 bodyOf Try.f47; simp only [Option.getD_some, loopsOf, List.append_nil, List.nil_append, List.cons_append, List.getD_cons_zero, List.getD_cons_succ]
 by_cases h3 : s9 < (w1_3.length : Int)
 ·rw [if_pos h3] at h
  have h3' : decide (s9 < (w1_3.length : Int)) = true := decide_eq_true h3
  by_cases hw_ : (y2.length + 1) * 8 ≤ 140737488355328
  case neg => rw [if_neg hw_] at h; cases h
  rw [if_pos hw_] at h
  have h5 := hw_
  have h4 : ∀ (H : List Ob) (id : Nat), apOb H id 0 y2.length 1 1 1 8 [.v (.int .i64 (y0.length : Int))] (some (.arr (encL en_i64 y2))) = some (.ref H.length 0 (y2 ++ [(y0.length : Int)]).length 1, H.set id .dead ++ [.arr (encL en_i64 (y2 ++ [(y0.length : Int)]))]) := fun H id => ap_enc (y := [(y0.length : Int)]) en_i64_len (by first | rfl | omega) rfl (by first | (simp only [encL_cons, encL_nil, en_i64_eq, List.cons_append, List.nil_append]; done) | (simp only [encL_cons, encL_nil, en_i64_eq, List.cons_append, List.nil_append]; rfl) | rfl) (by assumption)
  obtain ⟨v6, h7, h⟩ := Option.bind_eq_some_iff.1 h
  obtain ⟨h7a, h7b, _⟩ := rd_some h7
  have h8 := lk_frz_25 h7
  obtain ⟨r9, h10, h⟩ := Option.bind_eq_some_iff.1 h
  have h11 : ∀ H, H[0]? = some (.arr (encL en_Row y0)) → callD (callW Try.prog A0) A0 H 47 [.ref 0 0 y0.length 5, .p (.agg [.v (.int .i64 v6.Kind), .v (.string v6.Text), .lst false v6.Gaps.length (encL en_str v6.Gaps), .lst false v6.Kids.length (encL en_Node v6.Kids)]), iv s7] = some (.ref H.length 0 r9.length 5, some (H.set 0 .dead ++ [.arr (encL en_Row r9)])) := fun H hid => R06_rows_rcall hrec (H := H) (id := 0) hid (by first | rfl | omega) h10
  have h11' := h11 [.arr (encL en_Row y0), .var [iv w1_0, .p (.v (.string w1_1)), .p (.lst false w1_2.length (encL en_str w1_2)), .p (.lst false w1_3.length (encL en_Node w1_3))], .dead, .arr (encL en_i64 (y2 ++ [(y0.length : Int)]))] rfl
  obtain rfl := Option.some.inj h
  simp (maxSteps := 10000000) (implicitDefEqProofs := false) (disch := first | assumption | omega | exact rfl) only [bs, rs47, ls47n, Nat.reduceAdd, ↓reduceIte, lenD_lst u23, lenD_ref u53, loadD_iagg a25 z25, loadD_ptr a22, loadD_ptr a23, loadD_ptr a3, loadD_ptr a9, own_ref, wksL_en_i64, wksL_en_str, wks_nil_, hg, ↓h3', h4, h8, h11']
  exact ⟨rfl, by kernel_rfl⟩
 ·rw [if_neg h3] at h
  have h3' : decide (s9 < (w1_3.length : Int)) = false := decide_eq_false h3
  obtain rfl := Option.some.inj h
  simp (maxSteps := 10000000) (implicitDefEqProofs := false) (disch := first | assumption | omega | exact rfl) only [bs, rs47, ls47n, Nat.reduceAdd, ↓reduceIte, lenD_lst u23, lenD_ref u53, loadD_iagg a25 z25, loadD_ptr a22, loadD_ptr a23, loadD_ptr a3, loadD_ptr a9, own_ref, wksL_en_i64, wksL_en_str, wks_nil_, hg, ↓h3']
  exact ⟨rfl, rfl, by kernel_rfl⟩
theorem f47n_ok {rec : (List Row) → Node → Int → Option (List Row)} (hrec : ∀ x0 x1 x2 r, rec x0 x1 x2 = some r → callW Try.prog A0 47 [.ref 0 0 x0.length 5, .p (.agg [.v (.int .i64 x1.Kind), .v (.string x1.Text), .lst false x1.Gaps.length (encL en_str x1.Gaps), .lst false x1.Kids.length (encL en_Node x1.Kids)]), iv x2] [.arr (encL en_Row x0)] = some (.ref 1 0 r.length 5, [.dead, .arr (encL en_Row r)]))  (x0 : (List Row)) (x1 : Node) (x2 : Int) (hx0 : x0 = []) (r : (List Row)) (h : R06_rows.body rec x0 x1 x2 = some r) : callW Try.prog A0 47 [.p (.lst true 0 []), .p (.agg [.v (.int .i64 x1.Kind), .v (.string x1.Text), .lst false x1.Gaps.length (encL en_str x1.Gaps), .lst false x1.Kids.length (encL en_Node x1.Kids)]), iv x2] [] = some (.ref 0 0 r.length 5, [.arr (encL en_Row r)]) := by
 refine call_ofH (fn := Try.f47) (c := bodyOf Try.f47) rfl (by kernel_rfl) (by kernel_rfl) ?_
 rw [show initS Try.f47 [.p (.lst true 0 []), .p (.agg [.v (.int .i64 x1.Kind), .v (.string x1.Text), .lst false x1.Gaps.length (encL en_str x1.Gaps), .lst false x1.Kids.length (encL en_Node x1.Kids)]), iv x2] [] = ⟨.p (.lst true 0 []) :: .p (.agg [.v (.int .i64 x1.Kind), .v (.string x1.Text), .lst false x1.Gaps.length (encL en_str x1.Gaps), .lst false x1.Kids.length (encL en_Node x1.Kids)]) :: iv x2 :: List.replicate 46 undefD, [], 0⟩ from by kernel_rfl]
 unfold R06_rows.body at h
 unfold bodyOf Try.f47; simp only [Option.getD_some, loopsOf, List.append_nil, List.nil_append, List.cons_append, List.getD_cons_zero, List.getD_cons_succ]
 simp only [List.replicate]
 have hown := own_nil' (en := en_Row) hx0 5
 by_cases hw_ : (x0.length + 1) * 80 ≤ 140737488355328
 case neg => rw [if_neg hw_] at h; cases h
 rw [if_pos hw_] at h
 have h2 := hw_
 have h1 : ∀ (H : List Ob) (id : Nat), apOb H id 0 x0.length 1 5 5 80 [.v (.int .i64 x2), .v (.int .i64 x1.Kind), .v (.string x1.Text), .lst false x1.Gaps.length (encL en_str x1.Gaps), .lst false 0 []] (some (.arr (encL en_Row x0))) = some (.ref H.length 0 (x0 ++ [(Row.mk x2 x1.Kind x1.Text x1.Gaps ([] : List Int))]).length 5, H.set id .dead ++ [.arr (encL en_Row (x0 ++ [(Row.mk x2 x1.Kind x1.Text x1.Gaps ([] : List Int))]))]) := fun H id => ap_enc (y := [(Row.mk x2 x1.Kind x1.Text x1.Gaps ([] : List Int))]) en_Row_len (by first | rfl | omega) rfl (by first | (simp only [encL_cons, encL_nil, en_Row_eq, List.cons_append, List.nil_append]; done) | (simp only [encL_cons, encL_nil, en_Row_eq, List.cons_append, List.nil_append]; rfl) | rfl) (by assumption)
 obtain ⟨o, h12, h⟩ := Option.bind_eq_some_iff.1 h
 simp (maxSteps := 10000000) (implicitDefEqProofs := false) (disch := first | assumption | omega | exact rfl) only [bs, rs47, ls47n, Nat.reduceAdd, ↓reduceIte, lenD_lst u23, lenD_ref u53, loadD_iagg a25 z25, loadD_ptr a22, loadD_ptr a23, loadD_ptr a3, loadD_ptr a9, own_ref, wksL_en_i64, wksL_en_str, wks_nil_, hown, h1]
 refine Wp.ctx (fun x => seqW _ _ _ _ (blockW _ (x))) (L47n_0_ok hrec (x0.length : Int) x1.Kind x1.Text x1.Gaps x1.Kids ((0 : Int), (x0 ++ [(Row.mk x2 x1.Kind x1.Text x1.Gaps ([] : List Int))]), ([] : List Int)) _ o (by kernel_rfl) h12) ?_
 intro e st hq
 cases o with
 | next _ => (first | cases h | (simp at h))
 | jmp n_ s_ =>
  obtain ⟨rfl, rfl, hq⟩ := hq
  obtain ⟨s9_13, y0_13, y2_13⟩ := s_
  unfold F47n_0 at hq
  (try simp only [] at h hq)
  obtain ⟨v14, h15, h⟩ := Option.bind_eq_some_iff.1 h
  obtain ⟨h15a, h15b, _⟩ := rd_some h15
  have h16 : storeD Try.prog [.arr (encL en_Row y0_13), .var [iv x1.Kind, .p (.v (.string x1.Text)), .p (.lst false x1.Gaps.length (encL en_str x1.Gaps)), .p (.lst false x1.Kids.length (encL en_Node x1.Kids))], .arr (encL en_i64 y2_13)] 38 (.ptr 0 ((x0.length : Int).toNat * 5 + 4)) (.ref 2 0 y2_13.length 1) = some [.arr (encL en_Row (y0_13.set (x0.length : Int).toNat (Row.mk v14.Parent v14.Kind v14.Text v14.Gaps y2_13))), .var [iv x1.Kind, .p (.v (.string x1.Text)), .p (.lst false x1.Gaps.length (encL en_str x1.Gaps)), .p (.lst false x1.Kids.length (encL en_Node x1.Kids))], .frz (encL en_i64 y2_13)] := (storeD_row (v' := (Row.mk v14.Parent v14.Kind v14.Text v14.Gaps y2_13)) (k := 4) z38 en_Row_len en_i64_len rfl rfl rfl (by first | rfl | omega) h15 (by decide) (by rw [en_Row_eq, en_Row_eq]; rfl)).trans rfl
  have h17 : (y0_13.set (x0.length : Int).toNat (Row.mk v14.Parent v14.Kind v14.Text v14.Gaps y2_13)).length = y0_13.length := List.length_set
  obtain rfl := Option.some.inj h
  simp (maxSteps := 10000000) (implicitDefEqProofs := false) (disch := first | assumption | omega | exact rfl) only [bs, rs47, ls47n, Nat.reduceAdd, ↓reduceIte, lenD_lst u23, lenD_ref u53, loadD_iagg a25 z25, loadD_ptr a22, loadD_ptr a23, loadD_ptr a3, loadD_ptr a9, own_ref, wksL_en_i64, wksL_en_str, wks_nil_, hown, h1, hq, h16]
  refine ⟨by first | exact .inl trivial | exact .inr trivial | simp, ?_⟩
  show _ = _
  simp only [List.length_set, cpL_len]; kernel_rfl
 | ret _ => (first | cases h | (simp at h))
theorem f47_spec : ∀ (x0 : (List Row)) (x1 : Node) (x2 : Int) r, R06_rowsS x0 x1 x2 = some r → callW Try.prog A0 47 [.ref 0 0 x0.length 5, .p (.agg [.v (.int .i64 x1.Kind), .v (.string x1.Text), .lst false x1.Gaps.length (encL en_str x1.Gaps), .lst false x1.Kids.length (encL en_Node x1.Kids)]), iv x2] [.arr (encL en_Row x0)] = some (.ref 1 0 r.length 5, [.dead, .arr (encL en_Row r)]) := by
  have key : ∀ n (x0 : (List Row)) (x1 : Node) (x2 : Int) r, R06_rowsS_mu x0 x1 x2 < n → R06_rowsS x0 x1 x2 = some r → callW Try.prog A0 47 [.ref 0 0 x0.length 5, .p (.agg [.v (.int .i64 x1.Kind), .v (.string x1.Text), .lst false x1.Gaps.length (encL en_str x1.Gaps), .lst false x1.Kids.length (encL en_Node x1.Kids)]), iv x2] [.arr (encL en_Row x0)] = some (.ref 1 0 r.length 5, [.dead, .arr (encL en_Row r)]) := by
    intro n
    induction n with
    | zero => intro x0 x1 x2 r h; omega
    | succ n ih =>
      intro x0 x1 x2 r hn h
      refine f47_ok (rec := fun x0' x1' x2' => if R06_rowsS_mu x0' x1' x2' < R06_rowsS_mu x0 x1 x2 then R06_rowsS x0' x1' x2' else none) ?_ x0 x1 x2 r (R06_rowsS_body x0 x1 x2 r h)
      intro x0' x1' x2' r' h'
      by_cases hm : R06_rowsS_mu x0' x1' x2' < R06_rowsS_mu x0 x1 x2
      · rw [if_pos hm] at h'; exact ih x0' x1' x2' r' (by omega) h'
      · rw [if_neg hm] at h'; cases h'
  intro x0 x1 x2 r h
  exact key _ x0 x1 x2 r (Nat.lt_succ_self _) h
theorem f47n_spec (x1 : Node) (x2 : Int) r (h : R06_rowsS ([] : List Row) x1 x2 = some r) : callW Try.prog A0 47 [.p (.lst true 0 []), .p (.agg [.v (.int .i64 x1.Kind), .v (.string x1.Text), .lst false x1.Gaps.length (encL en_str x1.Gaps), .lst false x1.Kids.length (encL en_Node x1.Kids)]), iv x2] [] = some (.ref 0 0 r.length 5, [.arr (encL en_Row r)]) := by
  refine f47n_ok (rec := fun x0' x1' x2' => if R06_rowsS_mu x0' x1' x2' < R06_rowsS_mu ([] : List Row) x1 x2 then R06_rowsS x0' x1' x2' else none) ?_ ([] : List Row) x1 x2 rfl r (R06_rowsS_body ([] : List Row) x1 x2 r h)
  intro x0' x1' x2' r' h'
  by_cases hm : R06_rowsS_mu x0' x1' x2' < R06_rowsS_mu ([] : List Row) x1 x2
  · rw [if_pos hm] at h'; exact f47_spec x0' x1' x2' r' h'
  · rw [if_neg hm] at h'; cases h'
theorem R06_rows_calln {b1 b2 : Bool} {H : List Ob} {x1 : Node} {x2 : Int} {r : (List Row)} (h : R06_rowsS ([] : List Row) x1 x2 = some r) : callD (callW Try.prog A0) A0 H 47 [.p (.lst true 0 []), .p (.agg [.v (.int .i64 x1.Kind), .v (.string x1.Text), .lst b1 x1.Gaps.length (encL en_str x1.Gaps), .lst b2 x1.Kids.length (encL en_Node x1.Kids)]), iv x2] = some (.ref H.length 0 r.length 5, some (H ++ [.arr (encL en_Row r)])) :=
  callD_mut0 (args := [.lst true 0 [], .agg [.v (.int .i64 x1.Kind), .v (.string x1.Text), .lst false x1.Gaps.length (encL en_str x1.Gaps), .lst false x1.Kids.length (encL en_Node x1.Kids)], .v (.int .i64 x2)]) (by simp only [List.map_cons, List.map_nil, wkDv, wk, wks, wkL]) rfl (f47n_spec x1 x2 _ h)
def ls35 := @varlv_4_0_4
theorem f35_ok  (x0 : Node) (r : (List Row)) (h : R06_Rows x0 = some r) : callW Try.prog A0 35 [.p (.agg [.v (.int .i64 x0.Kind), .v (.string x0.Text), .lst false x0.Gaps.length (encL en_str x0.Gaps), .lst false x0.Kids.length (encL en_Node x0.Kids)])] [] = some (.p (.lst false r.length (encL en_Row r)), []) := by
 refine call_ofH (fn := Try.f35) (c := bodyOf Try.f35) rfl (by kernel_rfl) (by kernel_rfl) ?_
 rw [show initS Try.f35 [.p (.agg [.v (.int .i64 x0.Kind), .v (.string x0.Text), .lst false x0.Gaps.length (encL en_str x0.Gaps), .lst false x0.Kids.length (encL en_Node x0.Kids)])] [] = ⟨.p (.agg [.v (.int .i64 x0.Kind), .v (.string x0.Text), .lst false x0.Gaps.length (encL en_str x0.Gaps), .lst false x0.Kids.length (encL en_Node x0.Kids)]) :: List.replicate 6 undefD, [], 0⟩ from by kernel_rfl]
 unfold R06_Rows at h
 unfold bodyOf Try.f35; simp only [Option.getD_some, loopsOf, List.append_nil, List.nil_append, List.cons_append, List.getD_cons_zero, List.getD_cons_succ]
 simp only [List.replicate]
 obtain ⟨r1, h2, h⟩ := Option.bind_eq_some_iff.1 h
 have h3 : ∀ H, callD (callW Try.prog A0) A0 H 47 [.p (.lst true 0 []), .p (.agg [.v (.int .i64 x0.Kind), .v (.string x0.Text), .lst false x0.Gaps.length (encL en_str x0.Gaps), .lst false x0.Kids.length (encL en_Node x0.Kids)]), iv (-1 : Int)] = some (.ref H.length 0 r1.length 5, some (H ++ [.arr (encL en_Row r1)])) := fun H => R06_rows_calln (H := H) h2
 obtain rfl := Option.some.inj h
 simp (maxSteps := 10000000) (implicitDefEqProofs := false) (disch := first | assumption | omega | exact rfl) only [bs, rs35, ls35, Nat.reduceAdd, ↓reduceIte, loadD_pagg a25 z25, h3]
 refine ⟨by first | exact .inl trivial | exact .inr trivial | simp, ?_⟩
 exact finish_is (ds := [.ref 1 0 r1.length 5]) (x := .lst false r1.length (encL en_Row r1)) (y := .lst false r1.length (encL en_Row r1)) (l := [1]) rfl rfl rfl (purify1_enc en_Row_len rfl (by first | rfl | omega)) (by first | rfl | (simp only [wk, wks, wkL]; first | done | rfl))
theorem R06_Rows_call {b1 b2 : Bool} {H : List Ob} {x0 : Node} {r : (List Row)} (h : R06_Rows x0 = some r) : callD (callW Try.prog A0) A0 H 35 [.p (.agg [.v (.int .i64 x0.Kind), .v (.string x0.Text), .lst b1 x0.Gaps.length (encL en_str x0.Gaps), .lst b2 x0.Kids.length (encL en_Node x0.Kids)])] = some (.p (.lst false r.length (encL en_Row r)), none) :=
  callD_fun (args := [.agg [.v (.int .i64 x0.Kind), .v (.string x0.Text), .lst b1 x0.Gaps.length (encL en_str x0.Gaps), .lst b2 x0.Kids.length (encL en_Node x0.Kids)]]) rfl rfl rfl (by simp only [List.map_cons, List.map_nil, wk, wks, wkL]; exact f35_ok x0 _ h)
def ls41 := And.intro @faI_46_1 (@idxL_26)
noncomputable def L41_0 : Code := (loopsOf (bodyOf Try.f41)).getD 0 .skip
def g41_0 : List Ghost := [.weak [0], .keep [0, 1, 5]]
def F41_0 (s0 : (List Pair)) (s1 : Int) : Int → St := fun s5 => ⟨[.p (.lst false s0.length (encL en_Pair s0)), iv s1, .junk, .junk, .junk, iv s5, .junk, .junk, .junk, .junk, .junk, .junk, .junk, .junk, .junk, .junk, .junk, .junk, .junk], [], 0⟩
theorem L41_0_ok (s0 : (List Pair)) (s1 : Int) : ∀ s st o, ghostsD g41_0 st = some (F41_0 s0 s1 s) → iter (R24_hasNew_L0 s0 s1) s = some o →
    Wp (evW Try.prog A0 41 (.loop L41_0) st) (OutQ (F41_0 s0 s1) g41_0 (fun n s st => n = 0 ∧ ghostsD [.keep [0, 1, 5]] st = some (F41_0 s0 s1 s)) (fun r st => finishD Try.prog A0 41 Try.f41 st = some (.p (.v (.bool r)), [])) o) := by
 refine Wp.iter ?_
 intro s st o hg h
 generalize s = s5 at hg h
 unfold R24_hasNew_L0 at h
 unfold g41_0 F41_0 at hg ⊢
 (try simp only [] at h hg)
 unfold L41_0 bodyOf Try.f41; simp only [Option.getD_some, loopsOf, List.append_nil, List.nil_append, List.cons_append, List.getD_cons_zero, List.getD_cons_succ]
 by_cases h1 : s5 < (s0.length : Int)
 ·rw [if_pos h1] at h
  have h1' : decide (s5 < (s0.length : Int)) = true := decide_eq_true h1
  obtain ⟨v2, h3, h⟩ := Option.bind_eq_some_iff.1 h
  obtain ⟨h3a, h3b, _⟩ := rd_some h3
  have h4 := ce_46__1 h3
  by_cases h5 : v2.New = s1
  ·rw [if_pos h5] at h
   have h5' : decide (v2.New = s1) = true := decide_eq_true h5
   obtain rfl := Option.some.inj h
   simp (maxSteps := 10000000) (implicitDefEqProofs := false) (disch := first | assumption | omega | exact rfl) only [bs, rs41, ls41, Nat.reduceAdd, ↓reduceIte, lenD_lst u26, loadD_iptr a3, hg, ↓h1', h4, ↓h5']
   refine ⟨rfl, ?_⟩
   exact finish_is (ds := [bv true]) (x := .v (.bool true)) (y := .v (.bool true)) (l := []) rfl rfl rfl rfl (by first | rfl | (simp only [wk, wks, wkL]; first | done | rfl))
  ·rw [if_neg h5] at h
   have h5' : decide (v2.New = s1) = false := decide_eq_false h5
   obtain rfl := Option.some.inj h
   simp (maxSteps := 10000000) (implicitDefEqProofs := false) (disch := first | assumption | omega | exact rfl) only [bs, rs41, ls41, Nat.reduceAdd, ↓reduceIte, lenD_lst u26, loadD_iptr a3, hg, ↓h1', h4, ↓h5']
   exact ⟨rfl, by kernel_rfl⟩
 ·rw [if_neg h1] at h
  have h1' : decide (s5 < (s0.length : Int)) = false := decide_eq_false h1
  obtain rfl := Option.some.inj h
  simp (maxSteps := 10000000) (implicitDefEqProofs := false) (disch := first | assumption | omega | exact rfl) only [bs, rs41, ls41, Nat.reduceAdd, ↓reduceIte, lenD_lst u26, loadD_iptr a3, hg, ↓h1']
  exact ⟨rfl, rfl, by kernel_rfl⟩
theorem f41_ok  (x0 : (List Pair)) (x1 : Int) (r : Bool) (h : R24_hasNew x0 x1 = some r) : callW Try.prog A0 41 [.p (.lst false x0.length (encL en_Pair x0)), iv x1] [] = some (.p (.v (.bool r)), []) := by
 refine call_ofH (fn := Try.f41) (c := bodyOf Try.f41) rfl (by kernel_rfl) (by kernel_rfl) ?_
 rw [show initS Try.f41 [.p (.lst false x0.length (encL en_Pair x0)), iv x1] [] = ⟨.p (.lst false x0.length (encL en_Pair x0)) :: iv x1 :: List.replicate 17 undefD, [], 0⟩ from by kernel_rfl]
 unfold R24_hasNew at h
 unfold bodyOf Try.f41; simp only [Option.getD_some, loopsOf, List.append_nil, List.nil_append, List.cons_append, List.getD_cons_zero, List.getD_cons_succ]
 simp only [List.replicate]
 obtain ⟨o, h6, h⟩ := Option.bind_eq_some_iff.1 h
 simp (maxSteps := 10000000) (implicitDefEqProofs := false) (disch := first | assumption | omega | exact rfl) only [bs, rs41, ls41, Nat.reduceAdd, ↓reduceIte, lenD_lst u26, loadD_iptr a3]
 refine Wp.ctx (fun x => seqW _ _ _ _ (blockW _ (x))) (L41_0_ok x0 x1 (0 : Int) _ o (by kernel_rfl) h6) ?_
 intro e st hq
 cases o with
 | next _ => (first | cases h | (simp at h))
 | jmp n_ s_ =>
  obtain ⟨rfl, rfl, hq⟩ := hq
  generalize s_ = s5_7 at h hq
  unfold F41_0 at hq
  (try simp only [] at h hq)
  obtain rfl := Option.some.inj h
  simp (maxSteps := 10000000) (implicitDefEqProofs := false) (disch := first | assumption | omega | exact rfl) only [bs, rs41, ls41, Nat.reduceAdd, ↓reduceIte, lenD_lst u26, loadD_iptr a3, hq]
  refine ⟨by first | exact .inl trivial | exact .inr trivial | simp, ?_⟩
  exact finish_is (ds := [bv false]) (x := .v (.bool false)) (y := .v (.bool false)) (l := []) rfl rfl rfl rfl (by first | rfl | (simp only [wk, wks, wkL]; first | done | rfl))
 | ret r8 =>
  obtain ⟨rfl, hq⟩ := hq
  obtain rfl := Option.some.inj h
  simp (maxSteps := 10000000) (implicitDefEqProofs := false) (disch := first | assumption | omega | exact rfl) only [bs, rs41, ls41, Nat.reduceAdd, ↓reduceIte, lenD_lst u26, loadD_iptr a3]
  exact ⟨by first | exact .inl trivial | exact .inr trivial | simp, hq⟩
theorem R24_hasNew_call {b1 : Bool} {H : List Ob} {x0 : (List Pair)} {x1 : Int} {r : Bool} (h : R24_hasNew x0 x1 = some r) : callD (callW Try.prog A0) A0 H 41 [.p (.lst b1 x0.length (encL en_Pair x0)), iv x1] = some (.p (.v (.bool r)), none) :=
  callD_fun (args := [.lst b1 x0.length (encL en_Pair x0), .v (.int .i64 x1)]) rfl rfl rfl (by simp only [List.map_cons, List.map_nil, wk, wks, wkL]; exact f41_ok x0 x1 _ h)
def ls21 := And.intro @al_46 (And.intro @faI_46_0 (And.intro @faI_59_1 (And.intro @faP_25_0 (And.intro @faP_46_0 (And.intro @faP_46_1 (And.intro @idxL_26 (And.intro @idxL_53 (And.intro @sa_2_0_2 (And.intro @shi_26 (And.intro @varld_2_0_0 (And.intro @varld_2_0_1 (And.intro @varld_4_0_0 (@varlv_4_0_4)))))))))))))
noncomputable def L21_0 : Code := (loopsOf (bodyOf Try.f21)).getD 0 .skip
def g21_0 : List Ghost := [.weak [2, 7, 8], .keep [2, 3, 4, 7, 8, 9]]
def F21_0 (s2 : (List Pair)) (s7 : (List Row)) (s8 : (List Row)) (w0_0 : Int) (w0_1 : ByteArray) (w0_2 : (List ByteArray)) (w0_3 : (List Node)) (w1_0 : Int) (w1_1 : ByteArray) (w1_2 : (List ByteArray)) (w1_3 : (List Node)) : Int → St := fun s9 => ⟨[.junk, .junk, .p (.lst false s2.length (encL en_Pair s2)), .ptr 0 0, .ptr 1 0, .junk, .junk, .p (.lst false s7.length (encL en_Row s7)), .p (.lst false s8.length (encL en_Row s8)), iv s9, .junk, .junk, .junk, .junk, .junk, .junk, .junk, .junk, .junk, .junk, .junk, .junk, .junk, .junk, .junk, .junk, .junk, .junk, .junk, .junk, .junk, .junk, .junk, .junk, .junk, .junk, .junk, .junk, .junk, .junk, .junk, .junk, .junk, .junk, .junk, .junk, .junk, .junk, .junk, .junk, .junk, .junk, .junk, .junk, .junk, .junk, .junk, .junk, .junk, .junk, .junk, .junk, .junk, .junk, .junk, .junk, .junk, .junk, .junk, .junk, .junk, .junk, .junk, .junk, .junk, .junk, .junk, .junk, .junk, .junk, .junk, .junk, .junk, .junk, .junk, .junk, .junk, .junk, .junk, .junk, .junk, .junk, .junk, .junk, .junk, .junk, .junk, .junk, .junk, .junk, .junk, .junk, .junk, .junk, .junk, .junk, .junk, .junk, .junk], [.var [iv w0_0, .p (.v (.string w0_1)), .p (.lst false w0_2.length (encL en_str w0_2)), .p (.lst false w0_3.length (encL en_Node w0_3))], .var [iv w1_0, .p (.v (.string w1_1)), .p (.lst false w1_2.length (encL en_str w1_2)), .p (.lst false w1_3.length (encL en_Node w1_3))]], 0⟩
theorem L21_0_ok (s2 : (List Pair)) (s7 : (List Row)) (s8 : (List Row)) (w0_0 : Int) (w0_1 : ByteArray) (w0_2 : (List ByteArray)) (w0_3 : (List Node)) (w1_0 : Int) (w1_1 : ByteArray) (w1_2 : (List ByteArray)) (w1_3 : (List Node)) : ∀ s st o, ghostsD g21_0 st = some (F21_0 s2 s7 s8 w0_0 w0_1 w0_2 w0_3 w1_0 w1_1 w1_2 w1_3 s) → iter (R24_Check_L0 s2 s7 s8 w0_0 w0_1 w0_2 w0_3 w1_0 w1_1 w1_2 w1_3) s = some o →
    Wp (evW Try.prog A0 21 (.loop L21_0) st) (OutQ (F21_0 s2 s7 s8 w0_0 w0_1 w0_2 w0_3 w1_0 w1_1 w1_2 w1_3) g21_0 (fun n s st => n = 0 ∧ ghostsD [.keep [2, 3, 4, 7, 8, 9]] st = some (F21_0 s2 s7 s8 w0_0 w0_1 w0_2 w0_3 w1_0 w1_1 w1_2 w1_3 s)) (fun r st => finishD Try.prog A0 21 Try.f21 st = some (.p (.v (.int .i64 r)), [])) o) := by
 refine Wp.iter ?_
 intro s st o hg h
 generalize s = s9 at hg h
 unfold R24_Check_L0 at h
 unfold g21_0 F21_0 at hg ⊢
 (try simp only [] at h hg)
 unfold L21_0 bodyOf Try.f21; simp only [Option.getD_some, loopsOf, List.append_nil, List.nil_append, List.cons_append, List.getD_cons_zero, List.getD_cons_succ]
 by_cases h7 : s9 < (s2.length : Int)
 ·rw [if_pos h7] at h
  have h7' : decide (s9 < (s2.length : Int)) = true := decide_eq_true h7
  obtain ⟨v8, h9, h⟩ := Option.bind_eq_some_iff.1 h
  obtain ⟨h9a, h9b, _⟩ := rd_some h9
  have h10 := lk_frz_46 h9
  by_cases h11 : v8.Old < (0 : Int)
  ·rw [if_pos h11] at h
   have h11' : decide (v8.Old < (0 : Int)) = true := decide_eq_true h11
   obtain rfl := Option.some.inj h
   simp (maxSteps := 10000000) (implicitDefEqProofs := false) (disch := first | assumption | omega | exact rfl) only [bs, rs21, ls21, Nat.reduceAdd, ↓reduceIte, binD_neq_bool Try.underlying4, lenD_lst u26, lenD_lst u53, loadD_iagg a46 z46, loadD_iptr a3, loadD_pagg a25 z25, loadD_ptr a3, storeD_agg z46, hg, ↓h7', h10, ↓h11']
   refine ⟨rfl, ?_⟩
   exact finish_is (ds := [iv (15 : Int)]) (x := .v (.int .i64 (15 : Int))) (y := .v (.int .i64 (15 : Int))) (l := []) rfl rfl rfl rfl (by first | rfl | (simp only [wk, wks, wkL]; first | done | rfl))
  ·rw [if_neg h11] at h
   have h11' : decide (v8.Old < (0 : Int)) = false := decide_eq_false h11
   by_cases h12 : (s7.length : Int) ≤ v8.Old
   ·rw [if_pos h12] at h
    have h12' : decide ((s7.length : Int) ≤ v8.Old) = true := decide_eq_true h12
    obtain rfl := Option.some.inj h
    simp (maxSteps := 10000000) (implicitDefEqProofs := false) (disch := first | assumption | omega | exact rfl) only [bs, rs21, ls21, Nat.reduceAdd, ↓reduceIte, binD_neq_bool Try.underlying4, lenD_lst u26, lenD_lst u53, loadD_iagg a46 z46, loadD_iptr a3, loadD_pagg a25 z25, loadD_ptr a3, storeD_agg z46, hg, ↓h7', h10, ↓h11', ↓h12']
    refine ⟨rfl, ?_⟩
    exact finish_is (ds := [iv (15 : Int)]) (x := .v (.int .i64 (15 : Int))) (y := .v (.int .i64 (15 : Int))) (l := []) rfl rfl rfl rfl (by first | rfl | (simp only [wk, wks, wkL]; first | done | rfl))
   ·rw [if_neg h12] at h
    have h12' : decide ((s7.length : Int) ≤ v8.Old) = false := decide_eq_false h12
    by_cases h13 : v8.New < (0 : Int)
    ·rw [if_pos h13] at h
     have h13' : decide (v8.New < (0 : Int)) = true := decide_eq_true h13
     obtain rfl := Option.some.inj h
     simp (maxSteps := 10000000) (implicitDefEqProofs := false) (disch := first | assumption | omega | exact rfl) only [bs, rs21, ls21, Nat.reduceAdd, ↓reduceIte, binD_neq_bool Try.underlying4, lenD_lst u26, lenD_lst u53, loadD_iagg a46 z46, loadD_iptr a3, loadD_pagg a25 z25, loadD_ptr a3, storeD_agg z46, hg, ↓h7', h10, ↓h11', ↓h12', ↓h13']
     refine ⟨rfl, ?_⟩
     exact finish_is (ds := [iv (15 : Int)]) (x := .v (.int .i64 (15 : Int))) (y := .v (.int .i64 (15 : Int))) (l := []) rfl rfl rfl rfl (by first | rfl | (simp only [wk, wks, wkL]; first | done | rfl))
    ·rw [if_neg h13] at h
     have h13' : decide (v8.New < (0 : Int)) = false := decide_eq_false h13
     by_cases h14 : (s8.length : Int) ≤ v8.New
     ·rw [if_pos h14] at h
      have h14' : decide ((s8.length : Int) ≤ v8.New) = true := decide_eq_true h14
      obtain rfl := Option.some.inj h
      simp (maxSteps := 10000000) (implicitDefEqProofs := false) (disch := first | assumption | omega | exact rfl) only [bs, rs21, ls21, Nat.reduceAdd, ↓reduceIte, binD_neq_bool Try.underlying4, lenD_lst u26, lenD_lst u53, loadD_iagg a46 z46, loadD_iptr a3, loadD_pagg a25 z25, loadD_ptr a3, storeD_agg z46, hg, ↓h7', h10, ↓h11', ↓h12', ↓h13', ↓h14']
      refine ⟨rfl, ?_⟩
      exact finish_is (ds := [iv (15 : Int)]) (x := .v (.int .i64 (15 : Int))) (y := .v (.int .i64 (15 : Int))) (l := []) rfl rfl rfl rfl (by first | rfl | (simp only [wk, wks, wkL]; first | done | rfl))
     ·rw [if_neg h14] at h
      have h14' : decide ((s8.length : Int) ≤ v8.New) = false := decide_eq_false h14
      by_cases h15 : (0 : Int) < s9
      ·rw [if_pos h15] at h
       have h15' : decide ((0 : Int) < s9) = true := decide_eq_true h15
       obtain ⟨v16, h17, h⟩ := Option.bind_eq_some_iff.1 h
       obtain ⟨h17a, h17b, _⟩ := rd_some h17
       have h18 := ce_46__0 h17
       by_cases h19 : v8.Old ≤ v16.Old
       ·rw [if_pos h19] at h
        have h19' : decide (v8.Old ≤ v16.Old) = true := decide_eq_true h19
        obtain rfl := Option.some.inj h
        simp (maxSteps := 10000000) (implicitDefEqProofs := false) (disch := first | assumption | omega | exact rfl) only [bs, rs21, ls21, Nat.reduceAdd, ↓reduceIte, binD_neq_bool Try.underlying4, lenD_lst u26, lenD_lst u53, loadD_iagg a46 z46, loadD_iptr a3, loadD_pagg a25 z25, loadD_ptr a3, storeD_agg z46, hg, ↓h7', h10, ↓h11', ↓h12', ↓h13', ↓h14', ↓h15', h18, ↓h19']
        refine ⟨rfl, ?_⟩
        exact finish_is (ds := [iv (15 : Int)]) (x := .v (.int .i64 (15 : Int))) (y := .v (.int .i64 (15 : Int))) (l := []) rfl rfl rfl rfl (by first | rfl | (simp only [wk, wks, wkL]; first | done | rfl))
       ·rw [if_neg h19] at h
        have h19' : decide (v8.Old ≤ v16.Old) = false := decide_eq_false h19
        by_cases hw_ : s9 ≤ (s2.length : Int)
        case neg => rw [if_neg hw_] at h; cases h
        rw [if_pos hw_] at h
        have h20 := hw_
        obtain ⟨r21, h22, h⟩ := Option.bind_eq_some_iff.1 h
        have h23 : ∀ H, callD (callW Try.prog A0) A0 H 41 [.p (.lst false (s2.take s9.toNat).length (encL en_Pair (s2.take s9.toNat))), iv v8.New] = some (.p (.v (.bool r21)), none) := fun H => R24_hasNew_call h22
        by_cases h24 : r21 = true
        ·rw [if_pos h24] at h
         obtain rfl := Option.some.inj h
         simp (maxSteps := 10000000) (implicitDefEqProofs := false) (disch := first | assumption | omega | exact rfl) only [bs, rs21, ls21, Nat.reduceAdd, ↓reduceIte, binD_neq_bool Try.underlying4, lenD_lst u26, lenD_lst u53, loadD_iagg a46 z46, loadD_iptr a3, loadD_pagg a25 z25, loadD_ptr a3, storeD_agg z46, hg, ↓h7', h10, ↓h11', ↓h12', ↓h13', ↓h14', ↓h15', h18, ↓h19', h23, h24]
         refine ⟨rfl, ?_⟩
         exact finish_is (ds := [iv (15 : Int)]) (x := .v (.int .i64 (15 : Int))) (y := .v (.int .i64 (15 : Int))) (l := []) rfl rfl rfl rfl (by first | rfl | (simp only [wk, wks, wkL]; first | done | rfl))
        ·rw [if_neg h24] at h
         replace h24 := Bool.eq_false_iff.2 h24
         obtain ⟨v25, h26, h⟩ := Option.bind_eq_some_iff.1 h
         obtain ⟨h26a, h26b, _⟩ := rd_some h26
         have h27 := ce_59__1 h26
         obtain ⟨v28, h29, h⟩ := Option.bind_eq_some_iff.1 h
         obtain ⟨h29a, h29b, _⟩ := rd_some h29
         have h30 := ce_59__1 h29
         by_cases h31 : v25.Kind = v28.Kind
         ·rw [if_pos h31] at h
          have h31' : decide (v25.Kind = v28.Kind) = true := decide_eq_true h31
          by_cases h32 : (decide (v8.Old = (0 : Int))) = (decide (v8.New = (0 : Int)))
          ·rw [if_pos h32] at h
           have h32' : decide ((decide (v8.Old = (0 : Int))) = (decide (v8.New = (0 : Int)))) = true := decide_eq_true h32
           obtain rfl := Option.some.inj h
           simp (maxSteps := 10000000) (implicitDefEqProofs := false) (disch := first | assumption | omega | exact rfl) only [bs, rs21, ls21, Nat.reduceAdd, ↓reduceIte, binD_neq_bool Try.underlying4, lenD_lst u26, lenD_lst u53, loadD_iagg a46 z46, loadD_iptr a3, loadD_pagg a25 z25, loadD_ptr a3, storeD_agg z46, hg, ↓h7', h10, ↓h11', ↓h12', ↓h13', ↓h14', ↓h15', h18, ↓h19', h23, h24, h27, h30, ↓h31', ↓h32']
           exact ⟨rfl, by kernel_rfl⟩
          ·rw [if_neg h32] at h
           have h32' : decide ((decide (v8.Old = (0 : Int))) = (decide (v8.New = (0 : Int)))) = false := decide_eq_false h32
           obtain rfl := Option.some.inj h
           simp (maxSteps := 10000000) (implicitDefEqProofs := false) (disch := first | assumption | omega | exact rfl) only [bs, rs21, ls21, Nat.reduceAdd, ↓reduceIte, binD_neq_bool Try.underlying4, lenD_lst u26, lenD_lst u53, loadD_iagg a46 z46, loadD_iptr a3, loadD_pagg a25 z25, loadD_ptr a3, storeD_agg z46, hg, ↓h7', h10, ↓h11', ↓h12', ↓h13', ↓h14', ↓h15', h18, ↓h19', h23, h24, h27, h30, ↓h31', ↓h32']
           refine ⟨rfl, ?_⟩
           exact finish_is (ds := [iv (15 : Int)]) (x := .v (.int .i64 (15 : Int))) (y := .v (.int .i64 (15 : Int))) (l := []) rfl rfl rfl rfl (by first | rfl | (simp only [wk, wks, wkL]; first | done | rfl))
         ·rw [if_neg h31] at h
          have h31' : decide (v25.Kind = v28.Kind) = false := decide_eq_false h31
          obtain rfl := Option.some.inj h
          simp (maxSteps := 10000000) (implicitDefEqProofs := false) (disch := first | assumption | omega | exact rfl) only [bs, rs21, ls21, Nat.reduceAdd, ↓reduceIte, binD_neq_bool Try.underlying4, lenD_lst u26, lenD_lst u53, loadD_iagg a46 z46, loadD_iptr a3, loadD_pagg a25 z25, loadD_ptr a3, storeD_agg z46, hg, ↓h7', h10, ↓h11', ↓h12', ↓h13', ↓h14', ↓h15', h18, ↓h19', h23, h24, h27, h30, ↓h31']
          refine ⟨rfl, ?_⟩
          exact finish_is (ds := [iv (15 : Int)]) (x := .v (.int .i64 (15 : Int))) (y := .v (.int .i64 (15 : Int))) (l := []) rfl rfl rfl rfl (by first | rfl | (simp only [wk, wks, wkL]; first | done | rfl))
      ·rw [if_neg h15] at h
       have h15' : decide ((0 : Int) < s9) = false := decide_eq_false h15
       by_cases hw_ : s9 ≤ (s2.length : Int)
       case neg => rw [if_neg hw_] at h; cases h
       rw [if_pos hw_] at h
       have h33 := hw_
       obtain ⟨r34, h35, h⟩ := Option.bind_eq_some_iff.1 h
       have h36 : ∀ H, callD (callW Try.prog A0) A0 H 41 [.p (.lst false (s2.take s9.toNat).length (encL en_Pair (s2.take s9.toNat))), iv v8.New] = some (.p (.v (.bool r34)), none) := fun H => R24_hasNew_call h35
       by_cases h37 : r34 = true
       ·rw [if_pos h37] at h
        obtain rfl := Option.some.inj h
        simp (maxSteps := 10000000) (implicitDefEqProofs := false) (disch := first | assumption | omega | exact rfl) only [bs, rs21, ls21, Nat.reduceAdd, ↓reduceIte, binD_neq_bool Try.underlying4, lenD_lst u26, lenD_lst u53, loadD_iagg a46 z46, loadD_iptr a3, loadD_pagg a25 z25, loadD_ptr a3, storeD_agg z46, hg, ↓h7', h10, ↓h11', ↓h12', ↓h13', ↓h14', ↓h15', h36, h37]
        refine ⟨rfl, ?_⟩
        exact finish_is (ds := [iv (15 : Int)]) (x := .v (.int .i64 (15 : Int))) (y := .v (.int .i64 (15 : Int))) (l := []) rfl rfl rfl rfl (by first | rfl | (simp only [wk, wks, wkL]; first | done | rfl))
       ·rw [if_neg h37] at h
        replace h37 := Bool.eq_false_iff.2 h37
        obtain ⟨v38, h39, h⟩ := Option.bind_eq_some_iff.1 h
        obtain ⟨h39a, h39b, _⟩ := rd_some h39
        have h40 := ce_59__1 h39
        obtain ⟨v41, h42, h⟩ := Option.bind_eq_some_iff.1 h
        obtain ⟨h42a, h42b, _⟩ := rd_some h42
        have h43 := ce_59__1 h42
        by_cases h44 : v38.Kind = v41.Kind
        ·rw [if_pos h44] at h
         have h44' : decide (v38.Kind = v41.Kind) = true := decide_eq_true h44
         by_cases h45 : (decide (v8.Old = (0 : Int))) = (decide (v8.New = (0 : Int)))
         ·rw [if_pos h45] at h
          have h45' : decide ((decide (v8.Old = (0 : Int))) = (decide (v8.New = (0 : Int)))) = true := decide_eq_true h45
          obtain rfl := Option.some.inj h
          simp (maxSteps := 10000000) (implicitDefEqProofs := false) (disch := first | assumption | omega | exact rfl) only [bs, rs21, ls21, Nat.reduceAdd, ↓reduceIte, binD_neq_bool Try.underlying4, lenD_lst u26, lenD_lst u53, loadD_iagg a46 z46, loadD_iptr a3, loadD_pagg a25 z25, loadD_ptr a3, storeD_agg z46, hg, ↓h7', h10, ↓h11', ↓h12', ↓h13', ↓h14', ↓h15', h36, h37, h40, h43, ↓h44', ↓h45']
          exact ⟨rfl, by kernel_rfl⟩
         ·rw [if_neg h45] at h
          have h45' : decide ((decide (v8.Old = (0 : Int))) = (decide (v8.New = (0 : Int)))) = false := decide_eq_false h45
          obtain rfl := Option.some.inj h
          simp (maxSteps := 10000000) (implicitDefEqProofs := false) (disch := first | assumption | omega | exact rfl) only [bs, rs21, ls21, Nat.reduceAdd, ↓reduceIte, binD_neq_bool Try.underlying4, lenD_lst u26, lenD_lst u53, loadD_iagg a46 z46, loadD_iptr a3, loadD_pagg a25 z25, loadD_ptr a3, storeD_agg z46, hg, ↓h7', h10, ↓h11', ↓h12', ↓h13', ↓h14', ↓h15', h36, h37, h40, h43, ↓h44', ↓h45']
          refine ⟨rfl, ?_⟩
          exact finish_is (ds := [iv (15 : Int)]) (x := .v (.int .i64 (15 : Int))) (y := .v (.int .i64 (15 : Int))) (l := []) rfl rfl rfl rfl (by first | rfl | (simp only [wk, wks, wkL]; first | done | rfl))
        ·rw [if_neg h44] at h
         have h44' : decide (v38.Kind = v41.Kind) = false := decide_eq_false h44
         obtain rfl := Option.some.inj h
         simp (maxSteps := 10000000) (implicitDefEqProofs := false) (disch := first | assumption | omega | exact rfl) only [bs, rs21, ls21, Nat.reduceAdd, ↓reduceIte, binD_neq_bool Try.underlying4, lenD_lst u26, lenD_lst u53, loadD_iagg a46 z46, loadD_iptr a3, loadD_pagg a25 z25, loadD_ptr a3, storeD_agg z46, hg, ↓h7', h10, ↓h11', ↓h12', ↓h13', ↓h14', ↓h15', h36, h37, h40, h43, ↓h44']
         refine ⟨rfl, ?_⟩
         exact finish_is (ds := [iv (15 : Int)]) (x := .v (.int .i64 (15 : Int))) (y := .v (.int .i64 (15 : Int))) (l := []) rfl rfl rfl rfl (by first | rfl | (simp only [wk, wks, wkL]; first | done | rfl))
 ·rw [if_neg h7] at h
  have h7' : decide (s9 < (s2.length : Int)) = false := decide_eq_false h7
  obtain rfl := Option.some.inj h
  simp (maxSteps := 10000000) (implicitDefEqProofs := false) (disch := first | assumption | omega | exact rfl) only [bs, rs21, ls21, Nat.reduceAdd, ↓reduceIte, binD_neq_bool Try.underlying4, lenD_lst u26, lenD_lst u53, loadD_iagg a46 z46, loadD_iptr a3, loadD_pagg a25 z25, loadD_ptr a3, storeD_agg z46, hg, ↓h7']
  exact ⟨rfl, rfl, by kernel_rfl⟩
theorem f21_ok  (x0 : Node) (x1 : Node) (x2 : (List Pair)) (r : Int) (h : R24_Check x0 x1 x2 = some r) : callW Try.prog A0 21 [.p (.agg [.v (.int .i64 x0.Kind), .v (.string x0.Text), .lst false x0.Gaps.length (encL en_str x0.Gaps), .lst false x0.Kids.length (encL en_Node x0.Kids)]), .p (.agg [.v (.int .i64 x1.Kind), .v (.string x1.Text), .lst false x1.Gaps.length (encL en_str x1.Gaps), .lst false x1.Kids.length (encL en_Node x1.Kids)]), .p (.lst false x2.length (encL en_Pair x2))] [] = some (.p (.v (.int .i64 r)), []) := by
 refine call_ofH (fn := Try.f21) (c := bodyOf Try.f21) rfl (by kernel_rfl) (by kernel_rfl) ?_
 rw [show initS Try.f21 [.p (.agg [.v (.int .i64 x0.Kind), .v (.string x0.Text), .lst false x0.Gaps.length (encL en_str x0.Gaps), .lst false x0.Kids.length (encL en_Node x0.Kids)]), .p (.agg [.v (.int .i64 x1.Kind), .v (.string x1.Text), .lst false x1.Gaps.length (encL en_str x1.Gaps), .lst false x1.Kids.length (encL en_Node x1.Kids)]), .p (.lst false x2.length (encL en_Pair x2))] [] = ⟨.p (.agg [.v (.int .i64 x0.Kind), .v (.string x0.Text), .lst false x0.Gaps.length (encL en_str x0.Gaps), .lst false x0.Kids.length (encL en_Node x0.Kids)]) :: .p (.agg [.v (.int .i64 x1.Kind), .v (.string x1.Text), .lst false x1.Gaps.length (encL en_str x1.Gaps), .lst false x1.Kids.length (encL en_Node x1.Kids)]) :: .p (.lst false x2.length (encL en_Pair x2)) :: List.replicate 106 undefD, [], 0⟩ from by kernel_rfl]
 unfold R24_Check at h
 unfold bodyOf Try.f21; simp only [Option.getD_some, loopsOf, List.append_nil, List.nil_append, List.cons_append, List.getD_cons_zero, List.getD_cons_succ]
 simp only [List.replicate]
 obtain ⟨r1, h2, h⟩ := Option.bind_eq_some_iff.1 h
 have h3 : ∀ H, callD (callW Try.prog A0) A0 H 35 [.p (.agg [.v (.int .i64 x0.Kind), .v (.string x0.Text), .lst false x0.Gaps.length (encL en_str x0.Gaps), .lst false x0.Kids.length (encL en_Node x0.Kids)])] = some (.p (.lst false r1.length (encL en_Row r1)), none) := fun H => R06_Rows_call h2
 obtain ⟨r4, h5, h⟩ := Option.bind_eq_some_iff.1 h
 have h6 : ∀ H, callD (callW Try.prog A0) A0 H 35 [.p (.agg [.v (.int .i64 x1.Kind), .v (.string x1.Text), .lst false x1.Gaps.length (encL en_str x1.Gaps), .lst false x1.Kids.length (encL en_Node x1.Kids)])] = some (.p (.lst false r4.length (encL en_Row r4)), none) := fun H => R06_Rows_call h5
 obtain ⟨o, h46, h⟩ := Option.bind_eq_some_iff.1 h
 simp (maxSteps := 10000000) (implicitDefEqProofs := false) (disch := first | assumption | omega | exact rfl) only [bs, rs21, ls21, Nat.reduceAdd, ↓reduceIte, binD_neq_bool Try.underlying4, lenD_lst u26, lenD_lst u53, loadD_iagg a46 z46, loadD_iptr a3, loadD_pagg a25 z25, loadD_ptr a3, storeD_agg z46, h3, h6]
 refine Wp.ctx (fun x => seqW _ _ _ _ (blockW _ (x))) (L21_0_ok x2 r1 r4 x0.Kind x0.Text x0.Gaps x0.Kids x1.Kind x1.Text x1.Gaps x1.Kids (0 : Int) _ o (by kernel_rfl) h46) ?_
 intro e st hq
 cases o with
 | next _ => (first | cases h | (simp at h))
 | jmp n_ s_ =>
  obtain ⟨rfl, rfl, hq⟩ := hq
  generalize s_ = s9_47 at h hq
  unfold F21_0 at hq
  (try simp only [] at h hq)
  by_cases h48 : x0.Kind = x1.Kind
  ·rw [if_pos h48] at h
   have h48' : decide (x0.Kind = x1.Kind) = true := decide_eq_true h48
   by_cases h49 : (x2.length : Int) = (0 : Int)
   ·rw [if_pos h49] at h
    have h49' : decide ((x2.length : Int) = (0 : Int)) = true := decide_eq_true h49
    obtain rfl := Option.some.inj h
    simp (maxSteps := 10000000) (implicitDefEqProofs := false) (disch := first | assumption | omega | exact rfl) only [bs, rs21, ls21, Nat.reduceAdd, ↓reduceIte, binD_neq_bool Try.underlying4, lenD_lst u26, lenD_lst u53, loadD_iagg a46 z46, loadD_iptr a3, loadD_pagg a25 z25, loadD_ptr a3, storeD_agg z46, h3, h6, hq, ↓h48', ↓h49']
    refine ⟨by first | exact .inl trivial | exact .inr trivial | simp, ?_⟩
    exact finish_is (ds := [iv (15 : Int)]) (x := .v (.int .i64 (15 : Int))) (y := .v (.int .i64 (15 : Int))) (l := []) rfl rfl rfl rfl (by first | rfl | (simp only [wk, wks, wkL]; first | done | rfl))
   ·rw [if_neg h49] at h
    have h49' : decide ((x2.length : Int) = (0 : Int)) = false := decide_eq_false h49
    obtain ⟨v50, h51, h⟩ := Option.bind_eq_some_iff.1 h
    obtain ⟨h51a, h51b, _⟩ := rd_some h51
    have h52 := ce_46__0 h51
    by_cases h53 : v50.Old = (0 : Int)
    ·rw [if_pos h53] at h
     have h53' : decide (v50.Old = (0 : Int)) = true := decide_eq_true h53
     obtain rfl := Option.some.inj h
     simp (maxSteps := 10000000) (implicitDefEqProofs := false) (disch := first | assumption | omega | exact rfl) only [bs, rs21, ls21, Nat.reduceAdd, ↓reduceIte, binD_neq_bool Try.underlying4, lenD_lst u26, lenD_lst u53, loadD_iagg a46 z46, loadD_iptr a3, loadD_pagg a25 z25, loadD_ptr a3, storeD_agg z46, h3, h6, hq, ↓h48', ↓h49', h52, ↓h53']
     refine ⟨by first | exact .inl trivial | exact .inr trivial | simp, ?_⟩
     exact finish_is (ds := [iv (0 : Int)]) (x := .v (.int .i64 (0 : Int))) (y := .v (.int .i64 (0 : Int))) (l := []) rfl rfl rfl rfl (by first | rfl | (simp only [wk, wks, wkL]; first | done | rfl))
    ·rw [if_neg h53] at h
     have h53' : decide (v50.Old = (0 : Int)) = false := decide_eq_false h53
     obtain rfl := Option.some.inj h
     simp (maxSteps := 10000000) (implicitDefEqProofs := false) (disch := first | assumption | omega | exact rfl) only [bs, rs21, ls21, Nat.reduceAdd, ↓reduceIte, binD_neq_bool Try.underlying4, lenD_lst u26, lenD_lst u53, loadD_iagg a46 z46, loadD_iptr a3, loadD_pagg a25 z25, loadD_ptr a3, storeD_agg z46, h3, h6, hq, ↓h48', ↓h49', h52, ↓h53']
     refine ⟨by first | exact .inl trivial | exact .inr trivial | simp, ?_⟩
     exact finish_is (ds := [iv (15 : Int)]) (x := .v (.int .i64 (15 : Int))) (y := .v (.int .i64 (15 : Int))) (l := []) rfl rfl rfl rfl (by first | rfl | (simp only [wk, wks, wkL]; first | done | rfl))
  ·rw [if_neg h48] at h
   have h48' : decide (x0.Kind = x1.Kind) = false := decide_eq_false h48
   obtain rfl := Option.some.inj h
   simp (maxSteps := 10000000) (implicitDefEqProofs := false) (disch := first | assumption | omega | exact rfl) only [bs, rs21, ls21, Nat.reduceAdd, ↓reduceIte, binD_neq_bool Try.underlying4, lenD_lst u26, lenD_lst u53, loadD_iagg a46 z46, loadD_iptr a3, loadD_pagg a25 z25, loadD_ptr a3, storeD_agg z46, h3, h6, hq, ↓h48']
   refine ⟨by first | exact .inl trivial | exact .inr trivial | simp, ?_⟩
   exact finish_is (ds := [iv (0 : Int)]) (x := .v (.int .i64 (0 : Int))) (y := .v (.int .i64 (0 : Int))) (l := []) rfl rfl rfl rfl (by first | rfl | (simp only [wk, wks, wkL]; first | done | rfl))
 | ret r54 =>
  obtain ⟨rfl, hq⟩ := hq
  obtain rfl := Option.some.inj h
  simp (maxSteps := 10000000) (implicitDefEqProofs := false) (disch := first | assumption | omega | exact rfl) only [bs, rs21, ls21, Nat.reduceAdd, ↓reduceIte, binD_neq_bool Try.underlying4, lenD_lst u26, lenD_lst u53, loadD_iagg a46 z46, loadD_iptr a3, loadD_pagg a25 z25, loadD_ptr a3, storeD_agg z46]
  exact ⟨by first | exact .inl trivial | exact .inr trivial | simp, hq⟩
theorem R24_Check_call {b1 b2 b3 b4 b5 : Bool} {H : List Ob} {x0 : Node} {x1 : Node} {x2 : (List Pair)} {r : Int} (h : R24_Check x0 x1 x2 = some r) : callD (callW Try.prog A0) A0 H 21 [.p (.agg [.v (.int .i64 x0.Kind), .v (.string x0.Text), .lst b1 x0.Gaps.length (encL en_str x0.Gaps), .lst b2 x0.Kids.length (encL en_Node x0.Kids)]), .p (.agg [.v (.int .i64 x1.Kind), .v (.string x1.Text), .lst b3 x1.Gaps.length (encL en_str x1.Gaps), .lst b4 x1.Kids.length (encL en_Node x1.Kids)]), .p (.lst b5 x2.length (encL en_Pair x2))] = some (.p (.v (.int .i64 r)), none) :=
  callD_fun (args := [.agg [.v (.int .i64 x0.Kind), .v (.string x0.Text), .lst b1 x0.Gaps.length (encL en_str x0.Gaps), .lst b2 x0.Kids.length (encL en_Node x0.Kids)], .agg [.v (.int .i64 x1.Kind), .v (.string x1.Text), .lst b3 x1.Gaps.length (encL en_str x1.Gaps), .lst b4 x1.Kids.length (encL en_Node x1.Kids)], .lst b5 x2.length (encL en_Pair x2)]) rfl rfl rfl (by simp only [List.map_cons, List.map_nil, wk, wks, wkL]; exact f21_ok x0 x1 x2 _ h)
def ls48 := And.intro @faI_46_0 (And.intro @faI_46_1 (@idxL_26))
noncomputable def L48_0 : Code := (loopsOf (bodyOf Try.f48)).getD 0 .skip
def g48_0 : List Ghost := [.weak [0], .keep [0, 1, 6]]
def F48_0 (s0 : (List Pair)) (s1 : Int) : Int → St := fun s6 => ⟨[.p (.lst false s0.length (encL en_Pair s0)), iv s1, .junk, .junk, .junk, .junk, iv s6, .junk, .junk, .junk, .junk, .junk, .junk, .junk, .junk, .junk, .junk, .junk, .junk, .junk, .junk, .junk, .junk, .junk, .junk], [], 0⟩
theorem L48_0_ok (s0 : (List Pair)) (s1 : Int) : ∀ s st o, ghostsD g48_0 st = some (F48_0 s0 s1 s) → iter (R24_Find_L0 s0 s1) s = some o →
    Wp (evW Try.prog A0 48 (.loop L48_0) st) (OutQ (F48_0 s0 s1) g48_0 (fun n s st => n = 0 ∧ ghostsD [.keep [0, 1, 6]] st = some (F48_0 s0 s1 s)) (fun r st => finishD Try.prog A0 48 Try.f48 st = some (.p (.tup [.v (.int .i64 r.1), .v (.bool r.2)]), [])) o) := by
 refine Wp.iter ?_
 intro s st o hg h
 generalize s = s6 at hg h
 unfold R24_Find_L0 at h
 unfold g48_0 F48_0 at hg ⊢
 (try simp only [] at h hg)
 unfold L48_0 bodyOf Try.f48; simp only [Option.getD_some, loopsOf, List.append_nil, List.nil_append, List.cons_append, List.getD_cons_zero, List.getD_cons_succ]
 by_cases h1 : s6 < (s0.length : Int)
 ·rw [if_pos h1] at h
  have h1' : decide (s6 < (s0.length : Int)) = true := decide_eq_true h1
  obtain ⟨v2, h3, h⟩ := Option.bind_eq_some_iff.1 h
  obtain ⟨h3a, h3b, _⟩ := rd_some h3
  have h4 := ce_46__0 h3
  by_cases h5 : v2.Old = s1
  ·rw [if_pos h5] at h
   have h5' : decide (v2.Old = s1) = true := decide_eq_true h5
   have h6 := ce_46__1 h3
   obtain rfl := Option.some.inj h
   simp (maxSteps := 10000000) (implicitDefEqProofs := false) (disch := first | assumption | omega | exact rfl) only [bs, rs48, ls48, Nat.reduceAdd, ↓reduceIte, lenD_lst u26, loadD_iptr a3, hg, ↓h1', h4, ↓h5', h6]
   refine ⟨rfl, ?_⟩
   exact finish_is (ds := [iv v2.New, bv true]) (x := .tup [.v (.int .i64 v2.New), .v (.bool true)]) (y := .tup [.v (.int .i64 v2.New), .v (.bool true)]) (l := []) rfl rfl rfl rfl (by first | rfl | (simp only [wk, wks, wkL]; first | done | rfl))
  ·rw [if_neg h5] at h
   have h5' : decide (v2.Old = s1) = false := decide_eq_false h5
   obtain rfl := Option.some.inj h
   simp (maxSteps := 10000000) (implicitDefEqProofs := false) (disch := first | assumption | omega | exact rfl) only [bs, rs48, ls48, Nat.reduceAdd, ↓reduceIte, lenD_lst u26, loadD_iptr a3, hg, ↓h1', h4, ↓h5']
   exact ⟨rfl, by kernel_rfl⟩
 ·rw [if_neg h1] at h
  have h1' : decide (s6 < (s0.length : Int)) = false := decide_eq_false h1
  obtain rfl := Option.some.inj h
  simp (maxSteps := 10000000) (implicitDefEqProofs := false) (disch := first | assumption | omega | exact rfl) only [bs, rs48, ls48, Nat.reduceAdd, ↓reduceIte, lenD_lst u26, loadD_iptr a3, hg, ↓h1']
  exact ⟨rfl, rfl, by kernel_rfl⟩
theorem f48_ok  (x0 : (List Pair)) (x1 : Int) (r : (Int × Bool)) (h : R24_Find x0 x1 = some r) : callW Try.prog A0 48 [.p (.lst false x0.length (encL en_Pair x0)), iv x1] [] = some (.p (.tup [.v (.int .i64 r.1), .v (.bool r.2)]), []) := by
 refine call_ofH (fn := Try.f48) (c := bodyOf Try.f48) rfl (by kernel_rfl) (by kernel_rfl) ?_
 rw [show initS Try.f48 [.p (.lst false x0.length (encL en_Pair x0)), iv x1] [] = ⟨.p (.lst false x0.length (encL en_Pair x0)) :: iv x1 :: List.replicate 23 undefD, [], 0⟩ from by kernel_rfl]
 unfold R24_Find at h
 unfold bodyOf Try.f48; simp only [Option.getD_some, loopsOf, List.append_nil, List.nil_append, List.cons_append, List.getD_cons_zero, List.getD_cons_succ]
 simp only [List.replicate]
 obtain ⟨o, h7, h⟩ := Option.bind_eq_some_iff.1 h
 simp (maxSteps := 10000000) (implicitDefEqProofs := false) (disch := first | assumption | omega | exact rfl) only [bs, rs48, ls48, Nat.reduceAdd, ↓reduceIte, lenD_lst u26, loadD_iptr a3]
 refine Wp.ctx (fun x => seqW _ _ _ _ (blockW _ (x))) (L48_0_ok x0 x1 (0 : Int) _ o (by kernel_rfl) h7) ?_
 intro e st hq
 cases o with
 | next _ => (first | cases h | (simp at h))
 | jmp n_ s_ =>
  obtain ⟨rfl, rfl, hq⟩ := hq
  generalize s_ = s6_8 at h hq
  unfold F48_0 at hq
  (try simp only [] at h hq)
  obtain rfl := Option.some.inj h
  simp (maxSteps := 10000000) (implicitDefEqProofs := false) (disch := first | assumption | omega | exact rfl) only [bs, rs48, ls48, Nat.reduceAdd, ↓reduceIte, lenD_lst u26, loadD_iptr a3, hq]
  refine ⟨by first | exact .inl trivial | exact .inr trivial | simp, ?_⟩
  exact finish_is (ds := [iv (0 : Int), bv false]) (x := .tup [.v (.int .i64 (0 : Int)), .v (.bool false)]) (y := .tup [.v (.int .i64 (0 : Int)), .v (.bool false)]) (l := []) rfl rfl rfl rfl (by first | rfl | (simp only [wk, wks, wkL]; first | done | rfl))
 | ret r9 =>
  obtain ⟨rfl, hq⟩ := hq
  obtain rfl := Option.some.inj h
  simp (maxSteps := 10000000) (implicitDefEqProofs := false) (disch := first | assumption | omega | exact rfl) only [bs, rs48, ls48, Nat.reduceAdd, ↓reduceIte, lenD_lst u26, loadD_iptr a3]
  exact ⟨by first | exact .inl trivial | exact .inr trivial | simp, hq⟩
theorem R24_Find_call {b1 : Bool} {H : List Ob} {x0 : (List Pair)} {x1 : Int} {r : (Int × Bool)} (h : R24_Find x0 x1 = some r) : callD (callW Try.prog A0) A0 H 48 [.p (.lst b1 x0.length (encL en_Pair x0)), iv x1] = some (.p (.tup [.v (.int .i64 r.1), .v (.bool r.2)]), none) :=
  callD_fun (args := [.lst b1 x0.length (encL en_Pair x0), .v (.int .i64 x1)]) rfl rfl rfl (by simp only [List.map_cons, List.map_nil, wk, wks, wkL]; exact f48_ok x0 x1 _ h)
def ls20 := And.intro @ap_38_38 (And.intro @bs_38_1 (And.intro @idxL_38 (And.intro @idxR_38 (@mk_38))))
noncomputable def L20_2 : Code := (loopsOf (bodyOf Try.f20)).getD 2 .skip
def g20_2 : List Ghost := [.own 7 1, .weak [0], .keep [0, 3, 4, 7, 8]]
def F20_2 (s0 : (List Int)) (y0 : (List Int)) : (Int × Int × (List Int)) → St := fun (s4, s8, y1) => ⟨[.p (.lst false s0.length (encL en_i64 s0)), .junk, .junk, .ref 0 0 y0.length 1, iv s4, .junk, .junk, .ref 1 0 y1.length 1, iv s8, .junk, .junk, .junk, .junk, .junk, .junk, .junk, .junk, .junk, .junk, .junk, .junk, .junk, .junk, .junk, .junk, .junk, .junk, .junk, .junk, .junk, .junk, .junk, .junk, .junk, .junk, .junk, .junk, .junk, .junk, .junk, .junk, .junk, .junk, .junk, .junk, .junk, .junk, .junk, .junk, .junk, .junk, .junk, .junk, .junk, .junk, .junk, .junk, .junk, .junk, .junk, .junk, .junk, .junk, .junk, .junk, .junk, .junk, .junk, .junk, .junk, .junk, .junk, .junk, .junk, .junk, .junk, .junk, .junk, .junk, .junk, .junk, .junk, .junk, .junk, .junk, .junk, .junk, .junk, .junk, .junk, .junk, .junk, .junk, .junk, .junk, .junk, .junk, .junk], [.arr (encL en_i64 y0), .arr (encL en_i64 y1)], 0⟩
theorem L20_2_ok (s0 : (List Int)) (y0 : (List Int)) : ∀ s st o, ghostsD g20_2 st = some (F20_2 s0 y0 s) → iter (R19_Rising_L2 s0 y0) s = some o →
    Wp (evW Try.prog A0 20 (.loop L20_2) st) (OutQ (F20_2 s0 y0) g20_2 (fun n s st => n = 4 ∧ ghostsD [.keep [0, 3, 4, 7, 8]] st = some (F20_2 s0 y0 s)) (fun r st => finishD Try.prog A0 20 Try.f20 st = some (.p (.lst false r.length (encL en_i64 r)), [])) o) := by
 refine Wp.iter ?_
 intro s st o hg h
 obtain ⟨s4, s8, y1⟩ := s
 unfold R19_Rising_L2 at h
 unfold g20_2 F20_2 at hg ⊢
 (try simp only [] at h hg)
 unfold L20_2 bodyOf Try.f20; simp only [Option.getD_some, loopsOf, List.append_nil, List.nil_append, List.cons_append, List.getD_cons_zero, List.getD_cons_succ]
 by_cases h31 : s8 < (s0.length : Int)
 ·rw [if_pos h31] at h
  have h31' : decide (s8 < (s0.length : Int)) = true := decide_eq_true h31
  obtain ⟨v32, h33, h⟩ := Option.bind_eq_some_iff.1 h
  obtain ⟨h33a, h33b, _⟩ := rd_some h33
  have h34 := ce_3_x h33
  by_cases h35 : v32 = s4
  ·rw [if_pos h35] at h
   have h35' : decide (v32 = s4) = true := decide_eq_true h35
   by_cases h36 : (y1.length : Int) = (0 : Int)
   ·rw [if_pos h36] at h
    have h36' : decide ((y1.length : Int) = (0 : Int)) = true := decide_eq_true h36
    by_cases hw_ : (y1.length + 1) * 8 ≤ 140737488355328
    case neg => rw [if_neg hw_] at h; cases h
    rw [if_pos hw_] at h
    have h38 := hw_
    have h37 : ∀ (H : List Ob) (id : Nat), apOb H id 0 y1.length 1 1 1 8 [.v (.int .i64 s8)] (some (.arr (encL en_i64 y1))) = some (.ref H.length 0 (y1 ++ [s8]).length 1, H.set id .dead ++ [.arr (encL en_i64 (y1 ++ [s8]))]) := fun H id => ap_enc (y := [s8]) en_i64_len (by first | rfl | omega) rfl (by first | (simp only [encL_cons, encL_nil, en_i64_eq, List.cons_append, List.nil_append]; done) | (simp only [encL_cons, encL_nil, en_i64_eq, List.cons_append, List.nil_append]; rfl) | rfl) (by assumption)
    obtain rfl := Option.some.inj h
    simp (maxSteps := 10000000) (implicitDefEqProofs := false) (disch := first | assumption | omega | exact rfl) only [bs, rs20, ls20, Nat.reduceAdd, ↓reduceIte, lenD_lst u38, lenD_ref u38, loadD_iptr a3, loadD_ptr a3, maxD_int, storeD_int z3, wks_nil_, hg, ↓h31', h34, ↓h35', ↓h36', h37]
    exact ⟨rfl, by kernel_rfl⟩
   ·rw [if_neg h36] at h
    have h36' : decide ((y1.length : Int) = (0 : Int)) = false := decide_eq_false h36
    obtain ⟨v39, h40, h⟩ := Option.bind_eq_some_iff.1 h
    obtain ⟨h40a, h40b, _⟩ := rd_some h40
    have h41 := ce_3_x h40
    obtain ⟨v42, h43, h⟩ := Option.bind_eq_some_iff.1 h
    obtain ⟨h43a, h43b, _⟩ := rd_some h43
    have h44 := ce_3_x h43
    obtain ⟨v45, h46, h⟩ := Option.bind_eq_some_iff.1 h
    obtain ⟨h46a, h46b, _⟩ := rd_some h46
    have h47 := ce_3_x h46
    by_cases h48 : v45 < v39
    ·rw [if_pos h48] at h
     have h48' : decide (v45 < v39) = true := decide_eq_true h48
     by_cases hw_ : (y1.length + 1) * 8 ≤ 140737488355328
     case neg => rw [if_neg hw_] at h; cases h
     rw [if_pos hw_] at h
     have h50 := hw_
     have h49 : ∀ (H : List Ob) (id : Nat), apOb H id 0 y1.length 1 1 1 8 [.v (.int .i64 s8)] (some (.arr (encL en_i64 y1))) = some (.ref H.length 0 (y1 ++ [s8]).length 1, H.set id .dead ++ [.arr (encL en_i64 (y1 ++ [s8]))]) := fun H id => ap_enc (y := [s8]) en_i64_len (by first | rfl | omega) rfl (by first | (simp only [encL_cons, encL_nil, en_i64_eq, List.cons_append, List.nil_append]; done) | (simp only [encL_cons, encL_nil, en_i64_eq, List.cons_append, List.nil_append]; rfl) | rfl) (by assumption)
     obtain rfl := Option.some.inj h
     simp (maxSteps := 10000000) (implicitDefEqProofs := false) (disch := first | assumption | omega | exact rfl) only [bs, rs20, ls20, Nat.reduceAdd, ↓reduceIte, lenD_lst u38, lenD_ref u38, loadD_iptr a3, loadD_ptr a3, maxD_int, storeD_int z3, wks_nil_, hg, ↓h31', h34, ↓h35', ↓h36', h41, h44, h47, ↓h48', h49]
     exact ⟨rfl, by kernel_rfl⟩
    ·rw [if_neg h48] at h
     have h48' : decide (v45 < v39) = false := decide_eq_false h48
     obtain rfl := Option.some.inj h
     simp (maxSteps := 10000000) (implicitDefEqProofs := false) (disch := first | assumption | omega | exact rfl) only [bs, rs20, ls20, Nat.reduceAdd, ↓reduceIte, lenD_lst u38, lenD_ref u38, loadD_iptr a3, loadD_ptr a3, maxD_int, storeD_int z3, wks_nil_, hg, ↓h31', h34, ↓h35', ↓h36', h41, h44, h47, ↓h48']
     exact ⟨rfl, by kernel_rfl⟩
  ·rw [if_neg h35] at h
   have h35' : decide (v32 = s4) = false := decide_eq_false h35
   obtain rfl := Option.some.inj h
   simp (maxSteps := 10000000) (implicitDefEqProofs := false) (disch := first | assumption | omega | exact rfl) only [bs, rs20, ls20, Nat.reduceAdd, ↓reduceIte, lenD_lst u38, lenD_ref u38, loadD_iptr a3, loadD_ptr a3, maxD_int, storeD_int z3, wks_nil_, hg, ↓h31', h34, ↓h35']
   exact ⟨rfl, by kernel_rfl⟩
 ·rw [if_neg h31] at h
  have h31' : decide (s8 < (s0.length : Int)) = false := decide_eq_false h31
  obtain rfl := Option.some.inj h
  simp (maxSteps := 10000000) (implicitDefEqProofs := false) (disch := first | assumption | omega | exact rfl) only [bs, rs20, ls20, Nat.reduceAdd, ↓reduceIte, lenD_lst u38, lenD_ref u38, loadD_iptr a3, loadD_ptr a3, maxD_int, storeD_int z3, wks_nil_, hg, ↓h31']
  exact ⟨rfl, rfl, by kernel_rfl⟩
noncomputable def L20_1 : Code := (loopsOf (bodyOf Try.f20)).getD 1 .skip
def g20_1 : List Ghost := [.weak [0], .keep [0, 3, 4, 5, 6]]
def F20_1 (s0 : (List Int)) (s4 : Int) (s5 : Int) : (Int × (List Int)) → St := fun (s6, y0) => ⟨[.p (.lst false s0.length (encL en_i64 s0)), .junk, .junk, .ref 0 0 y0.length 1, iv s4, iv s5, iv s6, .junk, .junk, .junk, .junk, .junk, .junk, .junk, .junk, .junk, .junk, .junk, .junk, .junk, .junk, .junk, .junk, .junk, .junk, .junk, .junk, .junk, .junk, .junk, .junk, .junk, .junk, .junk, .junk, .junk, .junk, .junk, .junk, .junk, .junk, .junk, .junk, .junk, .junk, .junk, .junk, .junk, .junk, .junk, .junk, .junk, .junk, .junk, .junk, .junk, .junk, .junk, .junk, .junk, .junk, .junk, .junk, .junk, .junk, .junk, .junk, .junk, .junk, .junk, .junk, .junk, .junk, .junk, .junk, .junk, .junk, .junk, .junk, .junk, .junk, .junk, .junk, .junk, .junk, .junk, .junk, .junk, .junk, .junk, .junk, .junk, .junk, .junk, .junk, .junk, .junk, .junk], [.arr (encL en_i64 y0)], 0⟩
theorem L20_1_ok (s0 : (List Int)) (s4 : Int) (s5 : Int) : ∀ s st o, ghostsD g20_1 st = some (F20_1 s0 s4 s5 s) → iter (R19_Rising_L1 s0 s4 s5) s = some o →
    Wp (evW Try.prog A0 20 (.loop L20_1) st) (OutQ (F20_1 s0 s4 s5) g20_1 (fun n s st => n = 2 ∧ ghostsD [.keep [0, 3, 4, 5, 6]] st = some (F20_1 s0 s4 s5 s)) (fun r st => finishD Try.prog A0 20 Try.f20 st = some (.p (.lst false r.length (encL en_i64 r)), [])) o) := by
 refine Wp.iter ?_
 intro s st o hg h
 obtain ⟨s6, y0⟩ := s
 unfold R19_Rising_L1 at h
 unfold g20_1 F20_1 at hg ⊢
 (try simp only [] at h hg)
 unfold L20_1 bodyOf Try.f20; simp only [Option.getD_some, loopsOf, List.append_nil, List.nil_append, List.cons_append, List.getD_cons_zero, List.getD_cons_succ]
 by_cases h8 : s6 < (s0.length : Int)
 ·rw [if_pos h8] at h
  have h8' : decide (s6 < (s0.length : Int)) = true := decide_eq_true h8
  obtain ⟨v9, h10, h⟩ := Option.bind_eq_some_iff.1 h
  obtain ⟨h10a, h10b, _⟩ := rd_some h10
  have h11 := ce_3_x h10
  obtain ⟨v12, h13, h⟩ := Option.bind_eq_some_iff.1 h
  obtain ⟨h13a, h13b, _⟩ := rd_some h13
  have h14 := ce_3_x h13
  by_cases h15 : v12 < v9
  ·rw [if_pos h15] at h
   have h15' : decide (v12 < v9) = true := decide_eq_true h15
   obtain ⟨v16, h17, h⟩ := Option.bind_eq_some_iff.1 h
   obtain ⟨h17a, h17b, _⟩ := rd_some h17
   have h18 := ce_3_x h17
   obtain ⟨v19, h20, h⟩ := Option.bind_eq_some_iff.1 h
   obtain ⟨h20a, h20b, _⟩ := rd_some h20
   have h21 := ce_3_x h20
   have h22 : ∀ (H : List Ob) (id : Nat), stdOb H id (s5.toNat * 1) (.p (.v (.int .i64 (max v16 (w64 (v19 + (1 : Int))))))) (some (.arr (encL en_i64 y0))) = some (H.set id (.arr (encL en_i64 (y0.set s5.toNat (max v16 (w64 (v19 + (1 : Int)))))))) := fun H id => std_enc0 en_i64_len h17 (by decide) (by rw [en_i64_eq, en_i64_eq]; rfl)
   have h23 : (y0.set s5.toNat (max v16 (w64 (v19 + (1 : Int))))).length = y0.length := List.length_set
   obtain rfl := Option.some.inj h
   simp (maxSteps := 10000000) (implicitDefEqProofs := false) (disch := first | assumption | omega | exact rfl) only [bs, rs20, ls20, Nat.reduceAdd, ↓reduceIte, lenD_lst u38, lenD_ref u38, loadD_iptr a3, loadD_ptr a3, maxD_int, storeD_int z3, wks_nil_, hg, ↓h8', h11, h14, ↓h15', h18, h21, h22]
   exact ⟨rfl, by simp only [List.length_set, cpL_len]; kernel_rfl⟩
  ·rw [if_neg h15] at h
   have h15' : decide (v12 < v9) = false := decide_eq_false h15
   obtain rfl := Option.some.inj h
   simp (maxSteps := 10000000) (implicitDefEqProofs := false) (disch := first | assumption | omega | exact rfl) only [bs, rs20, ls20, Nat.reduceAdd, ↓reduceIte, lenD_lst u38, lenD_ref u38, loadD_iptr a3, loadD_ptr a3, maxD_int, storeD_int z3, wks_nil_, hg, ↓h8', h11, h14, ↓h15']
   exact ⟨rfl, by kernel_rfl⟩
 ·rw [if_neg h8] at h
  have h8' : decide (s6 < (s0.length : Int)) = false := decide_eq_false h8
  obtain rfl := Option.some.inj h
  simp (maxSteps := 10000000) (implicitDefEqProofs := false) (disch := first | assumption | omega | exact rfl) only [bs, rs20, ls20, Nat.reduceAdd, ↓reduceIte, lenD_lst u38, lenD_ref u38, loadD_iptr a3, loadD_ptr a3, maxD_int, storeD_int z3, wks_nil_, hg, ↓h8']
  exact ⟨rfl, rfl, by kernel_rfl⟩
noncomputable def L20_0 : Code := (loopsOf (bodyOf Try.f20)).getD 0 .skip
def g20_0 : List Ghost := [.weak [0], .keep [0, 3, 4, 5]]
def F20_0 (s0 : (List Int)) : (Int × Int × (List Int)) → St := fun (s4, s5, y0) => ⟨[.p (.lst false s0.length (encL en_i64 s0)), .junk, .junk, .ref 0 0 y0.length 1, iv s4, iv s5, .junk, .junk, .junk, .junk, .junk, .junk, .junk, .junk, .junk, .junk, .junk, .junk, .junk, .junk, .junk, .junk, .junk, .junk, .junk, .junk, .junk, .junk, .junk, .junk, .junk, .junk, .junk, .junk, .junk, .junk, .junk, .junk, .junk, .junk, .junk, .junk, .junk, .junk, .junk, .junk, .junk, .junk, .junk, .junk, .junk, .junk, .junk, .junk, .junk, .junk, .junk, .junk, .junk, .junk, .junk, .junk, .junk, .junk, .junk, .junk, .junk, .junk, .junk, .junk, .junk, .junk, .junk, .junk, .junk, .junk, .junk, .junk, .junk, .junk, .junk, .junk, .junk, .junk, .junk, .junk, .junk, .junk, .junk, .junk, .junk, .junk, .junk, .junk, .junk, .junk, .junk, .junk], [.arr (encL en_i64 y0)], 0⟩
theorem L20_0_ok (s0 : (List Int)) : ∀ s st o, ghostsD g20_0 st = some (F20_0 s0 s) → iter (R19_Rising_L0 s0) s = some o →
    Wp (evW Try.prog A0 20 (.loop L20_0) st) (OutQ (F20_0 s0) g20_0 (fun n s st => n = 0 ∧ ghostsD [.keep [0, 3, 4, 5]] st = some (F20_0 s0 s)) (fun r st => finishD Try.prog A0 20 Try.f20 st = some (.p (.lst false r.length (encL en_i64 r)), [])) o) := by
 refine Wp.iter ?_
 intro s st o hg h
 obtain ⟨s4, s5, y0⟩ := s
 unfold R19_Rising_L0 at h
 unfold g20_0 F20_0 at hg ⊢
 (try simp only [] at h hg)
 unfold L20_0 bodyOf Try.f20; simp only [Option.getD_some, loopsOf, List.append_nil, List.nil_append, List.cons_append, List.getD_cons_zero, List.getD_cons_succ]
 by_cases h3 : (0 : Int) ≤ s5
 ·rw [if_pos h3] at h
  have h3' : decide ((0 : Int) ≤ s5) = true := decide_eq_true h3
  obtain ⟨v4, h5, h⟩ := Option.bind_eq_some_iff.1 h
  obtain ⟨h5a, h5b, _⟩ := rd_some h5
  have h6 : ∀ (H : List Ob) (id : Nat), stdOb H id (s5.toNat * 1) (.p (.v (.int .i64 (1 : Int)))) (some (.arr (encL en_i64 y0))) = some (H.set id (.arr (encL en_i64 (y0.set s5.toNat (1 : Int))))) := fun H id => std_enc0 en_i64_len h5 (by decide) (by rw [en_i64_eq, en_i64_eq]; rfl)
  have h7 : (y0.set s5.toNat (1 : Int)).length = y0.length := List.length_set
  obtain ⟨o, h24, h⟩ := Option.bind_eq_some_iff.1 h
  simp (maxSteps := 10000000) (implicitDefEqProofs := false) (disch := first | assumption | omega | exact rfl) only [bs, rs20, ls20, Nat.reduceAdd, ↓reduceIte, lenD_lst u38, lenD_ref u38, loadD_iptr a3, loadD_ptr a3, maxD_int, storeD_int z3, wks_nil_, hg, ↓h3', h6]
  refine Wp.ctx (fun x => seqW _ _ _ _ (blockW _ (seqW _ _ _ _ (blockW _ (x))))) (L20_1_ok s0 s4 s5 (w64 (s5 + (1 : Int)), (y0.set s5.toNat (1 : Int))) _ o (by unfold F20_1; simp only [List.length_set, cpL_len]; kernel_rfl) h24) ?_
  intro e st hq
  cases o with
  | next _ => (first | cases h | (simp at h))
  | jmp n_ s_ =>
   obtain ⟨rfl, rfl, hq⟩ := hq
   obtain ⟨s6_25, y0_25⟩ := s_
   unfold F20_1 at hq
   (try simp only [] at h hq)
   obtain ⟨v26, h27, h⟩ := Option.bind_eq_some_iff.1 h
   obtain ⟨h27a, h27b, _⟩ := rd_some h27
   have h28 := ce_3_x h27
   obtain rfl := Option.some.inj h
   simp (maxSteps := 10000000) (implicitDefEqProofs := false) (disch := first | assumption | omega | exact rfl) only [bs, rs20, ls20, Nat.reduceAdd, ↓reduceIte, lenD_lst u38, lenD_ref u38, loadD_iptr a3, loadD_ptr a3, maxD_int, storeD_int z3, wks_nil_, hg, ↓h3', h6, hq, h28]
   exact ⟨rfl, by kernel_rfl⟩
  | ret _ => (first | cases h | (simp at h))
 ·rw [if_neg h3] at h
  have h3' : decide ((0 : Int) ≤ s5) = false := decide_eq_false h3
  obtain rfl := Option.some.inj h
  simp (maxSteps := 10000000) (implicitDefEqProofs := false) (disch := first | assumption | omega | exact rfl) only [bs, rs20, ls20, Nat.reduceAdd, ↓reduceIte, lenD_lst u38, lenD_ref u38, loadD_iptr a3, loadD_ptr a3, maxD_int, storeD_int z3, wks_nil_, hg, ↓h3']
  exact ⟨rfl, rfl, by kernel_rfl⟩
theorem f20_ok  (x0 : (List Int)) (r : (List Int)) (h : R19_Rising x0 = some r) : callW Try.prog A0 20 [.p (.lst false x0.length (encL en_i64 x0))] [] = some (.p (.lst false r.length (encL en_i64 r)), []) := by
 refine call_ofH (fn := Try.f20) (c := bodyOf Try.f20) rfl (by kernel_rfl) (by kernel_rfl) ?_
 rw [show initS Try.f20 [.p (.lst false x0.length (encL en_i64 x0))] [] = ⟨.p (.lst false x0.length (encL en_i64 x0)) :: List.replicate 97 undefD, [], 0⟩ from by kernel_rfl]
 unfold R19_Rising at h
 unfold bodyOf Try.f20; simp only [Option.getD_some, loopsOf, List.append_nil, List.nil_append, List.cons_append, List.getD_cons_zero, List.getD_cons_succ]
 simp only [List.replicate]
 by_cases hw_ : 0 ≤ (x0.length : Int) ∧ (x0.length : Int) * 8 ≤ 140737488355328
 case neg => rw [if_neg hw_] at h; cases h
 rw [if_pos hw_] at h
 obtain ⟨h1, h2⟩ := hw_
 obtain ⟨o, h29, h⟩ := Option.bind_eq_some_iff.1 h
 simp (maxSteps := 10000000) (implicitDefEqProofs := false) (disch := first | assumption | omega | exact rfl) only [bs, rs20, ls20, Nat.reduceAdd, ↓reduceIte, lenD_lst u38, lenD_ref u38, loadD_iptr a3, loadD_ptr a3, maxD_int, storeD_int z3, wks_nil_]
 refine Wp.ctx (fun x => seqW _ _ _ _ (blockW _ (x))) (L20_0_ok x0 ((0 : Int), w64 ((x0.length : Int) - (1 : Int)), (List.replicate (x0.length : Int).toNat (0 : Int))) _ o (by kernel_rfl) h29) ?_
 intro e st hq
 cases o with
 | next _ => (first | cases h | (simp at h))
 | jmp n_ s_ =>
  obtain ⟨rfl, rfl, hq⟩ := hq
  obtain ⟨s4_30, s5_30, y0_30⟩ := s_
  unfold F20_0 at hq
  (try simp only [] at h hq)
  obtain ⟨o, h51, h⟩ := Option.bind_eq_some_iff.1 h
  simp (maxSteps := 10000000) (implicitDefEqProofs := false) (disch := first | assumption | omega | exact rfl) only [bs, rs20, ls20, Nat.reduceAdd, ↓reduceIte, lenD_lst u38, lenD_ref u38, loadD_iptr a3, loadD_ptr a3, maxD_int, storeD_int z3, wks_nil_, hq]
  refine Wp.ctx (fun x => seqW _ _ _ _ (blockW _ (x))) (L20_2_ok x0 y0_30 (s4_30, (0 : Int), ([] : List Int)) _ o (by kernel_rfl) h51) ?_
  intro e st hq
  cases o with
  | next _ => (first | cases h | (simp at h))
  | jmp n_ s_ =>
   obtain ⟨rfl, rfl, hq⟩ := hq
   obtain ⟨s4_52, s8_52, y1_52⟩ := s_
   unfold F20_2 at hq
   (try simp only [] at h hq)
   obtain rfl := Option.some.inj h
   simp (maxSteps := 10000000) (implicitDefEqProofs := false) (disch := first | assumption | omega | exact rfl) only [bs, rs20, ls20, Nat.reduceAdd, ↓reduceIte, lenD_lst u38, lenD_ref u38, loadD_iptr a3, loadD_ptr a3, maxD_int, storeD_int z3, wks_nil_, hq, hq]
   refine ⟨by first | exact .inl trivial | exact .inr trivial | simp, ?_⟩
   exact finish_is (ds := [.ref 1 0 y1_52.length 1]) (x := .lst false y1_52.length (encL en_i64 y1_52)) (y := .lst false y1_52.length (encL en_i64 y1_52)) (l := [1]) rfl rfl rfl (purify1_enc en_i64_len rfl (by first | rfl | omega)) (by first | rfl | (simp only [wk, wks, wkL]; first | done | rfl))
  | ret _ => (first | cases h | (simp at h))
 | ret _ => (first | cases h | (simp at h))
theorem R19_Rising_call {b1 : Bool} {H : List Ob} {x0 : (List Int)} {r : (List Int)} (h : R19_Rising x0 = some r) : callD (callW Try.prog A0) A0 H 20 [.p (.lst b1 x0.length (encL en_i64 x0))] = some (.p (.lst false r.length (encL en_i64 r)), none) :=
  callD_fun (args := [.lst b1 x0.length (encL en_i64 x0)]) rfl rfl rfl (by simp only [List.map_cons, List.map_nil, wk, wks, wkL]; exact f20_ok x0 _ h)
def ls40 := @idxL_38
noncomputable def L40_0 : Code := (loopsOf (bodyOf Try.f40)).getD 0 .skip
def g40_0 : List Ghost := [.weak [0], .keep [0, 1, 5]]
def F40_0 (s0 : (List Int)) (s1 : Int) : Int → St := fun s5 => ⟨[.p (.lst false s0.length (encL en_i64 s0)), iv s1, .junk, .junk, .junk, iv s5, .junk, .junk, .junk, .junk, .junk, .junk, .junk, .junk, .junk, .junk, .junk, .junk], [], 0⟩
theorem L40_0_ok (s0 : (List Int)) (s1 : Int) : ∀ s st o, ghostsD g40_0 st = some (F40_0 s0 s1 s) → iter (R27_has_L0 s0 s1) s = some o →
    Wp (evW Try.prog A0 40 (.loop L40_0) st) (OutQ (F40_0 s0 s1) g40_0 (fun n s st => n = 0 ∧ ghostsD [.keep [0, 1, 5]] st = some (F40_0 s0 s1 s)) (fun r st => finishD Try.prog A0 40 Try.f40 st = some (.p (.v (.bool r)), [])) o) := by
 refine Wp.iter ?_
 intro s st o hg h
 generalize s = s5 at hg h
 unfold R27_has_L0 at h
 unfold g40_0 F40_0 at hg ⊢
 (try simp only [] at h hg)
 unfold L40_0 bodyOf Try.f40; simp only [Option.getD_some, loopsOf, List.append_nil, List.nil_append, List.cons_append, List.getD_cons_zero, List.getD_cons_succ]
 by_cases h1 : s5 < (s0.length : Int)
 ·rw [if_pos h1] at h
  have h1' : decide (s5 < (s0.length : Int)) = true := decide_eq_true h1
  obtain ⟨v2, h3, h⟩ := Option.bind_eq_some_iff.1 h
  obtain ⟨h3a, h3b, _⟩ := rd_some h3
  have h4 := ce_3_x h3
  by_cases h5 : v2 = s1
  ·rw [if_pos h5] at h
   have h5' : decide (v2 = s1) = true := decide_eq_true h5
   obtain rfl := Option.some.inj h
   simp (maxSteps := 10000000) (implicitDefEqProofs := false) (disch := first | assumption | omega | exact rfl) only [bs, rs40, ls40, Nat.reduceAdd, ↓reduceIte, lenD_lst u38, loadD_iptr a3, hg, ↓h1', h4, ↓h5']
   refine ⟨rfl, ?_⟩
   exact finish_is (ds := [bv true]) (x := .v (.bool true)) (y := .v (.bool true)) (l := []) rfl rfl rfl rfl (by first | rfl | (simp only [wk, wks, wkL]; first | done | rfl))
  ·rw [if_neg h5] at h
   have h5' : decide (v2 = s1) = false := decide_eq_false h5
   obtain rfl := Option.some.inj h
   simp (maxSteps := 10000000) (implicitDefEqProofs := false) (disch := first | assumption | omega | exact rfl) only [bs, rs40, ls40, Nat.reduceAdd, ↓reduceIte, lenD_lst u38, loadD_iptr a3, hg, ↓h1', h4, ↓h5']
   exact ⟨rfl, by kernel_rfl⟩
 ·rw [if_neg h1] at h
  have h1' : decide (s5 < (s0.length : Int)) = false := decide_eq_false h1
  obtain rfl := Option.some.inj h
  simp (maxSteps := 10000000) (implicitDefEqProofs := false) (disch := first | assumption | omega | exact rfl) only [bs, rs40, ls40, Nat.reduceAdd, ↓reduceIte, lenD_lst u38, loadD_iptr a3, hg, ↓h1']
  exact ⟨rfl, rfl, by kernel_rfl⟩
theorem f40_ok  (x0 : (List Int)) (x1 : Int) (r : Bool) (h : R27_has x0 x1 = some r) : callW Try.prog A0 40 [.p (.lst false x0.length (encL en_i64 x0)), iv x1] [] = some (.p (.v (.bool r)), []) := by
 refine call_ofH (fn := Try.f40) (c := bodyOf Try.f40) rfl (by kernel_rfl) (by kernel_rfl) ?_
 rw [show initS Try.f40 [.p (.lst false x0.length (encL en_i64 x0)), iv x1] [] = ⟨.p (.lst false x0.length (encL en_i64 x0)) :: iv x1 :: List.replicate 16 undefD, [], 0⟩ from by kernel_rfl]
 unfold R27_has at h
 unfold bodyOf Try.f40; simp only [Option.getD_some, loopsOf, List.append_nil, List.nil_append, List.cons_append, List.getD_cons_zero, List.getD_cons_succ]
 simp only [List.replicate]
 obtain ⟨o, h6, h⟩ := Option.bind_eq_some_iff.1 h
 simp (maxSteps := 10000000) (implicitDefEqProofs := false) (disch := first | assumption | omega | exact rfl) only [bs, rs40, ls40, Nat.reduceAdd, ↓reduceIte, lenD_lst u38, loadD_iptr a3]
 refine Wp.ctx (fun x => seqW _ _ _ _ (blockW _ (x))) (L40_0_ok x0 x1 (0 : Int) _ o (by kernel_rfl) h6) ?_
 intro e st hq
 cases o with
 | next _ => (first | cases h | (simp at h))
 | jmp n_ s_ =>
  obtain ⟨rfl, rfl, hq⟩ := hq
  generalize s_ = s5_7 at h hq
  unfold F40_0 at hq
  (try simp only [] at h hq)
  obtain rfl := Option.some.inj h
  simp (maxSteps := 10000000) (implicitDefEqProofs := false) (disch := first | assumption | omega | exact rfl) only [bs, rs40, ls40, Nat.reduceAdd, ↓reduceIte, lenD_lst u38, loadD_iptr a3, hq]
  refine ⟨by first | exact .inl trivial | exact .inr trivial | simp, ?_⟩
  exact finish_is (ds := [bv false]) (x := .v (.bool false)) (y := .v (.bool false)) (l := []) rfl rfl rfl rfl (by first | rfl | (simp only [wk, wks, wkL]; first | done | rfl))
 | ret r8 =>
  obtain ⟨rfl, hq⟩ := hq
  obtain rfl := Option.some.inj h
  simp (maxSteps := 10000000) (implicitDefEqProofs := false) (disch := first | assumption | omega | exact rfl) only [bs, rs40, ls40, Nat.reduceAdd, ↓reduceIte, lenD_lst u38, loadD_iptr a3]
  exact ⟨by first | exact .inl trivial | exact .inr trivial | simp, hq⟩
theorem R27_has_call {b1 : Bool} {H : List Ob} {x0 : (List Int)} {x1 : Int} {r : Bool} (h : R27_has x0 x1 = some r) : callD (callW Try.prog A0) A0 H 40 [.p (.lst b1 x0.length (encL en_i64 x0)), iv x1] = some (.p (.v (.bool r)), none) :=
  callD_fun (args := [.lst b1 x0.length (encL en_i64 x0), .v (.int .i64 x1)]) rfl rfl rfl (by simp only [List.map_cons, List.map_nil, wk, wks, wkL]; exact f40_ok x0 x1 _ h)
def ls19 := And.intro @ap_38_38 (@bs_38_1)
noncomputable def L19_0 : Code := (loopsOf (bodyOf Try.f19)).getD 0 .skip
def g19_0 : List Ghost := [.own 4 1, .weak [0, 3], .keep [0, 3, 4, 5]]
def F19_0 (s0 : (List Int)) (s3 : (List Int)) : (Int × (List Int)) → St := fun (s5, y0) => ⟨[.p (.lst false s0.length (encL en_i64 s0)), .junk, .junk, .p (.lst false s3.length (encL en_i64 s3)), .ref 0 0 y0.length 1, iv s5, .junk, .junk, .junk, .junk, .junk, .junk, .junk, .junk, .junk, .junk, .junk, .junk, .junk, .junk, .junk, .junk, .junk], [.arr (encL en_i64 y0)], 0⟩
theorem L19_0_ok (s0 : (List Int)) (s3 : (List Int)) : ∀ s st o, ghostsD g19_0 st = some (F19_0 s0 s3 s) → iter (R27_Least_L0 s0 s3) s = some o →
    Wp (evW Try.prog A0 19 (.loop L19_0) st) (OutQ (F19_0 s0 s3) g19_0 (fun n s st => n = 0 ∧ ghostsD [.keep [0, 3, 4, 5]] st = some (F19_0 s0 s3 s)) (fun r st => finishD Try.prog A0 19 Try.f19 st = some (.p (.lst false r.length (encL en_i64 r)), [])) o) := by
 refine Wp.iter ?_
 intro s st o hg h
 obtain ⟨s5, y0⟩ := s
 unfold R27_Least_L0 at h
 unfold g19_0 F19_0 at hg ⊢
 (try simp only [] at h hg)
 unfold L19_0 bodyOf Try.f19; simp only [Option.getD_some, loopsOf, List.append_nil, List.nil_append, List.cons_append, List.getD_cons_zero, List.getD_cons_succ]
 by_cases h4 : s5 < (s0.length : Int)
 ·rw [if_pos h4] at h
  have h4' : decide (s5 < (s0.length : Int)) = true := decide_eq_true h4
  obtain ⟨r5, h6, h⟩ := Option.bind_eq_some_iff.1 h
  have h7 : ∀ H, callD (callW Try.prog A0) A0 H 40 [.p (.lst false s3.length (encL en_i64 s3)), iv s5] = some (.p (.v (.bool r5)), none) := fun H => R27_has_call h6
  by_cases h8 : r5 = true
  ·rw [if_pos h8] at h
   obtain rfl := Option.some.inj h
   simp (maxSteps := 10000000) (implicitDefEqProofs := false) (disch := first | assumption | omega | exact rfl) only [bs, rs19, ls19, Nat.reduceAdd, ↓reduceIte, lenD_lst u38, wks_nil_, hg, ↓h4', h7, h8]
   exact ⟨rfl, by kernel_rfl⟩
  ·rw [if_neg h8] at h
   replace h8 := Bool.eq_false_iff.2 h8
   by_cases hw_ : (y0.length + 1) * 8 ≤ 140737488355328
   case neg => rw [if_neg hw_] at h; cases h
   rw [if_pos hw_] at h
   have h10 := hw_
   have h9 : ∀ (H : List Ob) (id : Nat), apOb H id 0 y0.length 1 1 1 8 [.v (.int .i64 s5)] (some (.arr (encL en_i64 y0))) = some (.ref H.length 0 (y0 ++ [s5]).length 1, H.set id .dead ++ [.arr (encL en_i64 (y0 ++ [s5]))]) := fun H id => ap_enc (y := [s5]) en_i64_len (by first | rfl | omega) rfl (by first | (simp only [encL_cons, encL_nil, en_i64_eq, List.cons_append, List.nil_append]; done) | (simp only [encL_cons, encL_nil, en_i64_eq, List.cons_append, List.nil_append]; rfl) | rfl) (by assumption)
   obtain rfl := Option.some.inj h
   simp (maxSteps := 10000000) (implicitDefEqProofs := false) (disch := first | assumption | omega | exact rfl) only [bs, rs19, ls19, Nat.reduceAdd, ↓reduceIte, lenD_lst u38, wks_nil_, hg, ↓h4', h7, h8, h9]
   exact ⟨rfl, by kernel_rfl⟩
 ·rw [if_neg h4] at h
  have h4' : decide (s5 < (s0.length : Int)) = false := decide_eq_false h4
  obtain rfl := Option.some.inj h
  simp (maxSteps := 10000000) (implicitDefEqProofs := false) (disch := first | assumption | omega | exact rfl) only [bs, rs19, ls19, Nat.reduceAdd, ↓reduceIte, lenD_lst u38, wks_nil_, hg, ↓h4']
  exact ⟨rfl, rfl, by kernel_rfl⟩
theorem f19_ok  (x0 : (List Int)) (r : (List Int)) (h : R27_Least x0 = some r) : callW Try.prog A0 19 [.p (.lst false x0.length (encL en_i64 x0))] [] = some (.p (.lst false r.length (encL en_i64 r)), []) := by
 refine call_ofH (fn := Try.f19) (c := bodyOf Try.f19) rfl (by kernel_rfl) (by kernel_rfl) ?_
 rw [show initS Try.f19 [.p (.lst false x0.length (encL en_i64 x0))] [] = ⟨.p (.lst false x0.length (encL en_i64 x0)) :: List.replicate 22 undefD, [], 0⟩ from by kernel_rfl]
 unfold R27_Least at h
 unfold bodyOf Try.f19; simp only [Option.getD_some, loopsOf, List.append_nil, List.nil_append, List.cons_append, List.getD_cons_zero, List.getD_cons_succ]
 simp only [List.replicate]
 obtain ⟨r1, h2, h⟩ := Option.bind_eq_some_iff.1 h
 have h3 : ∀ H, callD (callW Try.prog A0) A0 H 20 [.p (.lst false x0.length (encL en_i64 x0))] = some (.p (.lst false r1.length (encL en_i64 r1)), none) := fun H => R19_Rising_call h2
 obtain ⟨o, h11, h⟩ := Option.bind_eq_some_iff.1 h
 simp (maxSteps := 10000000) (implicitDefEqProofs := false) (disch := first | assumption | omega | exact rfl) only [bs, rs19, ls19, Nat.reduceAdd, ↓reduceIte, lenD_lst u38, wks_nil_, h3]
 refine Wp.ctx (fun x => seqW _ _ _ _ (blockW _ (x))) (L19_0_ok x0 r1 ((0 : Int), ([] : List Int)) _ o (by kernel_rfl) h11) ?_
 intro e st hq
 cases o with
 | next _ => (first | cases h | (simp at h))
 | jmp n_ s_ =>
  obtain ⟨rfl, rfl, hq⟩ := hq
  obtain ⟨s5_12, y0_12⟩ := s_
  unfold F19_0 at hq
  (try simp only [] at h hq)
  obtain rfl := Option.some.inj h
  simp (maxSteps := 10000000) (implicitDefEqProofs := false) (disch := first | assumption | omega | exact rfl) only [bs, rs19, ls19, Nat.reduceAdd, ↓reduceIte, lenD_lst u38, wks_nil_, h3, hq]
  refine ⟨by first | exact .inl trivial | exact .inr trivial | simp, ?_⟩
  exact finish_is (ds := [.ref 0 0 y0_12.length 1]) (x := .lst false y0_12.length (encL en_i64 y0_12)) (y := .lst false y0_12.length (encL en_i64 y0_12)) (l := [0]) rfl rfl rfl (purify1_enc en_i64_len rfl (by first | rfl | omega)) (by first | rfl | (simp only [wk, wks, wkL]; first | done | rfl))
 | ret _ => (first | cases h | (simp at h))
theorem R27_Least_callp {x0 : (List Int)} {r : (List Int)} (h : R27_Least x0 = some r) : callW Try.prog A0 19 [.p (.lst false x0.length (encL en_i64 x0))] [] = some (.p (.lst false r.length (encL en_i64 r)), []) := f19_ok x0 _ h
def ls49 := And.intro @ap_38_38 (And.intro @bs_38_1 (And.intro @ex_2_0 (And.intro @ex_2_1 (And.intro @faI_59_0 (And.intro @faI_59_4 (And.intro @idxL_38 (@idxL_53)))))))
noncomputable def L49_0 : Code := (loopsOf (bodyOf Try.f49)).getD 0 .skip
def g49_0 : List Ghost := [.own 12 1, .weak [0, 1, 2], .keep [0, 1, 2, 3, 9, 10, 12, 13, 14]]
def F49_0 (s0 : (List Row)) (s1 : (List Row)) (s2 : (List Pair)) (s3 : Int) (s9 : Int) (s10 : Int) : (Int × Int × (List Int)) → St := fun (s13, s14, y0) => ⟨[.p (.lst false s0.length (encL en_Row s0)), .p (.lst false s1.length (encL en_Row s1)), .p (.lst false s2.length (encL en_Pair s2)), iv s3, .junk, .junk, .junk, .junk, .junk, iv s9, iv s10, .junk, .ref 0 0 y0.length 1, iv s13, iv s14, .junk, .junk, .junk, .junk, .junk, .junk, .junk, .junk, .junk, .junk, .junk, .junk, .junk, .junk, .junk, .junk, .junk, .junk, .junk, .junk, .junk, .junk, .junk, .junk, .junk, .junk, .junk, .junk, .junk, .junk, .junk, .junk, .junk, .junk, .junk, .junk, .junk, .junk, .junk, .junk, .junk, .junk, .junk, .junk, .junk, .junk, .junk, .junk, .junk, .junk, .junk, .junk, .junk, .junk, .junk, .junk, .junk, .junk, .junk, .junk, .junk, .junk, .junk, .junk, .junk, .junk, .junk], [.arr (encL en_i64 y0)], 0⟩
theorem L49_0_ok (s0 : (List Row)) (s1 : (List Row)) (s2 : (List Pair)) (s3 : Int) (s9 : Int) (s10 : Int) : ∀ s st o, ghostsD g49_0 st = some (F49_0 s0 s1 s2 s3 s9 s10 s) → iter (R27_reordered_L0 s0 s1 s2 s3 s9 s10) s = some o →
    Wp (evW Try.prog A0 49 (.loop L49_0) st) (OutQ (F49_0 s0 s1 s2 s3 s9 s10) g49_0 (fun n s st => n = 0 ∧ ghostsD [.keep [0, 1, 2, 3, 9, 10, 12, 13, 14]] st = some (F49_0 s0 s1 s2 s3 s9 s10 s)) (fun r st => finishD Try.prog A0 49 Try.f49 st = some (.p (.v (.bool r)), [])) o) := by
 refine Wp.iter ?_
 intro s st o hg h
 obtain ⟨s13, s14, y0⟩ := s
 unfold R27_reordered_L0 at h
 unfold g49_0 F49_0 at hg ⊢
 (try simp only [] at h hg)
 unfold L49_0 bodyOf Try.f49; simp only [Option.getD_some, loopsOf, List.append_nil, List.nil_append, List.cons_append, List.getD_cons_zero, List.getD_cons_succ]
 obtain ⟨v7, h8, h⟩ := Option.bind_eq_some_iff.1 h
 obtain ⟨h8a, h8b, _⟩ := rd_some h8
 have h9 := ce_59__4 h8
 by_cases h10 : s14 < (v7.Kids.length : Int)
 ·rw [if_pos h10] at h
  have h10' : decide (s14 < (v7.Kids.length : Int)) = true := decide_eq_true h10
  have h11 := ce_59__4 h8
  obtain ⟨v12, h13, h⟩ := Option.bind_eq_some_iff.1 h
  obtain ⟨h13a, h13b, _⟩ := rd_some h13
  have h14 := ce_3_x h13
  obtain ⟨r15, h16, h⟩ := Option.bind_eq_some_iff.1 h
  have h17 : ∀ H, callD (callW Try.prog A0) A0 H 48 [.p (.lst false s2.length (encL en_Pair s2)), iv v12] = some (.p (.tup [.v (.int .i64 r15.1), .v (.bool r15.2)]), none) := fun H => R24_Find_call h16
  by_cases h18 : r15.2 = true
  ·rw [if_pos h18] at h
   obtain ⟨v19, h20, h⟩ := Option.bind_eq_some_iff.1 h
   obtain ⟨h20a, h20b, _⟩ := rd_some h20
   have h21 := ce_59__0 h20
   by_cases h22 : v19.Parent = s10
   ·rw [if_pos h22] at h
    have h22' : decide (v19.Parent = s10) = true := decide_eq_true h22
    have h23 := ce_59__4 h8
    have h24 := ce_3_x h13
    by_cases h25 : v12 = s3
    ·rw [if_pos h25] at h
     have h25' : decide (v12 = s3) = true := decide_eq_true h25
     by_cases hw_ : (y0.length + 1) * 8 ≤ 140737488355328
     case neg => rw [if_neg hw_] at h; cases h
     rw [if_pos hw_] at h
     have h27 := hw_
     have h26 : ∀ (H : List Ob) (id : Nat), apOb H id 0 y0.length 1 1 1 8 [.v (.int .i64 r15.1)] (some (.arr (encL en_i64 y0))) = some (.ref H.length 0 (y0 ++ [r15.1]).length 1, H.set id .dead ++ [.arr (encL en_i64 (y0 ++ [r15.1]))]) := fun H id => ap_enc (y := [r15.1]) en_i64_len (by first | rfl | omega) rfl (by first | (simp only [encL_cons, encL_nil, en_i64_eq, List.cons_append, List.nil_append]; done) | (simp only [encL_cons, encL_nil, en_i64_eq, List.cons_append, List.nil_append]; rfl) | rfl) (by assumption)
     obtain rfl := Option.some.inj h
     simp (maxSteps := 10000000) (implicitDefEqProofs := false) (disch := first | assumption | omega | exact rfl) only [bs, rs49, ls49, Nat.reduceAdd, ↓reduceIte, lenD_lst u38, lenD_ref u38, loadD_iptr a3, loadD_iptr a38, wks_nil_, hg, h9, ↓h10', h11, h14, h17, h18, h21, ↓h22', h23, h24, ↓h25', h26]
     exact ⟨rfl, by kernel_rfl⟩
    ·rw [if_neg h25] at h
     have h25' : decide (v12 = s3) = false := decide_eq_false h25
     by_cases hw_ : (y0.length + 1) * 8 ≤ 140737488355328
     case neg => rw [if_neg hw_] at h; cases h
     rw [if_pos hw_] at h
     have h29 := hw_
     have h28 : ∀ (H : List Ob) (id : Nat), apOb H id 0 y0.length 1 1 1 8 [.v (.int .i64 r15.1)] (some (.arr (encL en_i64 y0))) = some (.ref H.length 0 (y0 ++ [r15.1]).length 1, H.set id .dead ++ [.arr (encL en_i64 (y0 ++ [r15.1]))]) := fun H id => ap_enc (y := [r15.1]) en_i64_len (by first | rfl | omega) rfl (by first | (simp only [encL_cons, encL_nil, en_i64_eq, List.cons_append, List.nil_append]; done) | (simp only [encL_cons, encL_nil, en_i64_eq, List.cons_append, List.nil_append]; rfl) | rfl) (by assumption)
     obtain rfl := Option.some.inj h
     simp (maxSteps := 10000000) (implicitDefEqProofs := false) (disch := first | assumption | omega | exact rfl) only [bs, rs49, ls49, Nat.reduceAdd, ↓reduceIte, lenD_lst u38, lenD_ref u38, loadD_iptr a3, loadD_iptr a38, wks_nil_, hg, h9, ↓h10', h11, h14, h17, h18, h21, ↓h22', h23, h24, ↓h25', h28]
     exact ⟨rfl, by kernel_rfl⟩
   ·rw [if_neg h22] at h
    have h22' : decide (v19.Parent = s10) = false := decide_eq_false h22
    obtain rfl := Option.some.inj h
    simp (maxSteps := 10000000) (implicitDefEqProofs := false) (disch := first | assumption | omega | exact rfl) only [bs, rs49, ls49, Nat.reduceAdd, ↓reduceIte, lenD_lst u38, lenD_ref u38, loadD_iptr a3, loadD_iptr a38, wks_nil_, hg, h9, ↓h10', h11, h14, h17, h18, h21, ↓h22']
    exact ⟨rfl, by kernel_rfl⟩
  ·rw [if_neg h18] at h
   replace h18 := Bool.eq_false_iff.2 h18
   obtain rfl := Option.some.inj h
   simp (maxSteps := 10000000) (implicitDefEqProofs := false) (disch := first | assumption | omega | exact rfl) only [bs, rs49, ls49, Nat.reduceAdd, ↓reduceIte, lenD_lst u38, lenD_ref u38, loadD_iptr a3, loadD_iptr a38, wks_nil_, hg, h9, ↓h10', h11, h14, h17, h18]
   exact ⟨rfl, by kernel_rfl⟩
 ·rw [if_neg h10] at h
  have h10' : decide (s14 < (v7.Kids.length : Int)) = false := decide_eq_false h10
  obtain rfl := Option.some.inj h
  simp (maxSteps := 10000000) (implicitDefEqProofs := false) (disch := first | assumption | omega | exact rfl) only [bs, rs49, ls49, Nat.reduceAdd, ↓reduceIte, lenD_lst u38, lenD_ref u38, loadD_iptr a3, loadD_iptr a38, wks_nil_, hg, h9, ↓h10']
  exact ⟨rfl, rfl, by kernel_rfl⟩
theorem f49_ok  (x0 : (List Row)) (x1 : (List Row)) (x2 : (List Pair)) (x3 : Int) (r : Bool) (h : R27_reordered x0 x1 x2 x3 = some r) : callW Try.prog A0 49 [.p (.lst false x0.length (encL en_Row x0)), .p (.lst false x1.length (encL en_Row x1)), .p (.lst false x2.length (encL en_Pair x2)), iv x3] [] = some (.p (.v (.bool r)), []) := by
 refine call_ofH (fn := Try.f49) (c := bodyOf Try.f49) rfl (by kernel_rfl) (by kernel_rfl) ?_
 rw [show initS Try.f49 [.p (.lst false x0.length (encL en_Row x0)), .p (.lst false x1.length (encL en_Row x1)), .p (.lst false x2.length (encL en_Pair x2)), iv x3] [] = ⟨.p (.lst false x0.length (encL en_Row x0)) :: .p (.lst false x1.length (encL en_Row x1)) :: .p (.lst false x2.length (encL en_Pair x2)) :: iv x3 :: List.replicate 78 undefD, [], 0⟩ from by kernel_rfl]
 unfold R27_reordered at h
 unfold bodyOf Try.f49; simp only [Option.getD_some, loopsOf, List.append_nil, List.nil_append, List.cons_append, List.getD_cons_zero, List.getD_cons_succ]
 simp only [List.replicate]
 obtain ⟨v1, h2, h⟩ := Option.bind_eq_some_iff.1 h
 obtain ⟨h2a, h2b, _⟩ := rd_some h2
 have h3 := ce_59__0 h2
 obtain ⟨r4, h5, h⟩ := Option.bind_eq_some_iff.1 h
 have h6 : ∀ H, callD (callW Try.prog A0) A0 H 48 [.p (.lst false x2.length (encL en_Pair x2)), iv v1.Parent] = some (.p (.tup [.v (.int .i64 r4.1), .v (.bool r4.2)]), none) := fun H => R24_Find_call h5
 obtain ⟨o, h30, h⟩ := Option.bind_eq_some_iff.1 h
 simp (maxSteps := 10000000) (implicitDefEqProofs := false) (disch := first | assumption | omega | exact rfl) only [bs, rs49, ls49, Nat.reduceAdd, ↓reduceIte, lenD_lst u38, lenD_ref u38, loadD_iptr a3, loadD_iptr a38, wks_nil_, h3, h6]
 refine Wp.ctx (fun x => seqW _ _ _ _ (blockW _ (x))) (L49_0_ok x0 x1 x2 x3 v1.Parent r4.1 ((-1 : Int), (0 : Int), ([] : List Int)) _ o (by kernel_rfl) h30) ?_
 intro e st hq
 cases o with
 | next _ => (first | cases h | (simp at h))
 | jmp n_ s_ =>
  obtain ⟨rfl, rfl, hq⟩ := hq
  obtain ⟨s13_31, s14_31, y0_31⟩ := s_
  unfold F49_0 at hq
  (try simp only [] at h hq)
  obtain ⟨r32, h33, h⟩ := Option.bind_eq_some_iff.1 h
  have h34 : callD (callW Try.prog A0) A0 [.arr (encL en_i64 y0_31)] 19 [.ref 0 0 y0_31.length 1] = some (.p (.lst false r32.length (encL en_i64 r32)), some [.frz (encL en_i64 y0_31)]) := (callD_give (args := [.lst false y0_31.length (encL en_i64 y0_31)]) (ids := [0]) rfl rfl (by rw [giveD_arr (x := y0_31) en_i64_len rfl (by first | rfl | omega)]; rw [giveD_nil]; first | rfl | (simp only [wk, wks, wkL]; rfl)) (R27_Least_callp h33)).trans rfl
  obtain ⟨r35, h36, h⟩ := Option.bind_eq_some_iff.1 h
  have h37 : ∀ H, callD (callW Try.prog A0) A0 H 40 [.p (.lst false r32.length (encL en_i64 r32)), iv s13_31] = some (.p (.v (.bool r35)), none) := fun H => R27_has_call h36
  obtain rfl := Option.some.inj h
  simp (maxSteps := 10000000) (implicitDefEqProofs := false) (disch := first | assumption | omega | exact rfl) only [bs, rs49, ls49, Nat.reduceAdd, ↓reduceIte, lenD_lst u38, lenD_ref u38, loadD_iptr a3, loadD_iptr a38, wks_nil_, h3, h6, hq, h34, h37]
  refine ⟨by first | exact .inl trivial | exact .inr trivial | simp, ?_⟩
  exact finish_is (ds := [bv r35]) (x := .v (.bool r35)) (y := .v (.bool r35)) (l := []) rfl rfl rfl rfl (by first | rfl | (simp only [wk, wks, wkL]; first | done | rfl))
 | ret _ => (first | cases h | (simp at h))
theorem R27_reordered_call {b1 b2 b3 : Bool} {H : List Ob} {x0 : (List Row)} {x1 : (List Row)} {x2 : (List Pair)} {x3 : Int} {r : Bool} (h : R27_reordered x0 x1 x2 x3 = some r) : callD (callW Try.prog A0) A0 H 49 [.p (.lst b1 x0.length (encL en_Row x0)), .p (.lst b2 x1.length (encL en_Row x1)), .p (.lst b3 x2.length (encL en_Pair x2)), iv x3] = some (.p (.v (.bool r)), none) :=
  callD_fun (args := [.lst b1 x0.length (encL en_Row x0), .lst b2 x1.length (encL en_Row x1), .lst b3 x2.length (encL en_Pair x2), .v (.int .i64 x3)]) rfl rfl rfl (by simp only [List.map_cons, List.map_nil, wk, wks, wkL]; exact f49_ok x0 x1 x2 x3 _ h)
def ls36 := And.intro @ex_2_0 (And.intro @ex_2_1 (And.intro @faI_59_0 (And.intro @faP_46_0 (And.intro @faP_46_1 (And.intro @idxL_53 (And.intro @varld_2_0_0 (@varld_2_0_1)))))))
theorem f36_ok  (x0 : (List Row)) (x1 : (List Row)) (x2 : (List Pair)) (x3 : Pair) (r : Int) (h : R27_kind x0 x1 x2 x3 = some r) : callW Try.prog A0 36 [.p (.lst false x0.length (encL en_Row x0)), .p (.lst false x1.length (encL en_Row x1)), .p (.lst false x2.length (encL en_Pair x2)), .p (.agg [.v (.int .i64 x3.Old), .v (.int .i64 x3.New)])] [] = some (.p (.v (.int .i64 r)), []) := by
 refine call_ofH (fn := Try.f36) (c := bodyOf Try.f36) rfl (by kernel_rfl) (by kernel_rfl) ?_
 rw [show initS Try.f36 [.p (.lst false x0.length (encL en_Row x0)), .p (.lst false x1.length (encL en_Row x1)), .p (.lst false x2.length (encL en_Pair x2)), .p (.agg [.v (.int .i64 x3.Old), .v (.int .i64 x3.New)])] [] = ⟨.p (.lst false x0.length (encL en_Row x0)) :: .p (.lst false x1.length (encL en_Row x1)) :: .p (.lst false x2.length (encL en_Pair x2)) :: .p (.agg [.v (.int .i64 x3.Old), .v (.int .i64 x3.New)]) :: List.replicate 39 undefD, [], 0⟩ from by kernel_rfl]
 unfold R27_kind at h
 unfold bodyOf Try.f36; simp only [Option.getD_some, loopsOf, List.append_nil, List.nil_append, List.cons_append, List.getD_cons_zero, List.getD_cons_succ]
 simp only [List.replicate]
 by_cases h1 : x3.Old = (0 : Int)
 ·rw [if_pos h1] at h
  have h1' : decide (x3.Old = (0 : Int)) = true := decide_eq_true h1
  obtain rfl := Option.some.inj h
  simp (maxSteps := 10000000) (implicitDefEqProofs := false) (disch := first | assumption | omega | exact rfl) only [bs, rs36, ls36, Nat.reduceAdd, ↓reduceIte, loadD_iptr a3, loadD_ptr a3, ↓h1']
  refine ⟨by first | exact .inl trivial | exact .inr trivial | simp, ?_⟩
  exact finish_is (ds := [iv (0 : Int)]) (x := .v (.int .i64 (0 : Int))) (y := .v (.int .i64 (0 : Int))) (l := []) rfl rfl rfl rfl (by first | rfl | (simp only [wk, wks, wkL]; first | done | rfl))
 ·rw [if_neg h1] at h
  have h1' : decide (x3.Old = (0 : Int)) = false := decide_eq_false h1
  obtain ⟨v2, h3, h⟩ := Option.bind_eq_some_iff.1 h
  obtain ⟨h3a, h3b, _⟩ := rd_some h3
  have h4 := ce_59__0 h3
  obtain ⟨r5, h6, h⟩ := Option.bind_eq_some_iff.1 h
  have h7 : ∀ H, callD (callW Try.prog A0) A0 H 48 [.p (.lst false x2.length (encL en_Pair x2)), iv v2.Parent] = some (.p (.tup [.v (.int .i64 r5.1), .v (.bool r5.2)]), none) := fun H => R24_Find_call h6
  by_cases h8 : r5.2 = true
  ·rw [if_pos h8] at h
   obtain ⟨v9, h10, h⟩ := Option.bind_eq_some_iff.1 h
   obtain ⟨h10a, h10b, _⟩ := rd_some h10
   have h11 := ce_59__0 h10
   by_cases h12 : r5.1 = v9.Parent
   ·rw [if_pos h12] at h
    have h12' : decide (r5.1 = v9.Parent) = true := decide_eq_true h12
    obtain ⟨r13, h14, h⟩ := Option.bind_eq_some_iff.1 h
    have h15 : ∀ H, callD (callW Try.prog A0) A0 H 49 [.p (.lst false x0.length (encL en_Row x0)), .p (.lst false x1.length (encL en_Row x1)), .p (.lst false x2.length (encL en_Pair x2)), iv x3.Old] = some (.p (.v (.bool r13)), none) := fun H => R27_reordered_call h14
    by_cases h16 : r13 = true
    ·rw [if_pos h16] at h
     obtain rfl := Option.some.inj h
     simp (maxSteps := 10000000) (implicitDefEqProofs := false) (disch := first | assumption | omega | exact rfl) only [bs, rs36, ls36, Nat.reduceAdd, ↓reduceIte, loadD_iptr a3, loadD_ptr a3, ↓h1', h4, h7, h8, h11, ↓h12', h15, h16]
     refine ⟨by first | exact .inl trivial | exact .inr trivial | simp, ?_⟩
     exact finish_is (ds := [iv (2 : Int)]) (x := .v (.int .i64 (2 : Int))) (y := .v (.int .i64 (2 : Int))) (l := []) rfl rfl rfl rfl (by first | rfl | (simp only [wk, wks, wkL]; first | done | rfl))
    ·rw [if_neg h16] at h
     replace h16 := Bool.eq_false_iff.2 h16
     obtain rfl := Option.some.inj h
     simp (maxSteps := 10000000) (implicitDefEqProofs := false) (disch := first | assumption | omega | exact rfl) only [bs, rs36, ls36, Nat.reduceAdd, ↓reduceIte, loadD_iptr a3, loadD_ptr a3, ↓h1', h4, h7, h8, h11, ↓h12', h15, h16]
     refine ⟨by first | exact .inl trivial | exact .inr trivial | simp, ?_⟩
     exact finish_is (ds := [iv (0 : Int)]) (x := .v (.int .i64 (0 : Int))) (y := .v (.int .i64 (0 : Int))) (l := []) rfl rfl rfl rfl (by first | rfl | (simp only [wk, wks, wkL]; first | done | rfl))
   ·rw [if_neg h12] at h
    have h12' : decide (r5.1 = v9.Parent) = false := decide_eq_false h12
    obtain rfl := Option.some.inj h
    simp (maxSteps := 10000000) (implicitDefEqProofs := false) (disch := first | assumption | omega | exact rfl) only [bs, rs36, ls36, Nat.reduceAdd, ↓reduceIte, loadD_iptr a3, loadD_ptr a3, ↓h1', h4, h7, h8, h11, ↓h12']
    refine ⟨by first | exact .inl trivial | exact .inr trivial | simp, ?_⟩
    exact finish_is (ds := [iv (1 : Int)]) (x := .v (.int .i64 (1 : Int))) (y := .v (.int .i64 (1 : Int))) (l := []) rfl rfl rfl rfl (by first | rfl | (simp only [wk, wks, wkL]; first | done | rfl))
  ·rw [if_neg h8] at h
   replace h8 := Bool.eq_false_iff.2 h8
   obtain rfl := Option.some.inj h
   simp (maxSteps := 10000000) (implicitDefEqProofs := false) (disch := first | assumption | omega | exact rfl) only [bs, rs36, ls36, Nat.reduceAdd, ↓reduceIte, loadD_iptr a3, loadD_ptr a3, ↓h1', h4, h7, h8]
   refine ⟨by first | exact .inl trivial | exact .inr trivial | simp, ?_⟩
   exact finish_is (ds := [iv (1 : Int)]) (x := .v (.int .i64 (1 : Int))) (y := .v (.int .i64 (1 : Int))) (l := []) rfl rfl rfl rfl (by first | rfl | (simp only [wk, wks, wkL]; first | done | rfl))
theorem R27_kind_call {b1 b2 b3 : Bool} {H : List Ob} {x0 : (List Row)} {x1 : (List Row)} {x2 : (List Pair)} {x3 : Pair} {r : Int} (h : R27_kind x0 x1 x2 x3 = some r) : callD (callW Try.prog A0) A0 H 36 [.p (.lst b1 x0.length (encL en_Row x0)), .p (.lst b2 x1.length (encL en_Row x1)), .p (.lst b3 x2.length (encL en_Pair x2)), .p (.agg [.v (.int .i64 x3.Old), .v (.int .i64 x3.New)])] = some (.p (.v (.int .i64 r)), none) :=
  callD_fun (args := [.lst b1 x0.length (encL en_Row x0), .lst b2 x1.length (encL en_Row x1), .lst b3 x2.length (encL en_Pair x2), .agg [.v (.int .i64 x3.Old), .v (.int .i64 x3.New)]]) rfl rfl rfl (by simp only [List.map_cons, List.map_nil, wk, wks, wkL]; exact f36_ok x0 x1 x2 x3 _ h)
def ls12 := And.intro @ap_29_29 (And.intro @bs_29_1 (And.intro @bu_44_0_1_2 (And.intro @faI_46_0 (And.intro @faI_46_1 (And.intro @idxL_26 (@varlv_4_0_4))))))
noncomputable def L12_0 : Code := (loopsOf (bodyOf Try.f12)).getD 0 .skip
def g12_0 : List Ghost := [.own 11 3, .weak [2, 9, 10], .keep [2, 9, 10, 11, 12]]
def F12_0 (s2 : (List Pair)) (s9 : (List Row)) (s10 : (List Row)) : (Int × (List Move)) → St := fun (s12, y0) => ⟨[.junk, .junk, .p (.lst false s2.length (encL en_Pair s2)), .junk, .junk, .junk, .junk, .junk, .junk, .p (.lst false s9.length (encL en_Row s9)), .p (.lst false s10.length (encL en_Row s10)), .ref 0 0 y0.length 3, iv s12, .junk, .junk, .junk, .junk, .junk, .junk, .junk, .junk, .junk, .junk, .junk, .junk, .junk, .junk, .junk, .junk, .junk, .junk, .junk, .junk, .junk, .junk, .junk, .junk, .junk, .junk, .junk, .junk, .junk, .junk, .junk, .junk, .junk, .junk, .junk, .junk, .junk, .junk, .junk, .junk, .junk, .junk, .junk, .junk], [.arr (encL en_Move y0)], 0⟩
theorem L12_0_ok (s2 : (List Pair)) (s9 : (List Row)) (s10 : (List Row)) : ∀ s st o, ghostsD g12_0 st = some (F12_0 s2 s9 s10 s) → iter (R27_Moves_L0 s2 s9 s10) s = some o →
    Wp (evW Try.prog A0 12 (.loop L12_0) st) (OutQ (F12_0 s2 s9 s10) g12_0 (fun n s st => n = 0 ∧ ghostsD [.keep [2, 9, 10, 11, 12]] st = some (F12_0 s2 s9 s10 s)) (fun r st => finishD Try.prog A0 12 Try.f12 st = some (.p (.tup [.lst false r.1.length (encL en_Move r.1), .v (.int .i64 r.2)]), [])) o) := by
 refine Wp.iter ?_
 intro s st o hg h
 obtain ⟨s12, y0⟩ := s
 unfold R27_Moves_L0 at h
 unfold g12_0 F12_0 at hg ⊢
 (try simp only [] at h hg)
 unfold L12_0 bodyOf Try.f12; simp only [Option.getD_some, loopsOf, List.append_nil, List.nil_append, List.cons_append, List.getD_cons_zero, List.getD_cons_succ]
 by_cases h11 : s12 < (s2.length : Int)
 ·rw [if_pos h11] at h
  have h11' : decide (s12 < (s2.length : Int)) = true := decide_eq_true h11
  obtain ⟨v12, h13, h⟩ := Option.bind_eq_some_iff.1 h
  obtain ⟨h13a, h13b, _⟩ := rd_some h13
  have h14 := lk_frz_46 h13
  obtain ⟨r15, h16, h⟩ := Option.bind_eq_some_iff.1 h
  have h17 : ∀ H, callD (callW Try.prog A0) A0 H 36 [.p (.lst false s9.length (encL en_Row s9)), .p (.lst false s10.length (encL en_Row s10)), .p (.lst false s2.length (encL en_Pair s2)), .p (.agg [.v (.int .i64 v12.Old), .v (.int .i64 v12.New)])] = some (.p (.v (.int .i64 r15)), none) := fun H => R27_kind_call h16
  by_cases h18 : r15 = (0 : Int)
  ·rw [if_pos h18] at h
   have h18' : decide (r15 = (0 : Int)) = true := decide_eq_true h18
   obtain rfl := Option.some.inj h
   simp (maxSteps := 10000000) (implicitDefEqProofs := false) (disch := first | assumption | omega | exact rfl) only [bs, rs12, ls12, Nat.reduceAdd, ↓reduceIte, lenD_lst u26, loadD_iagg a46 z46, loadD_iptr a3, loadD_pagg a25 z25, wks_nil_, hg, ↓h11', h14, h17, ↓h18']
   exact ⟨rfl, by kernel_rfl⟩
  ·rw [if_neg h18] at h
   have h18' : decide (r15 = (0 : Int)) = false := decide_eq_false h18
   have h19 := ce_46__0 h13
   have h20 := ce_46__1 h13
   by_cases hw_ : (y0.length + 1) * 24 ≤ 140737488355328
   case neg => rw [if_neg hw_] at h; cases h
   rw [if_pos hw_] at h
   have h22 := hw_
   have h21 : ∀ (H : List Ob) (id : Nat), apOb H id 0 y0.length 1 3 3 24 [.v (.int .i64 r15), .v (.int .i64 v12.Old), .v (.int .i64 v12.New)] (some (.arr (encL en_Move y0))) = some (.ref H.length 0 (y0 ++ [(Move.mk r15 v12.Old v12.New)]).length 3, H.set id .dead ++ [.arr (encL en_Move (y0 ++ [(Move.mk r15 v12.Old v12.New)]))]) := fun H id => ap_enc (y := [(Move.mk r15 v12.Old v12.New)]) en_Move_len (by first | rfl | omega) rfl (by first | (simp only [encL_cons, encL_nil, en_Move_eq, List.cons_append, List.nil_append]; done) | (simp only [encL_cons, encL_nil, en_Move_eq, List.cons_append, List.nil_append]; rfl) | rfl) (by assumption)
   obtain rfl := Option.some.inj h
   simp (maxSteps := 10000000) (implicitDefEqProofs := false) (disch := first | assumption | omega | exact rfl) only [bs, rs12, ls12, Nat.reduceAdd, ↓reduceIte, lenD_lst u26, loadD_iagg a46 z46, loadD_iptr a3, loadD_pagg a25 z25, wks_nil_, hg, ↓h11', h14, h17, ↓h18', h19, h20, h21]
   exact ⟨rfl, by kernel_rfl⟩
 ·rw [if_neg h11] at h
  have h11' : decide (s12 < (s2.length : Int)) = false := decide_eq_false h11
  obtain rfl := Option.some.inj h
  simp (maxSteps := 10000000) (implicitDefEqProofs := false) (disch := first | assumption | omega | exact rfl) only [bs, rs12, ls12, Nat.reduceAdd, ↓reduceIte, lenD_lst u26, loadD_iagg a46 z46, loadD_iptr a3, loadD_pagg a25 z25, wks_nil_, hg, ↓h11']
  exact ⟨rfl, rfl, by kernel_rfl⟩
theorem f12_ok  (x0 : Node) (x1 : Node) (x2 : (List Pair)) (r : ((List Move) × Int)) (h : R27_Moves x0 x1 x2 = some r) : callW Try.prog A0 12 [.p (.agg [.v (.int .i64 x0.Kind), .v (.string x0.Text), .lst false x0.Gaps.length (encL en_str x0.Gaps), .lst false x0.Kids.length (encL en_Node x0.Kids)]), .p (.agg [.v (.int .i64 x1.Kind), .v (.string x1.Text), .lst false x1.Gaps.length (encL en_str x1.Gaps), .lst false x1.Kids.length (encL en_Node x1.Kids)]), .p (.lst false x2.length (encL en_Pair x2))] [] = some (.p (.tup [.lst false r.1.length (encL en_Move r.1), .v (.int .i64 r.2)]), []) := by
 refine call_ofH (fn := Try.f12) (c := bodyOf Try.f12) rfl (by kernel_rfl) (by kernel_rfl) ?_
 rw [show initS Try.f12 [.p (.agg [.v (.int .i64 x0.Kind), .v (.string x0.Text), .lst false x0.Gaps.length (encL en_str x0.Gaps), .lst false x0.Kids.length (encL en_Node x0.Kids)]), .p (.agg [.v (.int .i64 x1.Kind), .v (.string x1.Text), .lst false x1.Gaps.length (encL en_str x1.Gaps), .lst false x1.Kids.length (encL en_Node x1.Kids)]), .p (.lst false x2.length (encL en_Pair x2))] [] = ⟨.p (.agg [.v (.int .i64 x0.Kind), .v (.string x0.Text), .lst false x0.Gaps.length (encL en_str x0.Gaps), .lst false x0.Kids.length (encL en_Node x0.Kids)]) :: .p (.agg [.v (.int .i64 x1.Kind), .v (.string x1.Text), .lst false x1.Gaps.length (encL en_str x1.Gaps), .lst false x1.Kids.length (encL en_Node x1.Kids)]) :: .p (.lst false x2.length (encL en_Pair x2)) :: List.replicate 54 undefD, [], 0⟩ from by kernel_rfl]
 unfold R27_Moves at h
 unfold bodyOf Try.f12; simp only [Option.getD_some, loopsOf, List.append_nil, List.nil_append, List.cons_append, List.getD_cons_zero, List.getD_cons_succ]
 simp only [List.replicate]
 obtain ⟨r1, h2, h⟩ := Option.bind_eq_some_iff.1 h
 have h3 : ∀ H, callD (callW Try.prog A0) A0 H 21 [.p (.agg [.v (.int .i64 x0.Kind), .v (.string x0.Text), .lst false x0.Gaps.length (encL en_str x0.Gaps), .lst false x0.Kids.length (encL en_Node x0.Kids)]), .p (.agg [.v (.int .i64 x1.Kind), .v (.string x1.Text), .lst false x1.Gaps.length (encL en_str x1.Gaps), .lst false x1.Kids.length (encL en_Node x1.Kids)]), .p (.lst false x2.length (encL en_Pair x2))] = some (.p (.v (.int .i64 r1)), none) := fun H => R24_Check_call h2
 by_cases h4 : r1 = (0 : Int)
 ·rw [if_pos h4] at h
  have h4' : decide (r1 = (0 : Int)) = true := decide_eq_true h4
  obtain ⟨r5, h6, h⟩ := Option.bind_eq_some_iff.1 h
  have h7 : ∀ H, callD (callW Try.prog A0) A0 H 35 [.p (.agg [.v (.int .i64 x0.Kind), .v (.string x0.Text), .lst false x0.Gaps.length (encL en_str x0.Gaps), .lst false x0.Kids.length (encL en_Node x0.Kids)])] = some (.p (.lst false r5.length (encL en_Row r5)), none) := fun H => R06_Rows_call h6
  obtain ⟨r8, h9, h⟩ := Option.bind_eq_some_iff.1 h
  have h10 : ∀ H, callD (callW Try.prog A0) A0 H 35 [.p (.agg [.v (.int .i64 x1.Kind), .v (.string x1.Text), .lst false x1.Gaps.length (encL en_str x1.Gaps), .lst false x1.Kids.length (encL en_Node x1.Kids)])] = some (.p (.lst false r8.length (encL en_Row r8)), none) := fun H => R06_Rows_call h9
  obtain ⟨o, h23, h⟩ := Option.bind_eq_some_iff.1 h
  simp (maxSteps := 10000000) (implicitDefEqProofs := false) (disch := first | assumption | omega | exact rfl) only [bs, rs12, ls12, Nat.reduceAdd, ↓reduceIte, lenD_lst u26, loadD_iagg a46 z46, loadD_iptr a3, loadD_pagg a25 z25, wks_nil_, h3, ↓h4', h7, h10]
  refine Wp.ctx (fun x => seqW _ _ _ _ (blockW _ (x))) (L12_0_ok x2 r5 r8 ((0 : Int), ([] : List Move)) _ o (by kernel_rfl) h23) ?_
  intro e st hq
  cases o with
  | next _ => (first | cases h | (simp at h))
  | jmp n_ s_ =>
   obtain ⟨rfl, rfl, hq⟩ := hq
   obtain ⟨s12_24, y0_24⟩ := s_
   unfold F12_0 at hq
   (try simp only [] at h hq)
   obtain rfl := Option.some.inj h
   simp (maxSteps := 10000000) (implicitDefEqProofs := false) (disch := first | assumption | omega | exact rfl) only [bs, rs12, ls12, Nat.reduceAdd, ↓reduceIte, lenD_lst u26, loadD_iagg a46 z46, loadD_iptr a3, loadD_pagg a25 z25, wks_nil_, h3, ↓h4', h7, h10, hq]
   refine ⟨by first | exact .inl trivial | exact .inr trivial | simp, ?_⟩
   exact finish_is (ds := [.ref 0 0 y0_24.length 3, iv (0 : Int)]) (x := .tup [.lst false y0_24.length (encL en_Move y0_24), .v (.int .i64 (0 : Int))]) (y := .tup [.lst false y0_24.length (encL en_Move y0_24), .v (.int .i64 (0 : Int))]) (l := [0]) rfl rfl rfl (purifyT_rp en_Move_len rfl (by first | rfl | omega)) (by first | rfl | (simp only [wk, wks, wkL]; first | done | rfl))
  | ret _ => (first | cases h | (simp at h))
 ·rw [if_neg h4] at h
  have h4' : decide (r1 = (0 : Int)) = false := decide_eq_false h4
  obtain rfl := Option.some.inj h
  simp (maxSteps := 10000000) (implicitDefEqProofs := false) (disch := first | assumption | omega | exact rfl) only [bs, rs12, ls12, Nat.reduceAdd, ↓reduceIte, lenD_lst u26, loadD_iagg a46 z46, loadD_iptr a3, loadD_pagg a25 z25, wks_nil_, h3, ↓h4']
  refine ⟨by first | exact .inl trivial | exact .inr trivial | simp, ?_⟩
  exact finish_is (ds := [.p (.lst true 0 []), iv r1]) (x := .tup [.lst true 0 [], .v (.int .i64 r1)]) (y := .tup [.lst false ([] : List Move).length (encL en_Move ([] : List Move)), .v (.int .i64 r1)]) (l := []) rfl rfl rfl rfl (by first | rfl | (simp only [wk, wks, wkL]; first | done | rfl))
theorem R27_Moves_call {b1 b2 b3 b4 b5 : Bool} {H : List Ob} {x0 : Node} {x1 : Node} {x2 : (List Pair)} {r : ((List Move) × Int)} (h : R27_Moves x0 x1 x2 = some r) : callD (callW Try.prog A0) A0 H 12 [.p (.agg [.v (.int .i64 x0.Kind), .v (.string x0.Text), .lst b1 x0.Gaps.length (encL en_str x0.Gaps), .lst b2 x0.Kids.length (encL en_Node x0.Kids)]), .p (.agg [.v (.int .i64 x1.Kind), .v (.string x1.Text), .lst b3 x1.Gaps.length (encL en_str x1.Gaps), .lst b4 x1.Kids.length (encL en_Node x1.Kids)]), .p (.lst b5 x2.length (encL en_Pair x2))] = some (.p (.tup [.lst false r.1.length (encL en_Move r.1), .v (.int .i64 r.2)]), none) :=
  callD_fun (args := [.agg [.v (.int .i64 x0.Kind), .v (.string x0.Text), .lst b1 x0.Gaps.length (encL en_str x0.Gaps), .lst b2 x0.Kids.length (encL en_Node x0.Kids)], .agg [.v (.int .i64 x1.Kind), .v (.string x1.Text), .lst b3 x1.Gaps.length (encL en_str x1.Gaps), .lst b4 x1.Kids.length (encL en_Node x1.Kids)], .lst b5 x2.length (encL en_Pair x2)]) rfl rfl rfl (by simp only [List.map_cons, List.map_nil, wk, wks, wkL]; exact f12_ok x0 x1 x2 _ h)
def ls38 := And.intro @faP_44_1 (And.intro @faP_46_0 (And.intro @rold_2_0_0 (@varld_3_0_1)))
theorem f38_ok  (x0 : Move) (c0 : Pair) (r : Bool) (h : moves_Stable_c1 x0 c0 = some r) : callW Try.prog A0 38 [.p (.agg [.v (.int .i64 x0.Kind), .v (.int .i64 x0.Old), .v (.int .i64 x0.New)]), .ptr 0 0] [.ro [iv c0.Old, iv c0.New]] = some (.p (.v (.bool r)), [.ro [iv c0.Old, iv c0.New]]) := by
 refine call_ofH (fn := Try.f38) (c := bodyOf Try.f38) rfl (by kernel_rfl) (by kernel_rfl) ?_
 rw [show initS Try.f38 [.p (.agg [.v (.int .i64 x0.Kind), .v (.int .i64 x0.Old), .v (.int .i64 x0.New)]), .ptr 0 0] [.ro [iv c0.Old, iv c0.New]] = ⟨.p (.agg [.v (.int .i64 x0.Kind), .v (.int .i64 x0.Old), .v (.int .i64 x0.New)]) :: .ptr 0 0 :: List.replicate 7 undefD, [.ro [iv c0.Old, iv c0.New]], 1⟩ from by kernel_rfl]
 unfold moves_Stable_c1 at h
 unfold bodyOf Try.f38; simp only [Option.getD_some, loopsOf, List.append_nil, List.nil_append, List.cons_append, List.getD_cons_zero, List.getD_cons_succ]
 simp only [List.replicate]
 obtain rfl := Option.some.inj h
 simp (maxSteps := 10000000) (implicitDefEqProofs := false) (disch := first | assumption | omega | exact rfl) only [bs, rs38, ls38, Nat.reduceAdd, ↓reduceIte, loadD_ptr a3]
 refine ⟨by first | exact .inl trivial | exact .inr trivial | simp, ?_⟩
 show _ = _
 kernel_rfl
theorem moves_Stable_c1_callc {x0 : Move} {c0 : Pair} {r : Bool} (h : moves_Stable_c1 x0 c0 = some r) : callW Try.prog A0 38 [.p (.agg [.v (.int .i64 x0.Kind), .v (.int .i64 x0.Old), .v (.int .i64 x0.New)]), .ptr 0 0] [.ro [iv c0.Old, iv c0.New]] = some (.p (.v (.bool r)), [.ro [iv c0.Old, iv c0.New]]) := f38_ok x0 c0 _ h
def ls50_38 := @idxL_29
noncomputable def L50_0 : Code := (loopsOf (bodyOf Try.f50)).getD 0 .skip
def g50_0 : List Ghost := [.weak [0], .keep [0, 1, 7, 8]]
def F50_38_0 (c1_0 : Pair) (s0 : (List Move)) (s7 : Int) : Int → St := fun s8 => ⟨[.p (.lst false s0.length (encL en_Move s0)), .fn (.func 38) [.ptr 0 0], .junk, .junk, .junk, .junk, .junk, iv s7, iv s8, .junk, .junk, .junk, .junk, .junk, .junk, .junk, .junk, .junk, .junk], [.ro [iv c1_0.Old, iv c1_0.New]], 1⟩
theorem L50_38_0_ok (c1_0 : Pair) (s0 : (List Move)) (s7 : Int) : ∀ s st o, ghostsD g50_0 st = some (F50_38_0 c1_0 s0 s7 s) → iter (slices_IndexFunc_L0 (fun y0_ => moves_Stable_c1 y0_ c1_0) s0 s7) s = some o →
    Wp (evW Try.prog A0 50 (.loop L50_0) st) (OutQ (F50_38_0 c1_0 s0 s7) g50_0 (fun n s st => n = 0 ∧ ghostsD [.keep [0, 1, 7, 8]] st = some (F50_38_0 c1_0 s0 s7 s)) (fun r st => finishD Try.prog A0 50 Try.f50 st = some (.p (.v (.int .i64 r)), [.ro [iv c1_0.Old, iv c1_0.New]])) o) := by
 refine Wp.iter ?_
 intro s st o hg h
 generalize s = s8 at hg h
 unfold slices_IndexFunc_L0 at h
 unfold g50_0 F50_38_0 at hg ⊢
 (try simp only [] at h hg)
 unfold L50_0 bodyOf Try.f50; simp only [Option.getD_some, loopsOf, List.append_nil, List.nil_append, List.cons_append, List.getD_cons_zero, List.getD_cons_succ]
 by_cases h1 : s8 < s7
 ·rw [if_pos h1] at h
  have h1' : decide (s8 < s7) = true := decide_eq_true h1
  obtain ⟨v2, h3, h⟩ := Option.bind_eq_some_iff.1 h
  obtain ⟨h3a, h3b, _⟩ := rd_some h3
  have h4 := lk_frz_44 h3
  obtain ⟨r5, h6, h⟩ := Option.bind_eq_some_iff.1 h
  have h7 : callD (callW Try.prog A0) A0 [.ro [iv c1_0.Old, iv c1_0.New]] 38 [.p (.agg [.v (.int .i64 v2.Kind), .v (.int .i64 v2.Old), .v (.int .i64 v2.New)]), .ptr 0 0] = some (.p (.v (.bool r5)), none) := callD_ro (ds1 := [.p (.agg [.v (.int .i64 v2.Kind), .v (.int .i64 v2.Old), .v (.int .i64 v2.New)]), .ptr 0 0]) (ds' := [.p (.agg [.v (.int .i64 v2.Kind), .v (.int .i64 v2.Old), .v (.int .i64 v2.New)]), .ptr 0 0]) (i := 0) (ids := []) (os := [.ro [iv c1_0.Old, iv c1_0.New]]) rfl rfl (by first | rfl | (simp only [giveD, wk, wks, wkL]; first | done | rfl)) (by kernel_rfl) (by kernel_rfl) (by kernel_rfl) (by kernel_rfl) (moves_Stable_c1_callc h6)
  by_cases h8 : r5 = true
  ·rw [if_pos h8] at h
   obtain rfl := Option.some.inj h
   simp (maxSteps := 10000000) (implicitDefEqProofs := false) (disch := first | assumption | omega | exact rfl) only [bs, rs50, ls50_38, Nat.reduceAdd, ↓reduceIte, lenD_lst u29, loadD_iagg a44 z44, hg, ↓h1', h4, h7, h8]
   refine ⟨rfl, ?_⟩
   show _ = _
   kernel_rfl
  ·rw [if_neg h8] at h
   replace h8 := Bool.eq_false_iff.2 h8
   obtain rfl := Option.some.inj h
   simp (maxSteps := 10000000) (implicitDefEqProofs := false) (disch := first | assumption | omega | exact rfl) only [bs, rs50, ls50_38, Nat.reduceAdd, ↓reduceIte, lenD_lst u29, loadD_iagg a44 z44, hg, ↓h1', h4, h7, h8]
   exact ⟨rfl, by kernel_rfl⟩
 ·rw [if_neg h1] at h
  have h1' : decide (s8 < s7) = false := decide_eq_false h1
  obtain rfl := Option.some.inj h
  simp (maxSteps := 10000000) (implicitDefEqProofs := false) (disch := first | assumption | omega | exact rfl) only [bs, rs50, ls50_38, Nat.reduceAdd, ↓reduceIte, lenD_lst u29, loadD_iagg a44 z44, hg, ↓h1']
  exact ⟨rfl, rfl, by kernel_rfl⟩
theorem f50_38_ok  (c1_0 : Pair) (x0 : (List Move)) (r : Int) (h : slices_IndexFunc (fun y0_ => moves_Stable_c1 y0_ c1_0) x0 = some r) : callW Try.prog A0 50 [.p (.lst false x0.length (encL en_Move x0)), .fn (.func 38) [.ptr 0 0]] [.ro [iv c1_0.Old, iv c1_0.New]] = some (.p (.v (.int .i64 r)), [.ro [iv c1_0.Old, iv c1_0.New]]) := by
 refine call_ofH (fn := Try.f50) (c := bodyOf Try.f50) rfl (by kernel_rfl) (by kernel_rfl) ?_
 rw [show initS Try.f50 [.p (.lst false x0.length (encL en_Move x0)), .fn (.func 38) [.ptr 0 0]] [.ro [iv c1_0.Old, iv c1_0.New]] = ⟨.p (.lst false x0.length (encL en_Move x0)) :: .fn (.func 38) [.ptr 0 0] :: List.replicate 17 undefD, [.ro [iv c1_0.Old, iv c1_0.New]], 1⟩ from by kernel_rfl]
 unfold slices_IndexFunc at h
 unfold bodyOf Try.f50; simp only [Option.getD_some, loopsOf, List.append_nil, List.nil_append, List.cons_append, List.getD_cons_zero, List.getD_cons_succ]
 simp only [List.replicate]
 obtain ⟨o, h9, h⟩ := Option.bind_eq_some_iff.1 h
 simp (maxSteps := 10000000) (implicitDefEqProofs := false) (disch := first | assumption | omega | exact rfl) only [bs, rs50, ls50_38, Nat.reduceAdd, ↓reduceIte, lenD_lst u29, loadD_iagg a44 z44]
 refine Wp.ctx (fun x => seqW _ _ _ _ (blockW _ (x))) (L50_38_0_ok c1_0 x0 (x0.length : Int) (0 : Int) _ o (by kernel_rfl) h9) ?_
 intro e st hq
 cases o with
 | next _ => (first | cases h | (simp at h))
 | jmp n_ s_ =>
  obtain ⟨rfl, rfl, hq⟩ := hq
  generalize s_ = s8_10 at h hq
  unfold F50_38_0 at hq
  (try simp only [] at h hq)
  obtain rfl := Option.some.inj h
  simp (maxSteps := 10000000) (implicitDefEqProofs := false) (disch := first | assumption | omega | exact rfl) only [bs, rs50, ls50_38, Nat.reduceAdd, ↓reduceIte, lenD_lst u29, loadD_iagg a44 z44, hq]
  refine ⟨by first | exact .inl trivial | exact .inr trivial | simp, ?_⟩
  show _ = _
  kernel_rfl
 | ret r11 =>
  obtain ⟨rfl, hq⟩ := hq
  obtain rfl := Option.some.inj h
  simp (maxSteps := 10000000) (implicitDefEqProofs := false) (disch := first | assumption | omega | exact rfl) only [bs, rs50, ls50_38, Nat.reduceAdd, ↓reduceIte, lenD_lst u29, loadD_iagg a44 z44]
  exact ⟨by first | exact .inl trivial | exact .inr trivial | simp, hq⟩
theorem slices_IndexFunc_38_callc {c1_0 : Pair} {x0 : (List Move)} {r : Int} (h : slices_IndexFunc (fun y0_ => moves_Stable_c1 y0_ c1_0) x0 = some r) : callW Try.prog A0 50 [.p (.lst false x0.length (encL en_Move x0)), .fn (.func 38) [.ptr 0 0]] [.ro [iv c1_0.Old, iv c1_0.New]] = some (.p (.v (.int .i64 r)), [.ro [iv c1_0.Old, iv c1_0.New]]) := f50_38_ok c1_0 x0 _ h
theorem f37_38_ok  (c1_0 : Pair) (x0 : (List Move)) (r : Bool) (h : slices_ContainsFunc (fun y0_ => moves_Stable_c1 y0_ c1_0) x0 = some r) : callW Try.prog A0 37 [.p (.lst false x0.length (encL en_Move x0)), .fn (.func 38) [.ptr 0 0]] [.ro [iv c1_0.Old, iv c1_0.New]] = some (.p (.v (.bool r)), [.ro [iv c1_0.Old, iv c1_0.New]]) := by
 refine call_ofH (fn := Try.f37) (c := bodyOf Try.f37) rfl (by kernel_rfl) (by kernel_rfl) ?_
 rw [show initS Try.f37 [.p (.lst false x0.length (encL en_Move x0)), .fn (.func 38) [.ptr 0 0]] [.ro [iv c1_0.Old, iv c1_0.New]] = ⟨.p (.lst false x0.length (encL en_Move x0)) :: .fn (.func 38) [.ptr 0 0] :: List.replicate 7 undefD, [.ro [iv c1_0.Old, iv c1_0.New]], 1⟩ from by kernel_rfl]
 unfold slices_ContainsFunc at h
 unfold bodyOf Try.f37; simp only [Option.getD_some, loopsOf, List.append_nil, List.nil_append, List.cons_append, List.getD_cons_zero, List.getD_cons_succ]
 simp only [List.replicate]
 obtain ⟨r1, h2, h⟩ := Option.bind_eq_some_iff.1 h
 have h3 : callD (callW Try.prog A0) A0 [.ro [iv c1_0.Old, iv c1_0.New]] 50 [.p (.lst false x0.length (encL en_Move x0)), .fn (.func 38) [.ptr 0 0]] = some (.p (.v (.int .i64 r1)), none) := callD_ro (ds1 := [.p (.lst false x0.length (encL en_Move x0)), .fn (.func 38) [.ptr 0 0]]) (ds' := [.p (.lst false x0.length (encL en_Move x0)), .fn (.func 38) [.ptr 0 0]]) (i := 0) (ids := []) (os := [.ro [iv c1_0.Old, iv c1_0.New]]) rfl rfl (by first | rfl | (simp only [giveD, wk, wks, wkL]; first | done | rfl)) (by kernel_rfl) (by kernel_rfl) (by kernel_rfl) (by kernel_rfl) (slices_IndexFunc_38_callc h2)
 obtain rfl := Option.some.inj h
 simp (maxSteps := 10000000) (implicitDefEqProofs := false) (disch := first | assumption | omega | exact rfl) only [bs, rs37, Nat.reduceAdd, ↓reduceIte, h3]
 refine ⟨by first | exact .inl trivial | exact .inr trivial | simp, ?_⟩
 show _ = _
 kernel_rfl
theorem slices_ContainsFunc_38_callc {c1_0 : Pair} {x0 : (List Move)} {r : Bool} (h : slices_ContainsFunc (fun y0_ => moves_Stable_c1 y0_ c1_0) x0 = some r) : callW Try.prog A0 37 [.p (.lst false x0.length (encL en_Move x0)), .fn (.func 38) [.ptr 0 0]] [.ro [iv c1_0.Old, iv c1_0.New]] = some (.p (.v (.bool r)), [.ro [iv c1_0.Old, iv c1_0.New]]) := f37_38_ok c1_0 x0 _ h
def ls13 := And.intro @al_46 (And.intro @ap_26_26 (And.intro @bs_26_1 (And.intro @ex_2_0 (And.intro @ex_2_1 (And.intro @idxL_26 (And.intro @sa_2_0_2 (And.intro @varlv_2_0_2 (@varlv_4_0_4))))))))
noncomputable def L13_0 : Code := (loopsOf (bodyOf Try.f13)).getD 0 .skip
def g13_0 : List Ghost := [.own 10 2, .weak [8, 23], .keep [8, 10, 23, 24, 25]]
def F13_0 (s8 : (List Move)) (s23 : (List Pair)) (s24 : Int) : (Int × (List Pair)) → St := fun (s25, y0) => ⟨[.junk, .junk, .junk, .junk, .junk, .junk, .junk, .junk, .p (.lst false s8.length (encL en_Move s8)), .junk, .ref 0 0 y0.length 2, .junk, .junk, .junk, .junk, .junk, .junk, .junk, .junk, .junk, .junk, .junk, .junk, .p (.lst false s23.length (encL en_Pair s23)), iv s24, iv s25, .junk, .junk, .junk, .junk, .junk, .junk, .junk, .junk, .junk, .junk, .junk, .junk, .junk], [.arr (encL en_Pair y0)], 0⟩
theorem L13_0_ok (s8 : (List Move)) (s23 : (List Pair)) (s24 : Int) : ∀ s st o, ghostsD g13_0 st = some (F13_0 s8 s23 s24 s) → iter (moves_Stable_L0 s8 s23 s24) s = some o →
    Wp (evW Try.prog A0 13 (.loop L13_0) st) (OutQ (F13_0 s8 s23 s24) g13_0 (fun n s st => n = 0 ∧ ghostsD [.keep [8, 10, 23, 24, 25]] st = some (F13_0 s8 s23 s24 s)) (fun r st => finishD Try.prog A0 13 Try.f13 st = some (.p (.tup [.lst false r.1.length (encL en_Pair r.1), .v (.int .i64 r.2)]), [])) o) := by
 refine Wp.iter ?_
 intro s st o hg h
 obtain ⟨s25, y0⟩ := s
 unfold moves_Stable_L0 at h
 unfold g13_0 F13_0 at hg ⊢
 (try simp only [] at h hg)
 unfold L13_0 bodyOf Try.f13; simp only [Option.getD_some, loopsOf, List.append_nil, List.nil_append, List.cons_append, List.getD_cons_zero, List.getD_cons_succ]
 by_cases h5 : s25 < s24
 ·rw [if_pos h5] at h
  have h5' : decide (s25 < s24) = true := decide_eq_true h5
  obtain ⟨v6, h7, h⟩ := Option.bind_eq_some_iff.1 h
  obtain ⟨h7a, h7b, _⟩ := rd_some h7
  have h8 := lk_frz_46 h7
  obtain ⟨r9, h10, h⟩ := Option.bind_eq_some_iff.1 h
  have h11 : callD (callW Try.prog A0) A0 [.arr (encL en_Pair y0), .var [iv v6.Old, iv v6.New]] 37 [.p (.lst false s8.length (encL en_Move s8)), .fn (.func 38) [.ptr 1 0]] = some (.p (.v (.bool r9)), none) := callD_ro (ds1 := [.p (.lst false s8.length (encL en_Move s8)), .fn (.func 38) [.ptr 1 0]]) (ds' := [.p (.lst false s8.length (encL en_Move s8)), .fn (.func 38) [.ptr 0 0]]) (i := 1) (ids := []) (os := [.ro [iv v6.Old, iv v6.New]]) rfl rfl (by first | rfl | (simp only [giveD, wk, wks, wkL]; first | done | rfl)) (by kernel_rfl) (by kernel_rfl) (by kernel_rfl) (by kernel_rfl) (slices_ContainsFunc_38_callc h10)
  by_cases h12 : r9 = true
  ·rw [if_pos h12] at h
   obtain rfl := Option.some.inj h
   simp (maxSteps := 10000000) (implicitDefEqProofs := false) (disch := first | assumption | omega | exact rfl) only [bs, rs13, ls13, Nat.reduceAdd, ↓reduceIte, allP, lenD_lst u26, loadD_iagg a46 z46, loadD_pagg a25 z25, loadD_pagg a46 z46, mkFn, ops_makeFunc_, storeD_agg z46, wks_nil_, hg, ↓h5', h8, h11, h12]
   exact ⟨rfl, by kernel_rfl⟩
  ·rw [if_neg h12] at h
   replace h12 := Bool.eq_false_iff.2 h12
   by_cases hw_ : (y0.length + 1) * 16 ≤ 140737488355328
   case neg => rw [if_neg hw_] at h; cases h
   rw [if_pos hw_] at h
   have h14 := hw_
   have h13 : ∀ (H : List Ob) (id : Nat), apOb H id 0 y0.length 1 2 2 16 [.v (.int .i64 v6.Old), .v (.int .i64 v6.New)] (some (.arr (encL en_Pair y0))) = some (.ref H.length 0 (y0 ++ [v6]).length 2, H.set id .dead ++ [.arr (encL en_Pair (y0 ++ [v6]))]) := fun H id => ap_enc (y := [v6]) en_Pair_len (by first | rfl | omega) rfl (by first | (simp only [encL_cons, encL_nil, en_Pair_eq, List.cons_append, List.nil_append]; done) | (simp only [encL_cons, encL_nil, en_Pair_eq, List.cons_append, List.nil_append]; rfl) | rfl) (by assumption)
   obtain rfl := Option.some.inj h
   simp (maxSteps := 10000000) (implicitDefEqProofs := false) (disch := first | assumption | omega | exact rfl) only [bs, rs13, ls13, Nat.reduceAdd, ↓reduceIte, allP, lenD_lst u26, loadD_iagg a46 z46, loadD_pagg a25 z25, loadD_pagg a46 z46, mkFn, ops_makeFunc_, storeD_agg z46, wks_nil_, hg, ↓h5', h8, h11, h12, h13]
   exact ⟨rfl, by kernel_rfl⟩
 ·rw [if_neg h5] at h
  have h5' : decide (s25 < s24) = false := decide_eq_false h5
  obtain rfl := Option.some.inj h
  simp (maxSteps := 10000000) (implicitDefEqProofs := false) (disch := first | assumption | omega | exact rfl) only [bs, rs13, ls13, Nat.reduceAdd, ↓reduceIte, allP, lenD_lst u26, loadD_iagg a46 z46, loadD_pagg a25 z25, loadD_pagg a46 z46, mkFn, ops_makeFunc_, storeD_agg z46, wks_nil_, hg, ↓h5']
  exact ⟨rfl, rfl, by kernel_rfl⟩
theorem f13_ok  (x0 : Node) (x1 : Node) (x2 : (List Pair)) (r : ((List Pair) × Int)) (h : moves_Stable x0 x1 x2 = some r) : callW Try.prog A0 13 [.p (.agg [.v (.int .i64 x0.Kind), .v (.string x0.Text), .lst false x0.Gaps.length (encL en_str x0.Gaps), .lst false x0.Kids.length (encL en_Node x0.Kids)]), .p (.agg [.v (.int .i64 x1.Kind), .v (.string x1.Text), .lst false x1.Gaps.length (encL en_str x1.Gaps), .lst false x1.Kids.length (encL en_Node x1.Kids)]), .p (.lst false x2.length (encL en_Pair x2))] [] = some (.p (.tup [.lst false r.1.length (encL en_Pair r.1), .v (.int .i64 r.2)]), []) := by
 refine call_ofH (fn := Try.f13) (c := bodyOf Try.f13) rfl (by kernel_rfl) (by kernel_rfl) ?_
 rw [show initS Try.f13 [.p (.agg [.v (.int .i64 x0.Kind), .v (.string x0.Text), .lst false x0.Gaps.length (encL en_str x0.Gaps), .lst false x0.Kids.length (encL en_Node x0.Kids)]), .p (.agg [.v (.int .i64 x1.Kind), .v (.string x1.Text), .lst false x1.Gaps.length (encL en_str x1.Gaps), .lst false x1.Kids.length (encL en_Node x1.Kids)]), .p (.lst false x2.length (encL en_Pair x2))] [] = ⟨.p (.agg [.v (.int .i64 x0.Kind), .v (.string x0.Text), .lst false x0.Gaps.length (encL en_str x0.Gaps), .lst false x0.Kids.length (encL en_Node x0.Kids)]) :: .p (.agg [.v (.int .i64 x1.Kind), .v (.string x1.Text), .lst false x1.Gaps.length (encL en_str x1.Gaps), .lst false x1.Kids.length (encL en_Node x1.Kids)]) :: .p (.lst false x2.length (encL en_Pair x2)) :: List.replicate 36 undefD, [], 0⟩ from by kernel_rfl]
 unfold moves_Stable at h
 unfold bodyOf Try.f13; simp only [Option.getD_some, loopsOf, List.append_nil, List.nil_append, List.cons_append, List.getD_cons_zero, List.getD_cons_succ]
 simp only [List.replicate]
 obtain ⟨r1, h2, h⟩ := Option.bind_eq_some_iff.1 h
 have h3 : ∀ H, callD (callW Try.prog A0) A0 H 11 [.p (.agg [.v (.int .i64 x0.Kind), .v (.string x0.Text), .lst false x0.Gaps.length (encL en_str x0.Gaps), .lst false x0.Kids.length (encL en_Node x0.Kids)]), .p (.agg [.v (.int .i64 x1.Kind), .v (.string x1.Text), .lst false x1.Gaps.length (encL en_str x1.Gaps), .lst false x1.Kids.length (encL en_Node x1.Kids)]), .p (.lst false x2.length (encL en_Pair x2))] = some (.p (.tup [.lst false r1.1.length (encL en_Move r1.1), .v (.int .i64 r1.2)]), none) := fun H => moves_Moves_call h2
 by_cases h4 : r1.2 = (0 : Int)
 ·rw [if_pos h4] at h
  have h4' : decide (r1.2 = (0 : Int)) = true := decide_eq_true h4
  obtain ⟨o, h15, h⟩ := Option.bind_eq_some_iff.1 h
  simp (maxSteps := 10000000) (implicitDefEqProofs := false) (disch := first | assumption | omega | exact rfl) only [bs, rs13, ls13, Nat.reduceAdd, ↓reduceIte, allP, lenD_lst u26, loadD_iagg a46 z46, loadD_pagg a25 z25, loadD_pagg a46 z46, mkFn, ops_makeFunc_, storeD_agg z46, wks_nil_, h3, ↓h4']
  refine Wp.ctx (fun x => seqW _ _ _ _ (blockW _ (x))) (L13_0_ok r1.1 x2 (x2.length : Int) ((0 : Int), ([] : List Pair)) _ o (by kernel_rfl) h15) ?_
  intro e st hq
  cases o with
  | next _ => (first | cases h | (simp at h))
  | jmp n_ s_ =>
   obtain ⟨rfl, rfl, hq⟩ := hq
   obtain ⟨s25_16, y0_16⟩ := s_
   unfold F13_0 at hq
   (try simp only [] at h hq)
   obtain rfl := Option.some.inj h
   simp (maxSteps := 10000000) (implicitDefEqProofs := false) (disch := first | assumption | omega | exact rfl) only [bs, rs13, ls13, Nat.reduceAdd, ↓reduceIte, allP, lenD_lst u26, loadD_iagg a46 z46, loadD_pagg a25 z25, loadD_pagg a46 z46, mkFn, ops_makeFunc_, storeD_agg z46, wks_nil_, h3, ↓h4', hq]
   refine ⟨by first | exact .inl trivial | exact .inr trivial | simp, ?_⟩
   exact finish_is (ds := [.ref 0 0 y0_16.length 2, iv (0 : Int)]) (x := .tup [.lst false y0_16.length (encL en_Pair y0_16), .v (.int .i64 (0 : Int))]) (y := .tup [.lst false y0_16.length (encL en_Pair y0_16), .v (.int .i64 (0 : Int))]) (l := [0]) rfl rfl rfl (purifyT_rp en_Pair_len rfl (by first | rfl | omega)) (by first | rfl | (simp only [wk, wks, wkL]; first | done | rfl))
  | ret _ => (first | cases h | (simp at h))
 ·rw [if_neg h4] at h
  have h4' : decide (r1.2 = (0 : Int)) = false := decide_eq_false h4
  obtain rfl := Option.some.inj h
  simp (maxSteps := 10000000) (implicitDefEqProofs := false) (disch := first | assumption | omega | exact rfl) only [bs, rs13, ls13, Nat.reduceAdd, ↓reduceIte, allP, lenD_lst u26, loadD_iagg a46 z46, loadD_pagg a25 z25, loadD_pagg a46 z46, mkFn, ops_makeFunc_, storeD_agg z46, wks_nil_, h3, ↓h4']
  refine ⟨by first | exact .inl trivial | exact .inr trivial | simp, ?_⟩
  exact finish_is (ds := [.p (.lst true 0 []), iv r1.2]) (x := .tup [.lst true 0 [], .v (.int .i64 r1.2)]) (y := .tup [.lst false ([] : List Pair).length (encL en_Pair ([] : List Pair)), .v (.int .i64 r1.2)]) (l := []) rfl rfl rfl rfl (by first | rfl | (simp only [wk, wks, wkL]; first | done | rfl))
theorem moves_Stable_call {b1 b2 b3 b4 b5 : Bool} {H : List Ob} {x0 : Node} {x1 : Node} {x2 : (List Pair)} {r : ((List Pair) × Int)} (h : moves_Stable x0 x1 x2 = some r) : callD (callW Try.prog A0) A0 H 13 [.p (.agg [.v (.int .i64 x0.Kind), .v (.string x0.Text), .lst b1 x0.Gaps.length (encL en_str x0.Gaps), .lst b2 x0.Kids.length (encL en_Node x0.Kids)]), .p (.agg [.v (.int .i64 x1.Kind), .v (.string x1.Text), .lst b3 x1.Gaps.length (encL en_str x1.Gaps), .lst b4 x1.Kids.length (encL en_Node x1.Kids)]), .p (.lst b5 x2.length (encL en_Pair x2))] = some (.p (.tup [.lst false r.1.length (encL en_Pair r.1), .v (.int .i64 r.2)]), none) :=
  callD_fun (args := [.agg [.v (.int .i64 x0.Kind), .v (.string x0.Text), .lst b1 x0.Gaps.length (encL en_str x0.Gaps), .lst b2 x0.Kids.length (encL en_Node x0.Kids)], .agg [.v (.int .i64 x1.Kind), .v (.string x1.Text), .lst b3 x1.Gaps.length (encL en_str x1.Gaps), .lst b4 x1.Kids.length (encL en_Node x1.Kids)], .lst b5 x2.length (encL en_Pair x2)]) rfl rfl rfl (by simp only [List.map_cons, List.map_nil, wk, wks, wkL]; exact f13_ok x0 x1 x2 _ h)
def ls14 := And.intro @ap_26_26 (And.intro @bs_26_1 (And.intro @idxL_26 (@varlv_4_0_4)))
noncomputable def L14_0 : Code := (loopsOf (bodyOf Try.f14)).getD 0 .skip
def g14_0 : List Ghost := [.own 11 2, .weak [2, 9, 10], .keep [2, 9, 10, 11, 12]]
def F14_0 (s2 : (List Pair)) (s9 : (List Row)) (s10 : (List Row)) : (Int × (List Pair)) → St := fun (s12, y0) => ⟨[.junk, .junk, .p (.lst false s2.length (encL en_Pair s2)), .junk, .junk, .junk, .junk, .junk, .junk, .p (.lst false s9.length (encL en_Row s9)), .p (.lst false s10.length (encL en_Row s10)), .ref 0 0 y0.length 2, iv s12, .junk, .junk, .junk, .junk, .junk, .junk, .junk, .junk, .junk, .junk, .junk, .junk, .junk, .junk, .junk, .junk, .junk, .junk, .junk, .junk, .junk, .junk, .junk, .junk, .junk, .junk, .junk, .junk, .junk, .junk, .junk, .junk, .junk, .junk], [.arr (encL en_Pair y0)], 0⟩
theorem L14_0_ok (s2 : (List Pair)) (s9 : (List Row)) (s10 : (List Row)) : ∀ s st o, ghostsD g14_0 st = some (F14_0 s2 s9 s10 s) → iter (R27_Stable_L0 s2 s9 s10) s = some o →
    Wp (evW Try.prog A0 14 (.loop L14_0) st) (OutQ (F14_0 s2 s9 s10) g14_0 (fun n s st => n = 0 ∧ ghostsD [.keep [2, 9, 10, 11, 12]] st = some (F14_0 s2 s9 s10 s)) (fun r st => finishD Try.prog A0 14 Try.f14 st = some (.p (.tup [.lst false r.1.length (encL en_Pair r.1), .v (.int .i64 r.2)]), [])) o) := by
 refine Wp.iter ?_
 intro s st o hg h
 obtain ⟨s12, y0⟩ := s
 unfold R27_Stable_L0 at h
 unfold g14_0 F14_0 at hg ⊢
 (try simp only [] at h hg)
 unfold L14_0 bodyOf Try.f14; simp only [Option.getD_some, loopsOf, List.append_nil, List.nil_append, List.cons_append, List.getD_cons_zero, List.getD_cons_succ]
 by_cases h11 : s12 < (s2.length : Int)
 ·rw [if_pos h11] at h
  have h11' : decide (s12 < (s2.length : Int)) = true := decide_eq_true h11
  obtain ⟨v12, h13, h⟩ := Option.bind_eq_some_iff.1 h
  obtain ⟨h13a, h13b, _⟩ := rd_some h13
  have h14 := lk_frz_46 h13
  obtain ⟨r15, h16, h⟩ := Option.bind_eq_some_iff.1 h
  have h17 : ∀ H, callD (callW Try.prog A0) A0 H 36 [.p (.lst false s9.length (encL en_Row s9)), .p (.lst false s10.length (encL en_Row s10)), .p (.lst false s2.length (encL en_Pair s2)), .p (.agg [.v (.int .i64 v12.Old), .v (.int .i64 v12.New)])] = some (.p (.v (.int .i64 r15)), none) := fun H => R27_kind_call h16
  by_cases h18 : r15 = (0 : Int)
  ·rw [if_pos h18] at h
   have h18' : decide (r15 = (0 : Int)) = true := decide_eq_true h18
   have h19 := lk_frz_46 h13
   by_cases hw_ : (y0.length + 1) * 16 ≤ 140737488355328
   case neg => rw [if_neg hw_] at h; cases h
   rw [if_pos hw_] at h
   have h21 := hw_
   have h20 : ∀ (H : List Ob) (id : Nat), apOb H id 0 y0.length 1 2 2 16 [.v (.int .i64 v12.Old), .v (.int .i64 v12.New)] (some (.arr (encL en_Pair y0))) = some (.ref H.length 0 (y0 ++ [v12]).length 2, H.set id .dead ++ [.arr (encL en_Pair (y0 ++ [v12]))]) := fun H id => ap_enc (y := [v12]) en_Pair_len (by first | rfl | omega) rfl (by first | (simp only [encL_cons, encL_nil, en_Pair_eq, List.cons_append, List.nil_append]; done) | (simp only [encL_cons, encL_nil, en_Pair_eq, List.cons_append, List.nil_append]; rfl) | rfl) (by assumption)
   obtain rfl := Option.some.inj h
   simp (maxSteps := 10000000) (implicitDefEqProofs := false) (disch := first | assumption | omega | exact rfl) only [bs, rs14, ls14, Nat.reduceAdd, ↓reduceIte, lenD_lst u26, loadD_iagg a46 z46, loadD_pagg a25 z25, wks_nil_, hg, ↓h11', h14, h17, ↓h18', h19, h20]
   exact ⟨rfl, by kernel_rfl⟩
  ·rw [if_neg h18] at h
   have h18' : decide (r15 = (0 : Int)) = false := decide_eq_false h18
   obtain rfl := Option.some.inj h
   simp (maxSteps := 10000000) (implicitDefEqProofs := false) (disch := first | assumption | omega | exact rfl) only [bs, rs14, ls14, Nat.reduceAdd, ↓reduceIte, lenD_lst u26, loadD_iagg a46 z46, loadD_pagg a25 z25, wks_nil_, hg, ↓h11', h14, h17, ↓h18']
   exact ⟨rfl, by kernel_rfl⟩
 ·rw [if_neg h11] at h
  have h11' : decide (s12 < (s2.length : Int)) = false := decide_eq_false h11
  obtain rfl := Option.some.inj h
  simp (maxSteps := 10000000) (implicitDefEqProofs := false) (disch := first | assumption | omega | exact rfl) only [bs, rs14, ls14, Nat.reduceAdd, ↓reduceIte, lenD_lst u26, loadD_iagg a46 z46, loadD_pagg a25 z25, wks_nil_, hg, ↓h11']
  exact ⟨rfl, rfl, by kernel_rfl⟩
theorem f14_ok  (x0 : Node) (x1 : Node) (x2 : (List Pair)) (r : ((List Pair) × Int)) (h : R27_Stable x0 x1 x2 = some r) : callW Try.prog A0 14 [.p (.agg [.v (.int .i64 x0.Kind), .v (.string x0.Text), .lst false x0.Gaps.length (encL en_str x0.Gaps), .lst false x0.Kids.length (encL en_Node x0.Kids)]), .p (.agg [.v (.int .i64 x1.Kind), .v (.string x1.Text), .lst false x1.Gaps.length (encL en_str x1.Gaps), .lst false x1.Kids.length (encL en_Node x1.Kids)]), .p (.lst false x2.length (encL en_Pair x2))] [] = some (.p (.tup [.lst false r.1.length (encL en_Pair r.1), .v (.int .i64 r.2)]), []) := by
 refine call_ofH (fn := Try.f14) (c := bodyOf Try.f14) rfl (by kernel_rfl) (by kernel_rfl) ?_
 rw [show initS Try.f14 [.p (.agg [.v (.int .i64 x0.Kind), .v (.string x0.Text), .lst false x0.Gaps.length (encL en_str x0.Gaps), .lst false x0.Kids.length (encL en_Node x0.Kids)]), .p (.agg [.v (.int .i64 x1.Kind), .v (.string x1.Text), .lst false x1.Gaps.length (encL en_str x1.Gaps), .lst false x1.Kids.length (encL en_Node x1.Kids)]), .p (.lst false x2.length (encL en_Pair x2))] [] = ⟨.p (.agg [.v (.int .i64 x0.Kind), .v (.string x0.Text), .lst false x0.Gaps.length (encL en_str x0.Gaps), .lst false x0.Kids.length (encL en_Node x0.Kids)]) :: .p (.agg [.v (.int .i64 x1.Kind), .v (.string x1.Text), .lst false x1.Gaps.length (encL en_str x1.Gaps), .lst false x1.Kids.length (encL en_Node x1.Kids)]) :: .p (.lst false x2.length (encL en_Pair x2)) :: List.replicate 44 undefD, [], 0⟩ from by kernel_rfl]
 unfold R27_Stable at h
 unfold bodyOf Try.f14; simp only [Option.getD_some, loopsOf, List.append_nil, List.nil_append, List.cons_append, List.getD_cons_zero, List.getD_cons_succ]
 simp only [List.replicate]
 obtain ⟨r1, h2, h⟩ := Option.bind_eq_some_iff.1 h
 have h3 : ∀ H, callD (callW Try.prog A0) A0 H 21 [.p (.agg [.v (.int .i64 x0.Kind), .v (.string x0.Text), .lst false x0.Gaps.length (encL en_str x0.Gaps), .lst false x0.Kids.length (encL en_Node x0.Kids)]), .p (.agg [.v (.int .i64 x1.Kind), .v (.string x1.Text), .lst false x1.Gaps.length (encL en_str x1.Gaps), .lst false x1.Kids.length (encL en_Node x1.Kids)]), .p (.lst false x2.length (encL en_Pair x2))] = some (.p (.v (.int .i64 r1)), none) := fun H => R24_Check_call h2
 by_cases h4 : r1 = (0 : Int)
 ·rw [if_pos h4] at h
  have h4' : decide (r1 = (0 : Int)) = true := decide_eq_true h4
  obtain ⟨r5, h6, h⟩ := Option.bind_eq_some_iff.1 h
  have h7 : ∀ H, callD (callW Try.prog A0) A0 H 35 [.p (.agg [.v (.int .i64 x0.Kind), .v (.string x0.Text), .lst false x0.Gaps.length (encL en_str x0.Gaps), .lst false x0.Kids.length (encL en_Node x0.Kids)])] = some (.p (.lst false r5.length (encL en_Row r5)), none) := fun H => R06_Rows_call h6
  obtain ⟨r8, h9, h⟩ := Option.bind_eq_some_iff.1 h
  have h10 : ∀ H, callD (callW Try.prog A0) A0 H 35 [.p (.agg [.v (.int .i64 x1.Kind), .v (.string x1.Text), .lst false x1.Gaps.length (encL en_str x1.Gaps), .lst false x1.Kids.length (encL en_Node x1.Kids)])] = some (.p (.lst false r8.length (encL en_Row r8)), none) := fun H => R06_Rows_call h9
  obtain ⟨o, h22, h⟩ := Option.bind_eq_some_iff.1 h
  simp (maxSteps := 10000000) (implicitDefEqProofs := false) (disch := first | assumption | omega | exact rfl) only [bs, rs14, ls14, Nat.reduceAdd, ↓reduceIte, lenD_lst u26, loadD_iagg a46 z46, loadD_pagg a25 z25, wks_nil_, h3, ↓h4', h7, h10]
  refine Wp.ctx (fun x => seqW _ _ _ _ (blockW _ (x))) (L14_0_ok x2 r5 r8 ((0 : Int), ([] : List Pair)) _ o (by kernel_rfl) h22) ?_
  intro e st hq
  cases o with
  | next _ => (first | cases h | (simp at h))
  | jmp n_ s_ =>
   obtain ⟨rfl, rfl, hq⟩ := hq
   obtain ⟨s12_23, y0_23⟩ := s_
   unfold F14_0 at hq
   (try simp only [] at h hq)
   obtain rfl := Option.some.inj h
   simp (maxSteps := 10000000) (implicitDefEqProofs := false) (disch := first | assumption | omega | exact rfl) only [bs, rs14, ls14, Nat.reduceAdd, ↓reduceIte, lenD_lst u26, loadD_iagg a46 z46, loadD_pagg a25 z25, wks_nil_, h3, ↓h4', h7, h10, hq]
   refine ⟨by first | exact .inl trivial | exact .inr trivial | simp, ?_⟩
   exact finish_is (ds := [.ref 0 0 y0_23.length 2, iv (0 : Int)]) (x := .tup [.lst false y0_23.length (encL en_Pair y0_23), .v (.int .i64 (0 : Int))]) (y := .tup [.lst false y0_23.length (encL en_Pair y0_23), .v (.int .i64 (0 : Int))]) (l := [0]) rfl rfl rfl (purifyT_rp en_Pair_len rfl (by first | rfl | omega)) (by first | rfl | (simp only [wk, wks, wkL]; first | done | rfl))
  | ret _ => (first | cases h | (simp at h))
 ·rw [if_neg h4] at h
  have h4' : decide (r1 = (0 : Int)) = false := decide_eq_false h4
  obtain rfl := Option.some.inj h
  simp (maxSteps := 10000000) (implicitDefEqProofs := false) (disch := first | assumption | omega | exact rfl) only [bs, rs14, ls14, Nat.reduceAdd, ↓reduceIte, lenD_lst u26, loadD_iagg a46 z46, loadD_pagg a25 z25, wks_nil_, h3, ↓h4']
  refine ⟨by first | exact .inl trivial | exact .inr trivial | simp, ?_⟩
  exact finish_is (ds := [.p (.lst true 0 []), iv r1]) (x := .tup [.lst true 0 [], .v (.int .i64 r1)]) (y := .tup [.lst false ([] : List Pair).length (encL en_Pair ([] : List Pair)), .v (.int .i64 r1)]) (l := []) rfl rfl rfl rfl (by first | rfl | (simp only [wk, wks, wkL]; first | done | rfl))
theorem R27_Stable_call {b1 b2 b3 b4 b5 : Bool} {H : List Ob} {x0 : Node} {x1 : Node} {x2 : (List Pair)} {r : ((List Pair) × Int)} (h : R27_Stable x0 x1 x2 = some r) : callD (callW Try.prog A0) A0 H 14 [.p (.agg [.v (.int .i64 x0.Kind), .v (.string x0.Text), .lst b1 x0.Gaps.length (encL en_str x0.Gaps), .lst b2 x0.Kids.length (encL en_Node x0.Kids)]), .p (.agg [.v (.int .i64 x1.Kind), .v (.string x1.Text), .lst b3 x1.Gaps.length (encL en_str x1.Gaps), .lst b4 x1.Kids.length (encL en_Node x1.Kids)]), .p (.lst b5 x2.length (encL en_Pair x2))] = some (.p (.tup [.lst false r.1.length (encL en_Pair r.1), .v (.int .i64 r.2)]), none) :=
  callD_fun (args := [.agg [.v (.int .i64 x0.Kind), .v (.string x0.Text), .lst b1 x0.Gaps.length (encL en_str x0.Gaps), .lst b2 x0.Kids.length (encL en_Node x0.Kids)], .agg [.v (.int .i64 x1.Kind), .v (.string x1.Text), .lst b3 x1.Gaps.length (encL en_str x1.Gaps), .lst b4 x1.Kids.length (encL en_Node x1.Kids)], .lst b5 x2.length (encL en_Pair x2)]) rfl rfl rfl (by simp only [List.map_cons, List.map_nil, wk, wks, wkL]; exact f14_ok x0 x1 x2 _ h)
def ls15 := And.intro @idxL_29 (@neq_44)
noncomputable def L15_0 : Code := (loopsOf (bodyOf Try.f15)).getD 0 .skip
def g15_0 : List Ghost := [.weak [0, 1], .keep [0, 1, 5]]
def F15_0 (s0 : (List Move)) (s1 : (List Move)) : Int → St := fun s5 => ⟨[.p (.lst false s0.length (encL en_Move s0)), .p (.lst false s1.length (encL en_Move s1)), .junk, .junk, .junk, iv s5, .junk, .junk, .junk, .junk, .junk, .junk, .junk, .junk, .junk, .junk, .junk, .junk, .junk, .junk, .junk, .junk, .junk, .junk, .junk, .junk], [], 0⟩
theorem L15_0_ok (s0 : (List Move)) (s1 : (List Move)) : ∀ s st o, ghostsD g15_0 st = some (F15_0 s0 s1 s) → iter (R27_Same_L0 s0 s1) s = some o →
    Wp (evW Try.prog A0 15 (.loop L15_0) st) (OutQ (F15_0 s0 s1) g15_0 (fun n s st => n = 0 ∧ ghostsD [.keep [0, 1, 5]] st = some (F15_0 s0 s1 s)) (fun r st => finishD Try.prog A0 15 Try.f15 st = some (.p (.v (.bool r)), [])) o) := by
 refine Wp.iter ?_
 intro s st o hg h
 generalize s = s5 at hg h
 unfold R27_Same_L0 at h
 unfold g15_0 F15_0 at hg ⊢
 (try simp only [] at h hg)
 unfold L15_0 bodyOf Try.f15; simp only [Option.getD_some, loopsOf, List.append_nil, List.nil_append, List.cons_append, List.getD_cons_zero, List.getD_cons_succ]
 by_cases h2 : s5 < (s0.length : Int)
 ·rw [if_pos h2] at h
  have h2' : decide (s5 < (s0.length : Int)) = true := decide_eq_true h2
  obtain ⟨v3, h4, h⟩ := Option.bind_eq_some_iff.1 h
  obtain ⟨h4a, h4b, _⟩ := rd_some h4
  have h5 := lk_frz_44 h4
  obtain ⟨v6, h7, h⟩ := Option.bind_eq_some_iff.1 h
  obtain ⟨h7a, h7b, _⟩ := rd_some h7
  have h8 := lk_frz_44 h7
  by_cases h9 : v3.Kind = v6.Kind ∧ v3.Old = v6.Old ∧ v3.New = v6.New
  ·rw [if_pos h9] at h
   have h9' : decide (v3.Kind = v6.Kind ∧ v3.Old = v6.Old ∧ v3.New = v6.New) = true := decide_eq_true h9
   obtain rfl := Option.some.inj h
   simp (maxSteps := 10000000) (implicitDefEqProofs := false) (disch := first | assumption | omega | exact rfl) only [bs, rs15, ls15, Nat.reduceAdd, ↓reduceIte, lenD_lst u29, loadD_iagg a44 z44, hg, ↓h2', h5, h8, ↓h9']
   exact ⟨rfl, by kernel_rfl⟩
  ·rw [if_neg h9] at h
   have h9' : decide (v3.Kind = v6.Kind ∧ v3.Old = v6.Old ∧ v3.New = v6.New) = false := decide_eq_false h9
   obtain rfl := Option.some.inj h
   simp (maxSteps := 10000000) (implicitDefEqProofs := false) (disch := first | assumption | omega | exact rfl) only [bs, rs15, ls15, Nat.reduceAdd, ↓reduceIte, lenD_lst u29, loadD_iagg a44 z44, hg, ↓h2', h5, h8, ↓h9']
   refine ⟨rfl, ?_⟩
   exact finish_is (ds := [bv false]) (x := .v (.bool false)) (y := .v (.bool false)) (l := []) rfl rfl rfl rfl (by first | rfl | (simp only [wk, wks, wkL]; first | done | rfl))
 ·rw [if_neg h2] at h
  have h2' : decide (s5 < (s0.length : Int)) = false := decide_eq_false h2
  obtain rfl := Option.some.inj h
  simp (maxSteps := 10000000) (implicitDefEqProofs := false) (disch := first | assumption | omega | exact rfl) only [bs, rs15, ls15, Nat.reduceAdd, ↓reduceIte, lenD_lst u29, loadD_iagg a44 z44, hg, ↓h2']
  exact ⟨rfl, rfl, by kernel_rfl⟩
theorem f15_ok  (x0 : (List Move)) (x1 : (List Move)) (r : Bool) (h : R27_Same x0 x1 = some r) : callW Try.prog A0 15 [.p (.lst false x0.length (encL en_Move x0)), .p (.lst false x1.length (encL en_Move x1))] [] = some (.p (.v (.bool r)), []) := by
 refine call_ofH (fn := Try.f15) (c := bodyOf Try.f15) rfl (by kernel_rfl) (by kernel_rfl) ?_
 rw [show initS Try.f15 [.p (.lst false x0.length (encL en_Move x0)), .p (.lst false x1.length (encL en_Move x1))] [] = ⟨.p (.lst false x0.length (encL en_Move x0)) :: .p (.lst false x1.length (encL en_Move x1)) :: List.replicate 24 undefD, [], 0⟩ from by kernel_rfl]
 unfold R27_Same at h
 unfold bodyOf Try.f15; simp only [Option.getD_some, loopsOf, List.append_nil, List.nil_append, List.cons_append, List.getD_cons_zero, List.getD_cons_succ]
 simp only [List.replicate]
 by_cases h1 : (x0.length : Int) = (x1.length : Int)
 ·rw [if_pos h1] at h
  have h1' : decide ((x0.length : Int) = (x1.length : Int)) = true := decide_eq_true h1
  obtain ⟨o, h10, h⟩ := Option.bind_eq_some_iff.1 h
  simp (maxSteps := 10000000) (implicitDefEqProofs := false) (disch := first | assumption | omega | exact rfl) only [bs, rs15, ls15, Nat.reduceAdd, ↓reduceIte, lenD_lst u29, loadD_iagg a44 z44, ↓h1']
  refine Wp.ctx (fun x => seqW _ _ _ _ (blockW _ (x))) (L15_0_ok x0 x1 (0 : Int) _ o (by kernel_rfl) h10) ?_
  intro e st hq
  cases o with
  | next _ => (first | cases h | (simp at h))
  | jmp n_ s_ =>
   obtain ⟨rfl, rfl, hq⟩ := hq
   generalize s_ = s5_11 at h hq
   unfold F15_0 at hq
   (try simp only [] at h hq)
   obtain rfl := Option.some.inj h
   simp (maxSteps := 10000000) (implicitDefEqProofs := false) (disch := first | assumption | omega | exact rfl) only [bs, rs15, ls15, Nat.reduceAdd, ↓reduceIte, lenD_lst u29, loadD_iagg a44 z44, ↓h1', hq]
   refine ⟨by first | exact .inl trivial | exact .inr trivial | simp, ?_⟩
   exact finish_is (ds := [bv true]) (x := .v (.bool true)) (y := .v (.bool true)) (l := []) rfl rfl rfl rfl (by first | rfl | (simp only [wk, wks, wkL]; first | done | rfl))
  | ret r12 =>
   obtain ⟨rfl, hq⟩ := hq
   obtain rfl := Option.some.inj h
   simp (maxSteps := 10000000) (implicitDefEqProofs := false) (disch := first | assumption | omega | exact rfl) only [bs, rs15, ls15, Nat.reduceAdd, ↓reduceIte, lenD_lst u29, loadD_iagg a44 z44]
   exact ⟨by first | exact .inl trivial | exact .inr trivial | simp, hq⟩
 ·rw [if_neg h1] at h
  have h1' : decide ((x0.length : Int) = (x1.length : Int)) = false := decide_eq_false h1
  obtain rfl := Option.some.inj h
  simp (maxSteps := 10000000) (implicitDefEqProofs := false) (disch := first | assumption | omega | exact rfl) only [bs, rs15, ls15, Nat.reduceAdd, ↓reduceIte, lenD_lst u29, loadD_iagg a44 z44, ↓h1']
  refine ⟨by first | exact .inl trivial | exact .inr trivial | simp, ?_⟩
  exact finish_is (ds := [bv false]) (x := .v (.bool false)) (y := .v (.bool false)) (l := []) rfl rfl rfl rfl (by first | rfl | (simp only [wk, wks, wkL]; first | done | rfl))
theorem R27_Same_call {b1 b2 : Bool} {H : List Ob} {x0 : (List Move)} {x1 : (List Move)} {r : Bool} (h : R27_Same x0 x1 = some r) : callD (callW Try.prog A0) A0 H 15 [.p (.lst b1 x0.length (encL en_Move x0)), .p (.lst b2 x1.length (encL en_Move x1))] = some (.p (.v (.bool r)), none) :=
  callD_fun (args := [.lst b1 x0.length (encL en_Move x0), .lst b2 x1.length (encL en_Move x1)]) rfl rfl rfl (by simp only [List.map_cons, List.map_nil, wk, wks, wkL]; exact f15_ok x0 x1 _ h)
def ls16 := And.intro @idxL_26 (@neq_46)
noncomputable def L16_0 : Code := (loopsOf (bodyOf Try.f16)).getD 0 .skip
def g16_0 : List Ghost := [.weak [0, 1], .keep [0, 1, 5]]
def F16_0 (s0 : (List Pair)) (s1 : (List Pair)) : Int → St := fun s5 => ⟨[.p (.lst false s0.length (encL en_Pair s0)), .p (.lst false s1.length (encL en_Pair s1)), .junk, .junk, .junk, iv s5, .junk, .junk, .junk, .junk, .junk, .junk, .junk, .junk, .junk, .junk, .junk, .junk, .junk, .junk, .junk, .junk, .junk, .junk, .junk, .junk], [], 0⟩
theorem L16_0_ok (s0 : (List Pair)) (s1 : (List Pair)) : ∀ s st o, ghostsD g16_0 st = some (F16_0 s0 s1 s) → iter (R19_Pairs_L0 s0 s1) s = some o →
    Wp (evW Try.prog A0 16 (.loop L16_0) st) (OutQ (F16_0 s0 s1) g16_0 (fun n s st => n = 0 ∧ ghostsD [.keep [0, 1, 5]] st = some (F16_0 s0 s1 s)) (fun r st => finishD Try.prog A0 16 Try.f16 st = some (.p (.v (.bool r)), [])) o) := by
 refine Wp.iter ?_
 intro s st o hg h
 generalize s = s5 at hg h
 unfold R19_Pairs_L0 at h
 unfold g16_0 F16_0 at hg ⊢
 (try simp only [] at h hg)
 unfold L16_0 bodyOf Try.f16; simp only [Option.getD_some, loopsOf, List.append_nil, List.nil_append, List.cons_append, List.getD_cons_zero, List.getD_cons_succ]
 by_cases h2 : s5 < (s0.length : Int)
 ·rw [if_pos h2] at h
  have h2' : decide (s5 < (s0.length : Int)) = true := decide_eq_true h2
  obtain ⟨v3, h4, h⟩ := Option.bind_eq_some_iff.1 h
  obtain ⟨h4a, h4b, _⟩ := rd_some h4
  have h5 := lk_frz_46 h4
  obtain ⟨v6, h7, h⟩ := Option.bind_eq_some_iff.1 h
  obtain ⟨h7a, h7b, _⟩ := rd_some h7
  have h8 := lk_frz_46 h7
  by_cases h9 : v3.Old = v6.Old ∧ v3.New = v6.New
  ·rw [if_pos h9] at h
   have h9' : decide (v3.Old = v6.Old ∧ v3.New = v6.New) = true := decide_eq_true h9
   obtain rfl := Option.some.inj h
   simp (maxSteps := 10000000) (implicitDefEqProofs := false) (disch := first | assumption | omega | exact rfl) only [bs, rs16, ls16, Nat.reduceAdd, ↓reduceIte, lenD_lst u26, loadD_iagg a46 z46, hg, ↓h2', h5, h8, ↓h9']
   exact ⟨rfl, by kernel_rfl⟩
  ·rw [if_neg h9] at h
   have h9' : decide (v3.Old = v6.Old ∧ v3.New = v6.New) = false := decide_eq_false h9
   obtain rfl := Option.some.inj h
   simp (maxSteps := 10000000) (implicitDefEqProofs := false) (disch := first | assumption | omega | exact rfl) only [bs, rs16, ls16, Nat.reduceAdd, ↓reduceIte, lenD_lst u26, loadD_iagg a46 z46, hg, ↓h2', h5, h8, ↓h9']
   refine ⟨rfl, ?_⟩
   exact finish_is (ds := [bv false]) (x := .v (.bool false)) (y := .v (.bool false)) (l := []) rfl rfl rfl rfl (by first | rfl | (simp only [wk, wks, wkL]; first | done | rfl))
 ·rw [if_neg h2] at h
  have h2' : decide (s5 < (s0.length : Int)) = false := decide_eq_false h2
  obtain rfl := Option.some.inj h
  simp (maxSteps := 10000000) (implicitDefEqProofs := false) (disch := first | assumption | omega | exact rfl) only [bs, rs16, ls16, Nat.reduceAdd, ↓reduceIte, lenD_lst u26, loadD_iagg a46 z46, hg, ↓h2']
  exact ⟨rfl, rfl, by kernel_rfl⟩
theorem f16_ok  (x0 : (List Pair)) (x1 : (List Pair)) (r : Bool) (h : R19_Pairs x0 x1 = some r) : callW Try.prog A0 16 [.p (.lst false x0.length (encL en_Pair x0)), .p (.lst false x1.length (encL en_Pair x1))] [] = some (.p (.v (.bool r)), []) := by
 refine call_ofH (fn := Try.f16) (c := bodyOf Try.f16) rfl (by kernel_rfl) (by kernel_rfl) ?_
 rw [show initS Try.f16 [.p (.lst false x0.length (encL en_Pair x0)), .p (.lst false x1.length (encL en_Pair x1))] [] = ⟨.p (.lst false x0.length (encL en_Pair x0)) :: .p (.lst false x1.length (encL en_Pair x1)) :: List.replicate 24 undefD, [], 0⟩ from by kernel_rfl]
 unfold R19_Pairs at h
 unfold bodyOf Try.f16; simp only [Option.getD_some, loopsOf, List.append_nil, List.nil_append, List.cons_append, List.getD_cons_zero, List.getD_cons_succ]
 simp only [List.replicate]
 by_cases h1 : (x0.length : Int) = (x1.length : Int)
 ·rw [if_pos h1] at h
  have h1' : decide ((x0.length : Int) = (x1.length : Int)) = true := decide_eq_true h1
  obtain ⟨o, h10, h⟩ := Option.bind_eq_some_iff.1 h
  simp (maxSteps := 10000000) (implicitDefEqProofs := false) (disch := first | assumption | omega | exact rfl) only [bs, rs16, ls16, Nat.reduceAdd, ↓reduceIte, lenD_lst u26, loadD_iagg a46 z46, ↓h1']
  refine Wp.ctx (fun x => seqW _ _ _ _ (blockW _ (x))) (L16_0_ok x0 x1 (0 : Int) _ o (by kernel_rfl) h10) ?_
  intro e st hq
  cases o with
  | next _ => (first | cases h | (simp at h))
  | jmp n_ s_ =>
   obtain ⟨rfl, rfl, hq⟩ := hq
   generalize s_ = s5_11 at h hq
   unfold F16_0 at hq
   (try simp only [] at h hq)
   obtain rfl := Option.some.inj h
   simp (maxSteps := 10000000) (implicitDefEqProofs := false) (disch := first | assumption | omega | exact rfl) only [bs, rs16, ls16, Nat.reduceAdd, ↓reduceIte, lenD_lst u26, loadD_iagg a46 z46, ↓h1', hq]
   refine ⟨by first | exact .inl trivial | exact .inr trivial | simp, ?_⟩
   exact finish_is (ds := [bv true]) (x := .v (.bool true)) (y := .v (.bool true)) (l := []) rfl rfl rfl rfl (by first | rfl | (simp only [wk, wks, wkL]; first | done | rfl))
  | ret r12 =>
   obtain ⟨rfl, hq⟩ := hq
   obtain rfl := Option.some.inj h
   simp (maxSteps := 10000000) (implicitDefEqProofs := false) (disch := first | assumption | omega | exact rfl) only [bs, rs16, ls16, Nat.reduceAdd, ↓reduceIte, lenD_lst u26, loadD_iagg a46 z46]
   exact ⟨by first | exact .inl trivial | exact .inr trivial | simp, hq⟩
 ·rw [if_neg h1] at h
  have h1' : decide ((x0.length : Int) = (x1.length : Int)) = false := decide_eq_false h1
  obtain rfl := Option.some.inj h
  simp (maxSteps := 10000000) (implicitDefEqProofs := false) (disch := first | assumption | omega | exact rfl) only [bs, rs16, ls16, Nat.reduceAdd, ↓reduceIte, lenD_lst u26, loadD_iagg a46 z46, ↓h1']
  refine ⟨by first | exact .inl trivial | exact .inr trivial | simp, ?_⟩
  exact finish_is (ds := [bv false]) (x := .v (.bool false)) (y := .v (.bool false)) (l := []) rfl rfl rfl rfl (by first | rfl | (simp only [wk, wks, wkL]; first | done | rfl))
theorem R19_Pairs_call {b1 b2 : Bool} {H : List Ob} {x0 : (List Pair)} {x1 : (List Pair)} {r : Bool} (h : R19_Pairs x0 x1 = some r) : callD (callW Try.prog A0) A0 H 16 [.p (.lst b1 x0.length (encL en_Pair x0)), .p (.lst b2 x1.length (encL en_Pair x1))] = some (.p (.v (.bool r)), none) :=
  callD_fun (args := [.lst b1 x0.length (encL en_Pair x0), .lst b2 x1.length (encL en_Pair x1)]) rfl rfl rfl (by simp only [List.map_cons, List.map_nil, wk, wks, wkL]; exact f16_ok x0 x1 _ h)
def ls3 := And.intro @ex_2_0 (And.intro @ex_2_1 (@varlv_4_0_4))
theorem f3_ok  (x0 : Node) (x1 : Node) (x2 : (List Pair)) (r : Bool) (h : law27_MovesList x0 x1 x2 = some r) : callW Try.prog A0 3 [.p (.agg [.v (.int .i64 x0.Kind), .v (.string x0.Text), .lst false x0.Gaps.length (encL en_str x0.Gaps), .lst false x0.Kids.length (encL en_Node x0.Kids)]), .p (.agg [.v (.int .i64 x1.Kind), .v (.string x1.Text), .lst false x1.Gaps.length (encL en_str x1.Gaps), .lst false x1.Kids.length (encL en_Node x1.Kids)]), .p (.lst false x2.length (encL en_Pair x2))] [] = some (.p (.v (.bool r)), []) := by
 refine call_ofH (fn := Try.f3) (c := bodyOf Try.f3) rfl (by kernel_rfl) (by kernel_rfl) ?_
 rw [show initS Try.f3 [.p (.agg [.v (.int .i64 x0.Kind), .v (.string x0.Text), .lst false x0.Gaps.length (encL en_str x0.Gaps), .lst false x0.Kids.length (encL en_Node x0.Kids)]), .p (.agg [.v (.int .i64 x1.Kind), .v (.string x1.Text), .lst false x1.Gaps.length (encL en_str x1.Gaps), .lst false x1.Kids.length (encL en_Node x1.Kids)]), .p (.lst false x2.length (encL en_Pair x2))] [] = ⟨.p (.agg [.v (.int .i64 x0.Kind), .v (.string x0.Text), .lst false x0.Gaps.length (encL en_str x0.Gaps), .lst false x0.Kids.length (encL en_Node x0.Kids)]) :: .p (.agg [.v (.int .i64 x1.Kind), .v (.string x1.Text), .lst false x1.Gaps.length (encL en_str x1.Gaps), .lst false x1.Kids.length (encL en_Node x1.Kids)]) :: .p (.lst false x2.length (encL en_Pair x2)) :: List.replicate 75 undefD, [], 0⟩ from by kernel_rfl]
 unfold law27_MovesList at h
 unfold bodyOf Try.f3; simp only [Option.getD_some, loopsOf, List.append_nil, List.nil_append, List.cons_append, List.getD_cons_zero, List.getD_cons_succ]
 simp only [List.replicate]
 obtain ⟨r1, h2, h⟩ := Option.bind_eq_some_iff.1 h
 have h3 : ∀ H, callD (callW Try.prog A0) A0 H 9 [.p (.agg [.v (.int .i64 x0.Kind), .v (.string x0.Text), .lst false x0.Gaps.length (encL en_str x0.Gaps), .lst false x0.Kids.length (encL en_Node x0.Kids)])] = some (.p (.v (.bool r1)), none) := fun H => law27_small_call h2
 by_cases h4 : r1 = true
 ·rw [if_pos h4] at h
  obtain ⟨r5, h6, h⟩ := Option.bind_eq_some_iff.1 h
  have h7 : ∀ H, callD (callW Try.prog A0) A0 H 9 [.p (.agg [.v (.int .i64 x1.Kind), .v (.string x1.Text), .lst false x1.Gaps.length (encL en_str x1.Gaps), .lst false x1.Kids.length (encL en_Node x1.Kids)])] = some (.p (.v (.bool r5)), none) := fun H => law27_small_call h6
  by_cases h8 : r5 = true
  ·rw [if_pos h8] at h
   by_cases h9 : (200 : Int) < (x2.length : Int)
   ·rw [if_pos h9] at h
    have h9' : decide ((200 : Int) < (x2.length : Int)) = true := decide_eq_true h9
    obtain ⟨r10, h11, h⟩ := Option.bind_eq_some_iff.1 h
    have h12 : ∀ H, callD (callW Try.prog A0) A0 H 10 [] = some (.p (.v (.bool r10)), none) := fun H => law27_awake_call h11
    obtain rfl := Option.some.inj h
    simp (maxSteps := 10000000) (implicitDefEqProofs := false) (disch := first | assumption | omega | exact rfl) only [bs, rs3, ls3, Nat.reduceAdd, ↓reduceIte, lenD_lst u26, loadD_pagg a25 z25, h3, h4, h7, h8, ↓h9', h12]
    refine ⟨by first | exact .inl trivial | exact .inr trivial | simp, ?_⟩
    exact finish_is (ds := [bv r10]) (x := .v (.bool r10)) (y := .v (.bool r10)) (l := []) rfl rfl rfl rfl (by first | rfl | (simp only [wk, wks, wkL]; first | done | rfl))
   ·rw [if_neg h9] at h
    have h9' : decide ((200 : Int) < (x2.length : Int)) = false := decide_eq_false h9
    obtain ⟨r13, h14, h⟩ := Option.bind_eq_some_iff.1 h
    have h15 : ∀ H, callD (callW Try.prog A0) A0 H 11 [.p (.agg [.v (.int .i64 x0.Kind), .v (.string x0.Text), .lst false x0.Gaps.length (encL en_str x0.Gaps), .lst false x0.Kids.length (encL en_Node x0.Kids)]), .p (.agg [.v (.int .i64 x1.Kind), .v (.string x1.Text), .lst false x1.Gaps.length (encL en_str x1.Gaps), .lst false x1.Kids.length (encL en_Node x1.Kids)]), .p (.lst false x2.length (encL en_Pair x2))] = some (.p (.tup [.lst false r13.1.length (encL en_Move r13.1), .v (.int .i64 r13.2)]), none) := fun H => moves_Moves_call h14
    obtain ⟨r16, h17, h⟩ := Option.bind_eq_some_iff.1 h
    have h18 : ∀ H, callD (callW Try.prog A0) A0 H 12 [.p (.agg [.v (.int .i64 x0.Kind), .v (.string x0.Text), .lst false x0.Gaps.length (encL en_str x0.Gaps), .lst false x0.Kids.length (encL en_Node x0.Kids)]), .p (.agg [.v (.int .i64 x1.Kind), .v (.string x1.Text), .lst false x1.Gaps.length (encL en_str x1.Gaps), .lst false x1.Kids.length (encL en_Node x1.Kids)]), .p (.lst false x2.length (encL en_Pair x2))] = some (.p (.tup [.lst false r16.1.length (encL en_Move r16.1), .v (.int .i64 r16.2)]), none) := fun H => R27_Moves_call h17
    obtain ⟨r19, h20, h⟩ := Option.bind_eq_some_iff.1 h
    have h21 : ∀ H, callD (callW Try.prog A0) A0 H 13 [.p (.agg [.v (.int .i64 x0.Kind), .v (.string x0.Text), .lst false x0.Gaps.length (encL en_str x0.Gaps), .lst false x0.Kids.length (encL en_Node x0.Kids)]), .p (.agg [.v (.int .i64 x1.Kind), .v (.string x1.Text), .lst false x1.Gaps.length (encL en_str x1.Gaps), .lst false x1.Kids.length (encL en_Node x1.Kids)]), .p (.lst false x2.length (encL en_Pair x2))] = some (.p (.tup [.lst false r19.1.length (encL en_Pair r19.1), .v (.int .i64 r19.2)]), none) := fun H => moves_Stable_call h20
    obtain ⟨r22, h23, h⟩ := Option.bind_eq_some_iff.1 h
    have h24 : ∀ H, callD (callW Try.prog A0) A0 H 14 [.p (.agg [.v (.int .i64 x0.Kind), .v (.string x0.Text), .lst false x0.Gaps.length (encL en_str x0.Gaps), .lst false x0.Kids.length (encL en_Node x0.Kids)]), .p (.agg [.v (.int .i64 x1.Kind), .v (.string x1.Text), .lst false x1.Gaps.length (encL en_str x1.Gaps), .lst false x1.Kids.length (encL en_Node x1.Kids)]), .p (.lst false x2.length (encL en_Pair x2))] = some (.p (.tup [.lst false r22.1.length (encL en_Pair r22.1), .v (.int .i64 r22.2)]), none) := fun H => R27_Stable_call h23
    by_cases h25 : r13.2 = r16.2
    ·rw [if_pos h25] at h
     have h25' : decide (r13.2 = r16.2) = true := decide_eq_true h25
     by_cases h26 : r19.2 = r22.2
     ·rw [if_pos h26] at h
      have h26' : decide (r19.2 = r22.2) = true := decide_eq_true h26
      obtain ⟨r27, h28, h⟩ := Option.bind_eq_some_iff.1 h
      have h29 : ∀ H, callD (callW Try.prog A0) A0 H 15 [.p (.lst false r13.1.length (encL en_Move r13.1)), .p (.lst false r16.1.length (encL en_Move r16.1))] = some (.p (.v (.bool r27)), none) := fun H => R27_Same_call h28
      by_cases h30 : r27 = true
      ·rw [if_pos h30] at h
       obtain ⟨r31, h32, h⟩ := Option.bind_eq_some_iff.1 h
       have h33 : ∀ H, callD (callW Try.prog A0) A0 H 16 [.p (.lst false r19.1.length (encL en_Pair r19.1)), .p (.lst false r22.1.length (encL en_Pair r22.1))] = some (.p (.v (.bool r31)), none) := fun H => R19_Pairs_call h32
       by_cases h34 : r31 = true
       ·rw [if_pos h34] at h
        obtain ⟨r35, h36, h⟩ := Option.bind_eq_some_iff.1 h
        have h37 : ∀ H, callD (callW Try.prog A0) A0 H 10 [] = some (.p (.v (.bool r35)), none) := fun H => law27_awake_call h36
        obtain rfl := Option.some.inj h
        simp (maxSteps := 10000000) (implicitDefEqProofs := false) (disch := first | assumption | omega | exact rfl) only [bs, rs3, ls3, Nat.reduceAdd, ↓reduceIte, lenD_lst u26, loadD_pagg a25 z25, h3, h4, h7, h8, ↓h9', h15, h18, h21, h24, ↓h25', ↓h26', h29, h30, h33, h34, h37]
        refine ⟨by first | exact .inl trivial | exact .inr trivial | simp, ?_⟩
        exact finish_is (ds := [bv r35]) (x := .v (.bool r35)) (y := .v (.bool r35)) (l := []) rfl rfl rfl rfl (by first | rfl | (simp only [wk, wks, wkL]; first | done | rfl))
       ·rw [if_neg h34] at h
        replace h34 := Bool.eq_false_iff.2 h34
        obtain rfl := Option.some.inj h
        simp (maxSteps := 10000000) (implicitDefEqProofs := false) (disch := first | assumption | omega | exact rfl) only [bs, rs3, ls3, Nat.reduceAdd, ↓reduceIte, lenD_lst u26, loadD_pagg a25 z25, h3, h4, h7, h8, ↓h9', h15, h18, h21, h24, ↓h25', ↓h26', h29, h30, h33, h34]
        refine ⟨by first | exact .inl trivial | exact .inr trivial | simp, ?_⟩
        exact finish_is (ds := [bv false]) (x := .v (.bool false)) (y := .v (.bool false)) (l := []) rfl rfl rfl rfl (by first | rfl | (simp only [wk, wks, wkL]; first | done | rfl))
      ·rw [if_neg h30] at h
       replace h30 := Bool.eq_false_iff.2 h30
       obtain rfl := Option.some.inj h
       simp (maxSteps := 10000000) (implicitDefEqProofs := false) (disch := first | assumption | omega | exact rfl) only [bs, rs3, ls3, Nat.reduceAdd, ↓reduceIte, lenD_lst u26, loadD_pagg a25 z25, h3, h4, h7, h8, ↓h9', h15, h18, h21, h24, ↓h25', ↓h26', h29, h30]
       refine ⟨by first | exact .inl trivial | exact .inr trivial | simp, ?_⟩
       exact finish_is (ds := [bv false]) (x := .v (.bool false)) (y := .v (.bool false)) (l := []) rfl rfl rfl rfl (by first | rfl | (simp only [wk, wks, wkL]; first | done | rfl))
     ·rw [if_neg h26] at h
      have h26' : decide (r19.2 = r22.2) = false := decide_eq_false h26
      obtain rfl := Option.some.inj h
      simp (maxSteps := 10000000) (implicitDefEqProofs := false) (disch := first | assumption | omega | exact rfl) only [bs, rs3, ls3, Nat.reduceAdd, ↓reduceIte, lenD_lst u26, loadD_pagg a25 z25, h3, h4, h7, h8, ↓h9', h15, h18, h21, h24, ↓h25', ↓h26']
      refine ⟨by first | exact .inl trivial | exact .inr trivial | simp, ?_⟩
      exact finish_is (ds := [bv false]) (x := .v (.bool false)) (y := .v (.bool false)) (l := []) rfl rfl rfl rfl (by first | rfl | (simp only [wk, wks, wkL]; first | done | rfl))
    ·rw [if_neg h25] at h
     have h25' : decide (r13.2 = r16.2) = false := decide_eq_false h25
     obtain rfl := Option.some.inj h
     simp (maxSteps := 10000000) (implicitDefEqProofs := false) (disch := first | assumption | omega | exact rfl) only [bs, rs3, ls3, Nat.reduceAdd, ↓reduceIte, lenD_lst u26, loadD_pagg a25 z25, h3, h4, h7, h8, ↓h9', h15, h18, h21, h24, ↓h25']
     refine ⟨by first | exact .inl trivial | exact .inr trivial | simp, ?_⟩
     exact finish_is (ds := [bv false]) (x := .v (.bool false)) (y := .v (.bool false)) (l := []) rfl rfl rfl rfl (by first | rfl | (simp only [wk, wks, wkL]; first | done | rfl))
  ·rw [if_neg h8] at h
   replace h8 := Bool.eq_false_iff.2 h8
   obtain ⟨r38, h39, h⟩ := Option.bind_eq_some_iff.1 h
   have h40 : ∀ H, callD (callW Try.prog A0) A0 H 10 [] = some (.p (.v (.bool r38)), none) := fun H => law27_awake_call h39
   obtain rfl := Option.some.inj h
   simp (maxSteps := 10000000) (implicitDefEqProofs := false) (disch := first | assumption | omega | exact rfl) only [bs, rs3, ls3, Nat.reduceAdd, ↓reduceIte, lenD_lst u26, loadD_pagg a25 z25, h3, h4, h7, h8, h40]
   refine ⟨by first | exact .inl trivial | exact .inr trivial | simp, ?_⟩
   exact finish_is (ds := [bv r38]) (x := .v (.bool r38)) (y := .v (.bool r38)) (l := []) rfl rfl rfl rfl (by first | rfl | (simp only [wk, wks, wkL]; first | done | rfl))
 ·rw [if_neg h4] at h
  replace h4 := Bool.eq_false_iff.2 h4
  obtain ⟨r41, h42, h⟩ := Option.bind_eq_some_iff.1 h
  have h43 : ∀ H, callD (callW Try.prog A0) A0 H 10 [] = some (.p (.v (.bool r41)), none) := fun H => law27_awake_call h42
  obtain rfl := Option.some.inj h
  simp (maxSteps := 10000000) (implicitDefEqProofs := false) (disch := first | assumption | omega | exact rfl) only [bs, rs3, ls3, Nat.reduceAdd, ↓reduceIte, lenD_lst u26, loadD_pagg a25 z25, h3, h4, h43]
  refine ⟨by first | exact .inl trivial | exact .inr trivial | simp, ?_⟩
  exact finish_is (ds := [bv r41]) (x := .v (.bool r41)) (y := .v (.bool r41)) (l := []) rfl rfl rfl rfl (by first | rfl | (simp only [wk, wks, wkL]; first | done | rfl))
end Xn

